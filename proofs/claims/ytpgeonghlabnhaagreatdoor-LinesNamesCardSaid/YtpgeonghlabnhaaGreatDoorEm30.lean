/- Em30: one instruction of a closed run, the heap with its newest block first. No conditions beyond those written. -/
import Derived.Test.YtpgeonghlabnhaaGreatDoorEm29
set_option linter.unusedVariables false
set_option linter.unusedSimpArgs false
namespace Go.Proofs.YtpgeonghlabnhaaGreatDoor.Em
open Go
/-- what an instruction makes of the heap -/
inductive Eff where
  | no
  | set (id : Nat) (o : EO)
  | push (o : EO)
  | both (id : Nat) (o1 o2 : EO)
def Eff.app (h : EH) : Eff → EH
  | .no => h
  | .set id o => setH h id o
  | .push o => pushH h o
  | .both id o1 o2 => pushH (setH h id o1) o2
inductive XE where
  | stuck
  | ret (v : EV) (e : Eff)
  | need (b : Bool) (r : XE)
  | br (b : Bool) (v1 : EV) (e1 : Eff) (v2 : EV) (e2 : Eff)
  | opt (o : Option EV) (ok : Bool) (z : EV)
  | same (v w : EV)
  | lookS (c : List EV) (off n : Nat) (agg : Bool) (w : EV)
def XE.to (h : EH) : XE → SR
  | .stuck => .stuck
  | .ret v e => .ret v (e.app h)
  | .need b r => .need b (r.to h)
  | .br b v1 e1 v2 e2 => .br b v1 (e1.app h) v2 (e2.app h)
  | .opt o ok z => .opt o ok z h
  | .same v w => .same v w h
  | .lookS c off n agg w => .lookS c off n agg w h
section
variable (A : Ar)
def srcX (es : Nat) (g : Nat → EO) : EV → Option (Nat × List EV)
  | .lit (.slice none 0 0) => some (0, [])
  | .isl n _ c => some (n, A.tak (A.mul n es) c)
  | .sl es' id off n _ => if es' = es then match g id with
    | .blk c => some (n, A.tak (A.mul n es) (A.drp off c))
    | .row s => if es = 1 then some (n, A.tak n (A.drp off (A.enc s))) else none
    | _ => none else none
  | .nbuf => some (0, [])
  | .lit (.string s) => if es = 1 then some (A.bsz s, A.enc s) else none
  | _ => none
theorem srcX_eq (es : Nat) (h : EH) (y : EV) : srcE A es h y = srcX A es (getH h) y := by unfold srcE srcX; rfl
def appendX (es bytes : Nat) (x y : EV) (g : Nat → EO) (s : Nat) : XE :=
  match srcX A es g y with
  | none => .stuck
  | some (n, ys) =>
    .need (A.le (A.mul n es) (A.len ys))
    (match x with
    | .lit (.slice none 0 0) =>
      .need (A.room n bytes) (.br (A.isz n) (.lit (.slice none 0 0)) .no (.sl es s 0 n none) (.push (.blk ys)))
    | .sl es' id off len cap =>
      if es' = es then
        match g id, cap with
        | .blk c, none =>
          .need (A.le (A.add off (A.mul len es)) (A.len c)) (.need (A.room (A.add len n) bytes)
            (.ret (.sl es s 0 (A.add len n) none) (.both id .dead (.blk (A.app (A.tak (A.mul len es) (A.drp off c)) ys)))))
        | .blk c, some k =>
          .need (A.le (A.add off (A.mul k es)) (A.len c)) (.need (A.le len k) (.need (A.room (A.add len n) bytes)
            (.br (A.le (A.add len n) k)
              (.sl es id off (A.add len n) (some k)) (.set id (.blk (A.setl c (A.add off (A.mul len es)) ys)))
              (.sl es s 0 (A.add len n) none) (.push (.blk (A.app (A.tak (A.mul len es) (A.drp off c)) ys))))))
        | _, _ => .stuck
      else .stuck
    | .isl len (some k) c =>
      .need (A.le (A.mul len es) (A.len c)) (.need (A.room (A.add len n) bytes) (.need (A.bnot (A.le (A.add len n) k))
        (.ret (.sl es s 0 (A.add len n) none) (.push (.blk (A.app (A.tak (A.mul len es) c) ys))))))
    | _ => .stuck)
theorem appendX_eq (es bytes : Nat) (x y : EV) (h : EH) : appendE A es bytes x y h = (appendX A es bytes x y (getH h) (sizeH h)).to h := by
  unfold appendE appendX
  rw [srcX_eq]
  cases srcX A es (getH h) y with
  | none => rfl
  | some p =>
    obtain ⟨n, ys⟩ := p
    simp only [XE.to]
    congr 1
    cases x with
    | lit v =>
      cases v with
      | slice a n k => cases a <;> cases n <;> cases k <;> rfl
      | _ => rfl
    | isl len cap c => cases cap <;> rfl
    | sl es' id off len cap =>
      simp only
      by_cases he : es' = es
      · simp only [he, if_true]
        cases getH h id <;> cases cap <;> rfl
      · simp only [he, if_false]; rfl
    | _ => rfl
def storeX (n : Nat) (x v : EV) (g : Nat → EO) : XE :=
  if lenL (cellsE v) == n then if allOne (cellsE v) then
    match x with
    | .ptr id off => match g id with
      | .blk c => match wrt c off (cellsE v) with
        | some c' => .ret undefE (.set id (.blk c'))
        | none => .stuck
      | _ => .stuck
    | .eptr id off => match g id with
      | .blk c => .need (A.le (A.add off n) (A.len c)) (.ret undefE (.set id (.blk (A.setl c off (cellsE v)))))
      | _ => .stuck
    | _ => .stuck
  else .stuck else .stuck
theorem storeX_eq (n : Nat) (x v : EV) (h : EH) : storeE A n x v h = (storeX A n x v (getH h)).to h := by
  unfold storeE storeX
  repeat' split
  all_goals first | rfl | simp_all [XE.to, Eff.app]
def b2sX (x : EV) (g : Nat → EO) : XE :=
  match x with
  | .lit (.slice none 0 0) => .ret (.lit (.string ByteArray.empty)) .no
  | .isl n _ c => .need (A.byt n c) (.ret (.lit (.string (A.dec (A.tak n c)))) .no)
  | .sl es id off n _ => if es = 1 then match g id with
    | .blk c => .need (A.byt n (A.drp off c)) (.ret (.lit (.string (A.dec (A.tak n (A.drp off c))))) .no)
    | .row s => .need (A.le (A.add off n) (A.bsz s)) (.ret (.lit (.string (A.bex s off (A.add off n)))) .no)
    | _ => .stuck else .stuck
  | .nbuf => .ret (.lit (.string ByteArray.empty)) .no
  | _ => .stuck
theorem b2sX_eq (x : EV) (h : EH) : b2sE A x h = (b2sX A x (getH h)).to h := by
  unfold b2sE b2sX
  cases x with
  | lit v =>
    cases v with
    | slice a n k => cases a <;> cases n <;> cases k <;> rfl
    | _ => rfl
  | sl es id off n cap =>
    simp only
    by_cases he : es = 1
    · simp only [he, if_true]
      cases getH h id <;> rfl
    · simp only [he, if_false]; rfl
  | _ => rfl
def strishX (x : EV) (g : Nat → EO) : XE :=
  match x with
  | .sl es id off n cap => match g id with
    | .blk _ => .need (A.bnot (A.isz n)) (.ret (.sl es id off n cap) .no)
    | _ => .stuck
  | _ => .stuck
theorem strishX_eq (x : EV) (h : EH) : strishE A x h = (strishX A x (getH h)).to h := by
  unfold strishE strishX
  cases x with
  | sl es id off n cap => simp only; cases getH h id <;> rfl
  | _ => rfl
def lookupX (ks : Nat) (z : List Value) (isA ok : Bool) (x k : EV) (g : Nat → EO) : XE :=
  match x with
  | .mp id => match g id with
    | .emap es => .need (A.keyed ks es k) (.opt (A.find es k) ok (zvE z isA))
    | _ => .stuck
  | .lit (.map none) => .need (A.keyed ks [] k) (.ret (if ok then .tup [zvE z isA, .lit (.bool false)] else zvE z isA) .no)
  | _ => .stuck
theorem lookupX_eq (ks : Nat) (z : List Value) (isA ok : Bool) (x k : EV) (h : EH) : lookupE A ks z isA ok x k h = (lookupX A ks z isA ok x k (getH h)).to h := by
  unfold lookupE lookupX
  split <;> (try split) <;> first | rfl | simp_all [XE.to, Eff.app]
def mapSetX (ks : Nat) (x k v : EV) (g : Nat → EO) : XE :=
  match x with
  | .mp id => match g id with
    | .emap es => .need (A.keyed ks es k) (.ret undefE (.set id (.emap (A.mset es k v))))
    | _ => .stuck
  | _ => .stuck
theorem mapSetX_eq (ks : Nat) (x k v : EV) (h : EH) : mapSetE A ks x k v h = (mapSetX A ks x k v (getH h)).to h := by
  unfold mapSetE mapSetX
  repeat' split
  all_goals first | rfl | simp_all [XE.to, Eff.app]
def lenX (k : Nat) (x : EV) (g : Nat → EO) : XE :=
  match k with
  | 0 => match x with
    | .lit (.string s) => .ret (.lit (.int .i64 (A.ofn (A.bsz s)))) .no
    | _ => .stuck
  | 1 => match x with
    | .lit (.slice none 0 0) => .ret (.lit (.int .i64 0)) .no
    | .nbuf => .ret (.lit (.int .i64 0)) .no
    | .sl _ _ _ n _ => .ret (.lit (.int .i64 (A.ofn n))) .no
    | .isl n _ _ => .ret (.lit (.int .i64 (A.ofn n))) .no
    | _ => .stuck
  | _ => match x with
    | .lit (.map none) => .ret (.lit (.int .i64 0)) .no
    | .mp id => match g id with
      | .emap es => .ret (.lit (.int .i64 (A.ofn (A.mlen es)))) .no
      | _ => .stuck
    | _ => .stuck
theorem lenX_eq (k : Nat) (x : EV) (h : EH) : lenE A k x h = (lenX A k x (getH h)).to h := by
  unfold lenE lenX
  split
  · split <;> first | rfl | simp_all [XE.to, Eff.app]
  · split <;> first | rfl | simp_all [XE.to, Eff.app]
  · split <;> (try split) <;> first | rfl | simp_all [XE.to, Eff.app]
def copyX (es : Nat) (x y : EV) (g : Nat → EO) : XE :=
  match srcX A es g y with
  | some (n, ys) => match x with
    | .sl es' id off len _ => if es' = es then match g id with
      | .blk c => .need (A.le (A.add off (A.mul len es)) (A.len c)) (.need (A.le (A.mul n es) (A.len ys))
          (.ret (.lit (.int .i64 (A.ofn (A.nmin n len)))) (.set id (.blk (A.setl c off (A.tak (A.mul (A.nmin n len) es) ys))))))
      | _ => .stuck else .stuck
    | .lit (.slice none 0 0) => .ret (.lit (.int .i64 0)) .no
    | _ => .stuck
  | none => .stuck
theorem copyX_eq (es : Nat) (x y : EV) (h : EH) : copyE A es x y h = (copyX A es x y (getH h)).to h := by
  unfold copyE copyX
  rw [srcX_eq]
  cases srcX A es (getH h) y with
  | none => rfl
  | some p =>
    obtain ⟨n, ys⟩ := p
    simp only
    cases x with
    | lit v =>
      cases v with
      | slice a n k => cases a <;> cases n <;> cases k <;> rfl
      | _ => rfl
    | sl es' id off len cap =>
      simp only
      by_cases he : es' = es
      · simp only [he, if_true]
        cases getH h id <;> rfl
      · simp only [he, if_false]; rfl
    | _ => rfl
def againX (w : EV) (agg : Bool) (n : Nat) (x : EV) (g : Nat → EO) : XE :=
  match x with
  | .ptr id off => match g id with
    | .blk c => match rd c off n with
      | some cs => match mkV agg cs with
        | some v => .same v w
        | none => .stuck
      | none => .stuck
    | _ => .stuck
  | .eptr id off => match g id with
    | .blk c => .lookS c off n agg w
    | _ => .stuck
  | .iptr _ _ => .ret undefE .no
  | _ => .stuck
theorem againX_eq (w : EV) (agg : Bool) (n : Nat) (x : EV) (h : EH) : againE w agg n x h = (againX w agg n x (getH h)).to h := by
  unfold againE againX
  repeat' split
  all_goals first | rfl | simp_all [XE.to, Eff.app]
def boxX (v : EV) (s : Nat) : XE :=
  if allOne (cellsE v) then .ret (.ptr s 0) (.push (.blk (cellsE v))) else .stuck
def boxBX (e m : Nat) (v : EV) (s : Nat) : XE :=
  match v with
  | .agg (.lit (.pointer none) :: .lit (.slice none 0 0) :: c) => if allOne c && Nat.beq (lenL c + 2) m then .ret (.ptr s 0) (.push (.blk (.nb s e m :: .nbuf :: c))) else .stuck
  | _ => .stuck
theorem boxBX_eq (e m : Nat) (v : EV) (h : EH) : boxBE e m v h = (boxBX e m v (sizeH h)).to h := by
  unfold boxBE boxBX; split
  · rename_i c
    by_cases hc : (allOne c && Nat.beq (lenL c + 2) m) = true
    · simp only [hc, if_true]; rfl
    · simp only [hc, if_false]; rfl
  · rename_i hne
    split
    · rename_i c
      exact absurd rfl (hne c)
    · rfl
def clrX (es : Nat) (z : List EV) (x : EV) (g : Nat → EO) : XE :=
  match x with
  | .sl es' id off len _ => if es' = es then match g id with
    | .blk c => .need (A.le (A.add off (A.mul len es)) (A.len c)) (.ret undefE (.set id (.blk (A.setl c off (A.rep z len)))))
    | _ => .stuck else .stuck
  | .lit (.slice none 0 0) => .ret undefE .no
  | _ => .stuck
theorem clrX_eq (es : Nat) (z : List EV) (x : EV) (h : EH) : clrE A es z x h = (clrX A es z x (getH h)).to h := by
  unfold clrE clrX
  cases x with
  | sl es' id off len cap =>
    simp only
    by_cases he : es' = es
    · simp only [he, if_true]
      cases getH h id <;> rfl
    · simp only [he, if_false]
      rfl
  | lit v =>
    cases v with
    | slice b n c =>
      cases b with
      | none => cases n with
        | zero => cases c <;> rfl
        | succ n => rfl
      | some a => rfl
    | _ => rfl
  | _ => rfl
theorem boxX_eq (v : EV) (h : EH) : boxE v h = (boxX v (sizeH h)).to h := by
  unfold boxE boxX; split <;> rfl
def s2bX (x : EV) (s0 : Nat) : XE :=
  match x with
  | .lit (.string s) => .need (A.room (A.bsz s) 1) (.ret (.sl 1 s0 0 (A.bsz s) none) (.push (.blk (A.enc s))))
  | _ => .stuck
theorem s2bX_eq (x : EV) (h : EH) : s2bE A x h = (s2bX A x (sizeH h)).to h := by
  unfold s2bE s2bX
  cases x with
  | lit v => cases v <;> rfl
  | _ => rfl
def mkSliceX (es bytes : Nat) (z : List EV) (l c : EV) (s : Nat) : XE :=
  match l, c with
  | .lit (.int _ n), .lit (.int _ m) =>
    .need (A.mks bytes n m) (.ret (.sl es s 0 (A.tn n) (some (A.tn m))) (.push (.blk (A.rep z (A.tn m)))))
  | _, _ => .stuck
theorem mkSliceX_eq (es bytes : Nat) (z : List EV) (l c : EV) (h : EH) : mkSliceE A es bytes z l c h = (mkSliceX A es bytes z l c (sizeH h)).to h := by
  unfold mkSliceE mkSliceX
  cases l with
  | lit v =>
    cases v with
    | int k n =>
      cases c with
      | lit u => cases u <;> rfl
      | _ => rfl
    | _ => rfl
  | _ => rfl
/-! rows of bytes, builders, ranges over strings -/
def srcRX (g : Nat → EO) : EV → Option (Bool × Nat × ByteArray)
  | .lit (.slice none 0 0) => some (true, 0, ByteArray.empty)
  | .nbuf => some (true, 0, ByteArray.empty)
  | .isl n _ c => some (A.byt n c, n, A.dec (A.tak n c))
  | .sl es id off n _ => if es = 1 then match g id with
    | .blk c => some (A.byt n (A.drp off c), n, A.dec (A.tak n (A.drp off c)))
    | .row s => some (A.le (A.add off n) (A.bsz s), n, A.bex s off (A.add off n))
    | _ => none else none
  | .lit (.string s) => some (true, A.bsz s, s)
  | _ => none
theorem srcRX_eq (h : EH) (y : EV) : srcR A h y = srcRX A (getH h) y := by unfold srcR srcRX; rfl
def appendBX (x y : EV) (g : Nat → EO) (s0 : Nat) : XE :=
  match x with
  | .nbuf => match srcRX A g y with
    | some (ok, n, s) => .need ok (.need (A.room n 1) (.br (A.isz n) .nbuf .no (.sl 1 s0 0 n none) (.push (.row s))))
    | none => .stuck
  | .sl es id off len cap => match g id with
    | .row r => if es = 1 then match cap with
      | none => match srcRX A g y with
        | some (ok, n, s) => .need ok (.need (A.le (A.add off len) (A.bsz r)) (.need (A.room (A.add len n) 1)
            (.ret (.sl 1 s0 0 (A.add len n) none) (.both id .dead (.row (A.cat (A.bex r off (A.add off len)) s))))))
        | none => .stuck
      | some _ => .stuck
      else .stuck
    | _ => appendX A 1 1 (.sl es id off len cap) y g s0
  | x => appendX A 1 1 x y g s0
theorem appendBX_eq (x y : EV) (h : EH) : appendBE A x y h = (appendBX A x y (getH h) (sizeH h)).to h := by
  unfold appendBE appendBX
  rw [srcRX_eq]
  cases x with
  | nbuf => simp only; cases srcRX A (getH h) y <;> rfl
  | sl es id off len cap =>
    simp only
    cases hg : getH h id with
    | row r =>
      simp only
      by_cases he : es = 1
      · simp only [he, if_true]
        cases cap with
        | some k => rfl
        | none => simp only; cases srcRX A (getH h) y <;> rfl
      · simp only [he, if_false]; rfl
    | _ => exact appendX_eq _ _ _ _ _ _
  | _ => exact appendX_eq _ _ _ _ _ _
def rngSX (x : EV) (s0 : Nat) : XE :=
  match x with
  | .lit (.string s) => .ret (.ptr s0 0) (.push (.itr s 0))
  | _ => .stuck
theorem rngSX_eq (x : EV) (h : EH) : rngSE x h = (rngSX x (sizeH h)).to h := by
  unfold rngSE rngSX
  cases x with
  | lit v => cases v <;> rfl
  | _ => rfl
def nxtSX (x : EV) (g : Nat → EO) : XE :=
  match x with
  | .ptr id 0 => match g id with
    | .itr s pos => .br (A.le (A.bsz s) pos) (.tup [.lit (.bool false)]) .no
        (.tup [.lit (.bool true), .lit (.int .i64 (A.ofn pos)), .lit (.int .i32 (A.rn s pos))]) (.set id (.itr s (A.add pos (A.rw s pos))))
    | _ => .stuck
  | _ => .stuck
theorem nxtSX_eq (x : EV) (h : EH) : nxtSE A x h = (nxtSX A x (getH h)).to h := by
  unfold nxtSE nxtSX
  repeat' split
  all_goals first | rfl | simp_all [XE.to, Eff.app]
def toUX (x : EV) (g : Nat → EO) : XE :=
  match x with
  | .ptr id off => match g id with
    | .blk c => if Nat.blt off (lenL c) then .ret (.ptr id off) .no else .stuck
    | _ => .stuck
  | _ => .stuck
theorem toUX_eq (x : EV) (h : EH) : toUE x h = (toUX x (getH h)).to h := by
  unfold toUE toUX
  cases x with
  | ptr id off =>
    simp only
    cases getH h id with
    | blk c => simp only; split <;> rfl
    | _ => rfl
  | _ => rfl
def fromUX (okl : List (Nat × Nat × Nat)) (x : EV) (g : Nat → EO) : XE :=
  match x with
  | .ptr id off => match g id with
    | .blk c => if inOk id off c okl then .ret (.ptr id off) .no else .stuck
    | _ => .stuck
  | _ => .stuck
theorem fromUX_eq (okl : List (Nat × Nat × Nat)) (x : EV) (h : EH) : fromUE okl x h = (fromUX okl x (getH h)).to h := by
  unfold fromUE fromUX
  cases x with
  | ptr id off =>
    simp only
    cases getH h id with
    | blk c => simp only; split <;> rfl
    | _ => rfl
  | _ => rfl
def sdataX (x : EV) (g : Nat → EO) : XE :=
  match x with
  | .nbuf => .ret (.lit (.pointer none)) .no
  | .lit (.slice none 0 0) => .ret (.lit (.pointer none)) .no
  | .sl 1 id off n _ => match g id with
    | .row s => .need (A.bnot (A.isz n)) (.ret (.eptr id off) .no)
    | _ => .stuck
  | _ => .stuck
theorem sdataX_eq (x : EV) (h : EH) : sdataE A x h = (sdataX A x (getH h)).to h := by
  unfold sdataE sdataX
  cases x with
  | lit v =>
    cases v with
    | slice a n k => cases a <;> cases n <;> cases k <;> rfl
    | _ => rfl
  | sl es id off n cap =>
    rcases es with _ | _ | es
    · rfl
    · simp only [Nat.zero_add]; cases getH h id <;> rfl
    · rfl
  | _ => rfl
def ustrX (x l : EV) (g : Nat → EO) : XE :=
  match x, l with
  | .lit (.pointer none), .lit (.int _ n) => .need (A.isz (A.tn n)) (.need (A.nn n) (.ret (.lit (.string ByteArray.empty)) .no))
  | .eptr id off, .lit (.int _ n) => match g id with
    | .row s => .need (A.nn n) (.need (A.room (A.tn n) 1) (.need (A.le (A.add off (A.tn n)) (A.bsz s)) (.ret (.lit (.string (A.bex s off (A.add off (A.tn n))))) (.set id .dead))))
    | _ => .stuck
  | _, _ => .stuck
theorem ustrX_eq (x l : EV) (h : EH) : ustrE A x l h = (ustrX A x l (getH h)).to h := by
  unfold ustrE ustrX
  cases x with
  | lit v =>
    cases v with
    | pointer p =>
      cases p with
      | none =>
        cases l with
        | lit u => cases u <;> rfl
        | _ => rfl
      | some a => rfl
    | _ => rfl
  | eptr id off =>
    cases l with
    | lit u =>
      cases u with
      | int k n => simp only; cases getH h id <;> rfl
      | _ => rfl
    | _ => rfl
  | _ => rfl
/-! the instructions that leave the heap -/
section
variable {h : EH}
theorem pickE_h (c a b : EV) : AllH h (pickE c a b h) := by unfold pickE; repeat' split
                                                            all_goals simp [AllH]
theorem nilCheckE_h (x : EV) : AllH h (nilCheckE x h) := by unfold nilCheckE; repeat' split
                                                            all_goals simp [AllH]
theorem binE_h (op : BinOp) (x y : EV) (td : Option TypeDesc) : AllH h (binE A op x y td h) := by
  unfold binE eqNil
  repeat' split
  all_goals simp [AllH]
theorem panicE_h (x : EV) : AllH h (panicE x) := by
  unfold panicE
  repeat' split
  all_goals simp [AllH]
theorem tassertE_h (ty : TypeId) (z : List Value) (isA ok : Bool) (x : EV) : AllH h (tassertE ty z isA ok x h) := by
  unfold tassertE
  repeat' split
  all_goals simp [AllH]
theorem peqE_h (op : BinOp) (el : TypeId) (x y : EV) : AllH h (peqE A op el x y h) := by
  unfold peqE eqNil
  repeat' split
  all_goals simp [AllH]
theorem ieqE_h (op : BinOp) (il : List Nat) (x y : EV) : AllH h (ieqE A op il x y h) := by
  unfold ieqE
  repeat' split
  all_goals simp [AllH]
theorem unE_h (op : UnOp) (x : EV) : AllH h (unE A op x h) := by
  unfold unE
  repeat' split
  all_goals simp [AllH]
theorem convE_h (k : IntKind) (x : EV) : AllH h (convE A k x h) := by
  unfold convE
  repeat' split
  all_goals simp [AllH]
theorem cstrE_h (x : EV) : AllH h (cstrE x h) := by
  unfold cstrE
  repeat' split
  all_goals simp [AllH]
theorem sliceE_h (es : Nat) (x : EV) (a b c : Option Int) : AllH h (sliceE A es x a b c h) := by
  unfold sliceE
  repeat' split
  all_goals simp [AllH]
theorem sliceStrE_h (x : EV) (a b : Option Int) : AllH h (sliceStrE A x a b h) := by
  unfold sliceStrE
  repeat' split
  all_goals simp [AllH]
theorem s2aE_h (n : Nat) (x : EV) : AllH h (s2aE A n x h) := by
  unfold s2aE
  repeat' split
  all_goals simp [AllH]
theorem fieldAddrE_h (o : Nat) (x : EV) : AllH h (fieldAddrE A o x h) := by
  unfold fieldAddrE
  repeat' split
  all_goals simp [AllH]
theorem fieldE_h (agg : Bool) (o n : Nat) (x : EV) : AllH h (fieldE agg o n x h) := by
  unfold fieldE
  repeat' split
  all_goals simp [AllH]
theorem indexAddrE_h (es : Nat) (x i : EV) : AllH h (indexAddrE A es x i h) := by
  unfold indexAddrE
  repeat' split
  all_goals simp [AllH]
theorem indexAddrArrE_h (es len : Nat) (x i : EV) : AllH h (indexAddrArrE A es len x i h) := by
  unfold indexAddrArrE
  repeat' split
  all_goals simp [AllH]
theorem indexArrE_h (agg : Bool) (es len : Nat) (x i : EV) : AllH h (indexArrE A agg es len x i h) := by
  unfold indexArrE
  repeat' split
  all_goals simp [AllH]
theorem indexStrE_h (x i : EV) : AllH h (indexStrE A x i h) := by
  unfold indexStrE
  repeat' split
  all_goals simp [AllH]
theorem extractE_h (x : EV) (i : Nat) : AllH h (extractE x i h) := by
  unfold extractE
  repeat' split
  all_goals simp [AllH]
theorem minmaxE_h (mx : Bool) (x : EV) (l : List EV) : AllH h (minmaxE A mx x l h) := by
  unfold minmaxE
  repeat' split
  all_goals simp [AllH]
theorem apartE_h (x y : EV) : AllH h (apartE x y h) := by
  unfold apartE
  repeat' split
  all_goals simp [AllH]
theorem callvE_h (x : EV) (l : List EV) : AllH h (callvE x l) := by
  unfold callvE
  repeat' split
  all_goals simp [AllH]
theorem invokeE_h (x : EV) (cands : List (TypeId × FuncId)) (l : List EV) : AllH h (invokeE x cands l) := by
  unfold invokeE
  repeat' split
  all_goals simp [AllH]
end
end
end Go.Proofs.YtpgeonghlabnhaaGreatDoor.Em
