/- Em22: closed runs: a function over known arguments, carried out to its end; sound against the contracts. No conditions beyond those written. -/
import Derived.Test.YtpgeonghlabnhaaGreatDoorEm21
import Derived.Test.YtpgeonghlabnhaaGreatDoorEm27
import Derived.Laws.Strings
set_option linter.unusedVariables false
set_option linter.unusedSimpArgs false
namespace Go.Proofs.YtpgeonghlabnhaaGreatDoor.Em
open Go
/-- The arithmetic once more, where the kernel reckons it with ease. -/
def kA : Ar := { stdA with
  ss := fun op a b => match op with
    | .eql => a.data.toList == b.data.toList
    | .neq => !(a.data.toList == b.data.toList)
    | .lss => Op.bytesLess a.data.toList b.data.toList
    | .leq => Op.bytesLess a.data.toList b.data.toList || a.data.toList == b.data.toList
    | .gtr => !(Op.bytesLess a.data.toList b.data.toList || a.data.toList == b.data.toList)
    | .geq => !Op.bytesLess a.data.toList b.data.toList
    | _ => false
  cat := fun a b => ⟨(a.data.toList ++ b.data.toList).toArray⟩
  bex := fun s a b => ⟨((s.data.toList.drop a).take (b - a)).toArray⟩ }
theorem kA_eq : kA = stdA := by
  have h1 : kA.ss = stdA.ss := by
    funext op a b
    cases op <;> simp only [kA, stdA, ByteArray.toList_eq]
  have h2 : kA.cat = stdA.cat := by
    funext a b
    apply ByteArray.ext
    apply Array.ext'
    simp [kA, stdA]
  have h3 : kA.bex = stdA.bex := by
    funext s a b
    apply ByteArray.ext
    apply Array.ext'
    simp [kA, stdA]
  unfold kA at *
  simp only at h1 h2 h3
  rw [h1, h2, h3]
/-- a number worked out -/
def fN {α : Type} (n : Nat) (k : Nat → α) : α := match n with | 0 => k 0 | m + 1 => k (m + 1)
theorem fN_eq {α : Type} (n : Nat) (k : Nat → α) : fN n k = k n := by cases n <;> rfl
def fI {α : Type} (n : Int) (k : Int → α) : α := match n with | .ofNat m => fN m fun m => k (.ofNat m) | .negSucc m => fN m fun m => k (.negSucc m)
theorem fI_eq {α : Type} (n : Int) (k : Int → α) : fI n k = k n := by cases n <;> simp [fI, fN_eq]
def fB {α : Type} (b : Bool) (k : Bool → α) : α := match b with | true => k true | false => k false
theorem fB_eq {α : Type} (b : Bool) (k : Bool → α) : fB b k = k b := by cases b <;> rfl
def fU {α : Type} (l : List UInt8) (k : List UInt8 → α) : α := match l with
  | [] => k []
  | x :: l => fN x.toNat fun n => fU l fun l => k (UInt8.ofNat n :: l)
theorem fU_eq {α : Type} : ∀ (l : List UInt8) (k : List UInt8 → α), fU l k = k l
  | [], _ => rfl
  | x :: l, k => by simp [fU, fN_eq, fU_eq l]
def fV {α : Type} (v : Value) (k : Value → α) : α := match v with
  | .int i n => fI n fun n => k (.int i n)
  | .bool b => fB b fun b => k (.bool b)
  | .string s => fU s.data.toList fun l => k (.string ⟨l.toArray⟩)
  | v => k v
theorem fV_eq {α : Type} (v : Value) (k : Value → α) : fV v k = k v := by
  cases v <;> simp [fV, fI_eq, fB_eq, fU_eq]
def fC {α : Type} (c : Option Nat) (k : Option Nat → α) : α := match c with | none => k none | some n => fN n fun n => k (some n)
theorem fC_eq {α : Type} (c : Option Nat) (k : Option Nat → α) : fC c k = k c := by cases c <;> simp [fC, fN_eq]
mutual
def fE {α : Type} (e : EV) (k : EV → α) : α := match e with
  | .lit v => fV v fun v => k (.lit v)
  | .sb b => fB b fun b => k (.sb b)
  | .ptr i o => fN i fun i => fN o fun o => k (.ptr i o)
  | .eptr i o => fN i fun i => fN o fun o => k (.eptr i o)
  | .sl es i o n c => fN es fun es => fN i fun i => fN o fun o => fN n fun n => fC c fun c => k (.sl es i o n c)
  | .mp i => fN i fun i => k (.mp i)
  | .iptr c o => fN o fun o => k (.iptr c o)
  | .isl n cap c => fN n fun n => fC cap fun cap => k (.isl n cap c)
  | .fn f a b => fL a fun a => fL b fun b => k (.fn f a b)
  | .iface t e => fE e fun e => k (.iface t e)
  | .agg c => fL c fun c => k (.agg c)
  | .tup c => fL c fun c => k (.tup c)
  | .top => k .top
  | .yl i => fN i fun i => k (.yl i)
  | .nb i e n => fN i fun i => fN e fun e => fN n fun n => k (.nb i e n)
  | .nbuf => k .nbuf
def fL {α : Type} (l : List EV) (k : List EV → α) : α := match l with
  | [] => k []
  | x :: l => fE x fun x => fL l fun l => k (x :: l)
end
mutual
theorem fE_eq {α : Type} : ∀ (e : EV) (k : EV → α), fE e k = k e
  | .lit v, k => by simp [fE, fV_eq]
  | .sb b, k => by simp [fE, fB_eq]
  | .ptr _ _, k => by simp [fE, fN_eq]
  | .eptr _ _, k => by simp [fE, fN_eq]
  | .sl _ _ _ _ _, k => by simp [fE, fN_eq, fC_eq]
  | .mp _, k => by simp [fE, fN_eq]
  | .iptr _ _, k => by simp [fE, fN_eq]
  | .isl _ _ _, k => by simp [fE, fN_eq, fC_eq]
  | .fn f a b, k => by simp [fE, fL_eq a, fL_eq b]
  | .iface t e, k => by simp [fE, fE_eq e]
  | .agg c, k => by simp [fE, fL_eq c]
  | .tup c, k => by simp [fE, fL_eq c]
  | .top, k => by simp [fE]
  | .yl _, k => by simp [fE, fN_eq]
  | .nb _ _ _, k => by simp [fE, fN_eq]
  | .nbuf, k => by simp [fE]
theorem fL_eq {α : Type} : ∀ (l : List EV) (k : List EV → α), fL l k = k l
  | [], k => by simp [fL]
  | x :: l, k => by simp [fL, fE_eq x, fL_eq l]
end
def fM {α : Type} (l : List (EV × EV)) (k : List (EV × EV) → α) : α := match l with
  | [] => k []
  | (x, y) :: l => fE x fun x => fE y fun y => fM l fun l => k ((x, y) :: l)
def fD {α : Type} (d : PD) (k : PD → α) : α := match d with | none => k none | some none => k (some none) | some (some n) => fN n fun n => k (some (some n))
theorem fD_eq {α : Type} (d : PD) (k : PD → α) : fD d k = k d := by rcases d with _ | _ | _ <;> simp [fD, fN_eq]
def fO {α : Type} (o : EO) (k : EO → α) : α := match o with
  | .dead => k .dead
  | .blk c => fL c fun c => k (.blk c)
  | .emap es => fM es fun es => k (.emap es)
  | .lp t ps a b st pd => fL t fun t => fN st fun st => fD pd fun pd => k (.lp t ps a b st pd)
  | .row s => fU s.data.toList fun l => k (.row ⟨l.toArray⟩)
  | .itr s p => fN p fun p => k (.itr s p)
def fH {α : Type} (h : EH) (k : EH → α) : α := match h with
  | [] => k []
  | o :: l => fO o fun o => fH l fun l => k (o :: l)
theorem fM_eq {α : Type} : ∀ (l : List (EV × EV)) (k : List (EV × EV) → α), fM l k = k l
  | [], k => rfl
  | (x, y) :: l, k => by simp [fM, fE_eq, fM_eq l]
theorem fO_eq {α : Type} (o : EO) (k : EO → α) : fO o k = k o := by cases o <;> simp [fO, fL_eq, fM_eq, fN_eq, fD_eq, fU_eq]
theorem fH_eq {α : Type} : ∀ (h : EH) (k : EH → α), fH h k = k h
  | [], k => rfl
  | o :: l, k => by simp [fH, fO_eq, fH_eq l]
/-- a place written, the list laid out -/
def fSet {α : Type} (l : List EV) (d : Nat) (v : EV) (k : List EV → α) : α := match l, d with
  | [], _ => k []
  | _ :: l, 0 => k (v :: l)
  | x :: l, d + 1 => fSet l d v fun l => k (x :: l)
theorem fSet_eq {α : Type} : ∀ (l : List EV) (d : Nat) (v : EV) (k : List EV → α), fSet l d v k = k (setT l d v)
  | [], _, _, _ => rfl
  | _ :: _, 0, _, _ => rfl
  | x :: l, d + 1, v, k => by simp [fSet, setT, fSet_eq l]
def fPut {α : Type} (l : List EV) (d : Option Nat) (v : EV) (k : List EV → α) : α := match d with
  | none => k l
  | some d => fSet l d v k
theorem fPut_eq {α : Type} (l : List EV) (d : Option Nat) (v : EV) (k : List EV → α) : fPut l d v k = k (putT l d v) := by cases d <;> simp [fPut, putT, fSet_eq]
/-- are two values spelled alike? -/
def eqV : Value → Value → Bool
  | .int k n, .int k' m => decide (k = k') && decide (n = m)
  | .bool a, .bool b => a == b
  | .string a, .string b => a.data.toList == b.data.toList
  | .pointer none, .pointer none => true
  | .slice none a b, .slice none c d => Nat.beq a c && Nat.beq b d
  | .map none, .map none => true
  | .nilFunc, .nilFunc => true
  | .nilIface, .nilIface => true
  | _, _ => false
theorem eqV_eq {a b : Value} (h : eqV a b = true) : a = b := by
  unfold eqV at h
  split at h
  · simp at h; rw [h.1, h.2]
  · simp at h; rw [h]
  · simp at h; congr 1; exact ByteArray.ext h
  · rfl
  · simp only [Bool.and_eq_true] at h; rw [Nat.eq_of_beq_eq_true h.1, Nat.eq_of_beq_eq_true h.2]
  · rfl
  · rfl
  · rfl
  · cases h
def eqC : Option Nat → Option Nat → Bool
  | none, none => true
  | some a, some b => Nat.beq a b
  | _, _ => false
theorem eqC_eq {a b : Option Nat} (h : eqC a b = true) : a = b := by
  cases a <;> cases b <;> simp [eqC] at h
  · rfl
  · rw [h]
mutual
def eqE : EV → EV → Bool
  | .lit a, .lit b => eqV a b
  | .sb a, .sb b => a == b
  | .ptr a b, .ptr c d => Nat.beq a c && Nat.beq b d
  | .eptr a b, .eptr c d => Nat.beq a c && Nat.beq b d
  | .sl a b c d e, .sl a' b' c' d' e' => Nat.beq a a' && Nat.beq b b' && Nat.beq c c' && Nat.beq d d' && eqC e e'
  | .mp a, .mp b => Nat.beq a b
  | .iface t a, .iface u b => Nat.beq t u && eqE a b
  | .agg a, .agg b => eqL a b
  | .tup a, .tup b => eqL a b
  | .top, .top => true
  | .yl a, .yl b => Nat.beq a b
  | .nb a b c, .nb a' b' c' => Nat.beq a a' && Nat.beq b b' && Nat.beq c c'
  | .nbuf, .nbuf => true
  | .isl a b c, .isl a' b' c' => Nat.beq a a' && eqC b b' && eqL c c'
  | _, _ => false
def eqL : List EV → List EV → Bool
  | [], [] => true
  | x :: l, y :: m => eqE x y && eqL l m
  | _, _ => false
end
mutual
theorem eqE_eq : ∀ (a b : EV), eqE a b = true → a = b
  | .lit a, b, h => by cases b <;> simp [eqE] at h; rw [eqV_eq h]
  | .sb a, b, h => by cases b <;> simp [eqE] at h; rw [h]
  | .ptr _ _, b, h => by cases b <;> simp [eqE] at h; rw [h.1, h.2]
  | .eptr _ _, b, h => by cases b <;> simp [eqE] at h; rw [h.1, h.2]
  | .sl _ _ _ _ _, b, h => by
    cases b <;> simp [eqE] at h
    obtain ⟨⟨⟨⟨h1, h2⟩, h3⟩, h4⟩, h5⟩ := h
    rw [h1, h2, h3, h4, eqC_eq h5]
  | .mp _, b, h => by cases b <;> simp [eqE] at h; rw [h]
  | .iface t a, b, h => by
    cases b <;> simp [eqE] at h
    rw [h.1, eqE_eq a _ h.2]
  | .agg a, b, h => by cases b <;> simp [eqE] at h; rw [eqL_eq a _ h]
  | .tup a, b, h => by cases b <;> simp [eqE] at h; rw [eqL_eq a _ h]
  | .top, b, h => by cases b <;> simp [eqE] at h; rfl
  | .yl _, b, h => by cases b <;> simp [eqE] at h; rw [h]
  | .nb _ _ _, b, h => by
    cases b <;> simp [eqE] at h
    obtain ⟨⟨h1, h2⟩, h3⟩ := h
    rw [h1, h2, h3]
  | .nbuf, b, h => by cases b <;> simp [eqE] at h; rfl
  | .iptr _ _, b, h => by cases b <;> simp [eqE] at h
  | .isl _ _ c, b, h => by
    cases b <;> simp [eqE] at h
    obtain ⟨⟨h1, h2⟩, h3⟩ := h
    rw [h1, eqC_eq h2, eqL_eq c _ h3]
  | .fn _ _ _, b, h => by cases b <;> simp [eqE] at h
theorem eqL_eq : ∀ (a b : List EV), eqL a b = true → a = b
  | [], b, h => by cases b <;> simp [eqL] at h; rfl
  | x :: l, b, h => by
    cases b with
    | nil => simp [eqL] at h
    | cons y m => simp [eqL] at h; rw [eqE_eq x y h.1, eqL_eq l m h.2]
end
def lookE (A : Ar) (c : List EV) (off n : Nat) (agg : Bool) : Option EV :=
  let cs := A.tak n (A.drp off c)
  if Nat.beq (lenL cs) n then mkV agg cs else none
/-- An instruction's outcome, carried on. -/
def exSR {α : Type} (A : Ar) (cont : EV → EH → Option α) (call : FuncId → List EV → Option α) : SR → Option α
  | .stuck => none
  | .ret v h => cont v h
  | .need b r => match b with | true => exSR A cont call r | false => none
  | .look c off n agg h => match lookE A c off n agg with | some v => cont v h | none => none
  | .br b v1 h1 v2 h2 => match b with | true => cont v1 h1 | false => cont v2 h2
  | .opt o ok z h => match o with
    | none => cont (if ok then .tup [z, .lit (.bool false)] else z) h
    | some x => cont (if ok then .tup [x, .lit (.bool true)] else x) h
  | .call f args => call f args
  | .same v w h => match eqE v w with | true => cont undefE h | false => none
  | .lookS c off n agg w h => match lookE A c off n agg with
    | some v => match eqE v w with | true => cont undefE h | false => none
    | none => none
/-- arguments laid into places, the list laid out -/
def fPs {α : Type} (t : List EV) (ps : List Nat) (as : List EV) (k : List EV → α) : α := match ps, as with
  | p :: ps, a :: as => fSet t p a fun t => fPs t ps as k
  | _, _ => k t
theorem fPs_eq {α : Type} : ∀ (t : List EV) (ps : List Nat) (as : List EV) (k : List EV → α), fPs t ps as k = k (setPs t ps as)
  | _, [], as, _ => by cases as <;> rfl
  | _, _ :: _, [], _ => rfl
  | t, p :: ps, a :: as, k => by simp [fPs, setPs, fSet_eq, fPs_eq _ ps as]
/-- the functions of a closed run: as they stand; those that defer a call; those that are deferred -/
structure Tab where
  f : Nat → Option FC
  d : Nat → Option DF
  r : Nat → Option RF
  /-- functions of which it is known otherwise what they give -/
  o : Nat → Option (List (List EV × EV)) := fun _ => none
/-- an argument, its own memory written out -/
def frzE (g : Nat → EO) : EV → Option EV
  | .sl _ id off n cap => match g id with
    | .blk c => match clL c with
      | true => some (.isl n cap (c.drop off))
      | false => none
    | _ => none
  | e => match clE e with
    | true => some e
    | false => none
def frzL (g : Nat → EO) : List EV → Option (List EV)
  | [] => some []
  | x :: l => match frzE g x with
    | some y => match frzL g l with
      | some r => some (y :: r)
      | none => none
    | none => none
def lookT : List (List EV × EV) → List EV → Option EV
  | [], _ => none
  | (a, v) :: l, b => match eqL a b with
    | true => some v
    | false => lookT l b
/-- what is known of a call -/
def orcF (tb : List (List EV × EV)) (g : Nat → EO) (args : List EV) : Option EV :=
  match frzL g args with
  | some a => match lookT tb a with
    | some v => match clE v && niE v with
      | true => some v
      | false => none
    | none => none
  | none => none
section
variable (A : Ar) (G : List (List EV)) (F : Tab)
def mapC : List EC → List KI
  | [] => []
  | e :: l => .c e :: mapC l
/-- What a function gives. -/
def exFn (ih : Bool → List KI → List EV → EH → Option (St × PD)) (h : EH) (f : FuncId) (args : List EV) : Option (EV × EH) :=
  match F.f f with
  | some fc => fL args fun args => match ih false [.c fc.body] (padT args fc.ntmps) h with
    | some (_, some (some _)) => none
    | some (s', _) => match retE fc.rs s'.t s'.h with
      | some v => some (v, s'.h)
      | none => none
    | none => none
  | none => match F.d f with
    | none => none
    | some df => fL args fun args => match ih false (mapC df.pre) (padT args df.ntmps) h with
      | some (s0, none) => match ih false [.ops df.ops] s0.t s0.h with
        | some (s1, none) => match evalO G s1.t df.tgt with
          | .fn (.func g) av bv => match F.r g with
            | some rf => fL (appL av (appL (evalL G s1.t df.args) bv)) fun dargs => match ih false (mapC df.rest) s1.t s1.h with
              | some (_, some (some _)) => none
              | some (s2, _) => match ih false (.ops rf.ops :: mapC rf.rest) (match rf.dst with | some d => putT (padT dargs rf.ntmps) d (.lit .nilIface) | none => padT dargs rf.ntmps) s2.h with
                | some (_, some (some _)) => none
                | some (s3, _) => match retE rf.rs s3.t s3.h with
                  | some _ => match retE df.rs s2.t s3.h with
                    | some v => some (v, s3.h)
                    | none => none
                  | none => none
                | none => none
              | none => none
            | none => none
          | _ => none
        | _ => none
      | _ => none
/-- A call of a closed run, or a round. -/
def exCall (ih : Bool → List KI → List EV → EH → Option (St × PD)) (h : EH) (cont : EV → EH → Option (St × PD)) (f : FuncId) (args : List EV) : Option (St × PD) :=
  match Nat.beq f roundF with
  | true => match args with
    | .yl id :: as => match getH h id with
      | .lp t0 ps asg body 0 _ => match Nat.beq as.length ps.length with
        | true => fPs t0 ps as fun t => match ih true [.c asg] t h with
          | some (s1, none) => match getH s1.h id with
            | .lp t1 ps1 a1 b1 0 pd1 => match ih true [.c body] s1.t (setH s1.h id (.lp t1 ps1 a1 b1 1 pd1)) with
              | some (s2, how) => match getH s2.h id with
                | .lp t2 ps2 a2 b2 _ _ => match how with
                  | none => cont (.lit (.bool true)) (setH s2.h id (.lp t2 ps2 a2 b2 0 none))
                  | some x => cont (.lit (.bool false)) (setH s2.h id (.lp t2 ps2 a2 b2 2 (some x)))
                | _ => none
              | none => none
            | _ => none
          | _ => none
        | false => none
      | _ => none
    | _ => none
  | false => match F.o f with
    | some tb => match orcF tb (getH h) args with
      | some v => cont v h
      | none => none
    | none => match exFn G F ih h f args with
      | some (v, h) => cont v h
      | none => none
/-- One step of a closed run, and on. rd: in a round? -/
def exStep (ih : Bool → List KI → List EV → EH → Option (St × PD)) (rd : Bool) (k : List KI) (t : List EV) (h : EH) : Option (St × PD) :=
  match k with
  | [] => some (⟨t, h⟩, none)
  | .c ec :: k => match ec with
    | .skip => ih rd k t h
    | .ops l => ih rd (.ops l :: k) t h
    | .seq a b => ih rd (.c a :: .c b :: k) t h
    | .cond x a b => match evalO G t x with
      | .lit (.bool true) => ih rd (.c a :: k) t h
      | .lit (.bool false) => ih rd (.c b :: k) t h
      | .sb v => match v with
        | true => ih rd (.c a :: k) (litB t x true) h
        | false => ih rd (.c b :: k) (litB t x false) h
      | _ => none
    | .block id c => ih rd (.c c :: .blk id :: k) t h
    | .loop c => ih rd (.c c :: .lp c :: k) t h
    | .exit id => match unwindK id k with
      | some k' => ih rd k' t h
      | none => some (⟨t, h⟩, some (some id))
    | .ret => some (⟨t, h⟩, some none)
    | .rf x ps asg body => match rd with
      | true => none
      | false => match evalO G t x with
        | .fn (.func f) a b => match Nat.beq f roundF with
          | true => none
          | false => match exFn G F ih (pushH h (.lp t ps asg body 0 none)) f (appL a (.yl (sizeH h) :: b)) with
            | some (_, h1) => match getH h1 (sizeH h) with
              | .lp _ _ _ _ st pd => match Nat.beq st 1 with
                | true => none
                | false => fH (setH h1 (sizeH h) .dead) fun h => match pd with
                  | none => ih rd k t h
                  | some none => some (⟨t, h⟩, some none)
                  | some (some e) => match unwindK e k with
                    | some k' => ih rd k' t h
                    | none => some (⟨t, h⟩, some (some e))
              | _ => none
            | none => none
        | _ => none
    | .any _ => none
  | .ops [] :: k => ih rd k t h
  | .ops (o :: l) :: k =>
    let next (t : List EV) (v : EV) (h : EH) : Option (St × PD) := fE v fun v => fPut t o.dst v fun t => match isX o.i with
      | true => fH h fun h => ih rd (.ops l :: k) t h
      | false => ih rd (.ops l :: k) t h
    let go (t : List EV) : Option (St × PD) := exSR A (next t) (exCall G F ih h (next t)) (stepI A G t h o.i)
    match o.guard with
    | none => go t
    | some (g, want) => match getT t g with
      | .lit (.bool b) => match (b == want) with
        | true => go t
        | false => fPut t o.dst undefE fun t => ih rd (.ops l :: k) t h
      | .lit (.tuple _) => fPut t o.dst undefE fun t => ih rd (.ops l :: k) t h
      | .sb b => match (b == want) with
        | true => fSet t g (.lit (.bool b)) fun t => go t
        | false => fSet t g (.lit (.bool b)) fun t => fPut t o.dst undefE fun t => ih rd (.ops l :: k) t h
      | _ => none
  | .blk _ :: k => ih rd k t h
  | .mark _ :: _ => none
  | .lp c :: k => ih rd (.c c :: .lp c :: k) t h
noncomputable def exec (n : Nat) : Bool → List KI → List EV → EH → Option (St × PD) := Nat.rec (fun _ _ _ _ => none) (fun _ ih => exStep A G F ih) n
end
section
variable {P : Program} {G : List (List EV)} {ro : Option Nat} {I0 : Imm} {ρ0 : Ren} {w0 : World} {Q : Exit → Act → World → Prop}
theorem lookE_spec {c : List EV} {off n : Nat} {agg : Bool} {v : EV} (h : lookE stdA c off n agg = some v) : ∃ cs, cs.length = n ∧ (c.drop off).take n = cs ∧ mkV agg cs = some v := by
  unfold lookE at h
  simp only at h
  split at h
  · rename_i hb
    have := Nat.eq_of_beq_eq_true hb
    rw [lenL_eq] at this
    exact ⟨_, this, rfl, h⟩
  · cases h
theorem exSR_sound {α : Type} {cont : EV → EH → Option α} {call : FuncId → List EV → Option α} {s' : α} {post : EV → EH → Prop} {pc : FuncId → List EV → Prop}
    (h1 : ∀ v h, cont v h = some s' → post v h) (h2 : ∀ f args, call f args = some s' → pc f args) : ∀ {r : SR}, exSR stdA cont call r = some s' → SROK post pc r
  | .stuck, h => by simp [exSR] at h
  | .ret v h', h => h1 _ _ h
  | .need b r, h => by
    cases b with
    | true => exact ⟨rfl, exSR_sound h1 h2 (by simpa [exSR] using h)⟩
    | false => simp [exSR] at h
  | .look c off n agg h', h => by
    simp only [exSR] at h
    split at h
    · rename_i v hv
      obtain ⟨cs, q1, q2, q3⟩ := lookE_spec hv
      exact ⟨cs, v, q1, q2, q3, h1 _ _ h⟩
    · cases h
  | .br b v1 h1' v2 h2', h => by
    cases b with
    | true => exact ⟨fun _ => h1 _ _ h, fun hf => by cases hf⟩
    | false => exact ⟨fun hf => (by cases hf), fun _ => h1 _ _ h⟩
  | .opt o ok z h', h => by
    cases o with
    | none => exact ⟨fun _ => h1 _ _ h, fun x hx => by cases hx⟩
    | some x => exact ⟨fun hf => (by cases hf), fun y hy => (by cases hy; exact h1 _ _ h)⟩
  | .call f args, h => h2 _ _ h
  | .same v w h', h => by
    simp only [exSR] at h
    split at h
    · rename_i he; exact ⟨eqE_eq _ _ he, h1 _ _ h⟩
    · cases h
  | .lookS c off n agg w h', h => by
    simp only [exSR] at h
    split at h
    · rename_i v hv
      split at h
      · rename_i he
        obtain ⟨cs, q1, q2, q3⟩ := lookE_spec hv
        exact ⟨⟨cs, q1, q2, by rw [← eqE_eq _ _ he]; exact q3⟩, h1 _ _ h⟩
      · cases h
    · cases h
/-- An exit that nothing in a stack takes up. -/
theorem KW.exitN {k : List KI} {Φ : Exit → Act → World → Prop} (h : KW P G ro I0 ρ0 w0 Q k Φ) {id : Nat} (hu : unwindK id k = none) {a : Act} {w : World} (hq : Q (.exit id) a w) : Φ (.exit id) a w := by
  induction h with
  | nil => exact hq
  | c hc hn hk ih => exact ih (by simpa [unwindK] using hu)
  | blk hk ih =>
    rename_i id' k Φ
    simp only [unwindK] at hu
    split at hu
    · cases hu
    · rename_i hne
      have hne' : id ≠ id' := fun e => hne (by rw [e]; simp)
      simp only [Exit.inBlock]
      rw [if_neg hne']
      exact ih hu
  | mark hk ih => exact ih (by simpa [unwindK] using hu)
  | lp hc hn hk ih => exact ih (by simpa [unwindK] using hu)
theorem mapC_eq : ∀ l : List EC, mapC l = l.map .c
  | [] => rfl
  | e :: l => by simp [mapC, mapC_eq l]
theorem noOps_mapC : ∀ l : List EC, noOps (l.map KI.c)
  | [] => trivial
  | e :: l => noOps_mapC l
/-- A table's functions are the program's. -/
structure Tab.OK (P : Program) (G : List (List EV)) (F : Tab) : Prop where
  f : ∀ f fc, F.f f = some fc → compF P f = some fc
  d : ∀ f df, F.d f = some df → compDF P f = some df
  r : ∀ f rf, F.r f = some rf → compRF P f = some rf
  o : ∀ f tb, F.o f = some tb → goodF P f = true ∧ ∀ args v, (args, v) ∈ tb → Tri P G f args [] fun v' h' => v' = v ∧ h' = []
/-- the own memory that arguments name themselves -/
def slI : List EV → List Nat
  | [] => []
  | .sl _ id _ _ _ :: l => id :: slI l
  | _ :: l => slI l
theorem lookT_mem : ∀ {tb : List (List EV × EV)} {a : List EV} {v : EV}, lookT tb a = some v → (a, v) ∈ tb
  | [], _, _, h => by simp [lookT] at h
  | (b, u) :: tb, a, v, h => by
    simp only [lookT] at h
    split at h
    · rename_i he
      cases h
      rw [eqL_eq _ _ he]; simp
    · exact List.mem_cons_of_mem _ (lookT_mem h)
theorem frzE_mv {h : EH} {fr : List Nat} {e e' : EV} (hf : frzE (getH h) e = some e') (hin : ∀ id ∈ slI [e], id ∈ fr) : mvE (mvG [] fr) (mvZ fr h) e = e' := by
  unfold frzE at hf
  split at hf
  · rename_i es id off n cap
    split at hf
    · rename_i c hg
      split at hf
      · cases hf
        have : inL fr id = true := inL_iff.2 (hin id (by simp [slI]))
        simp [mvE, mvG, mvZ, this, hg]
      · cases hf
    · cases hf
  · split at hf
    · rename_i hc
      cases hf
      exact mvE_cl _ _ _ hc
    · cases hf
theorem frzE_ok {h : EH} {e e' : EV} (hf : frzE (getH h) e = some e') : ∀ id ∈ slI [e], ∃ c, getH h id = .blk c ∧ clL c = true := by
  intro id hid
  unfold frzE at hf
  split at hf
  · rename_i es id' off n cap
    simp [slI] at hid
    subst hid
    split at hf
    · rename_i c hg
      split at hf
      · rename_i hc; exact ⟨c, hg, hc⟩
      · cases hf
    · cases hf
  · rename_i hns
    cases e <;> first | (simp [slI] at hid; done) | exact absurd rfl (hns _ _ _ _ _)
theorem slI_cons (x : EV) (l : List EV) : ∀ id, id ∈ slI (x :: l) ↔ id ∈ slI [x] ∨ id ∈ slI l := by
  intro id
  cases x <;> simp [slI]
theorem frzL_mv {h : EH} {fr : List Nat} : ∀ {l l' : List EV}, frzL (getH h) l = some l' → (∀ id ∈ slI l, id ∈ fr) → mvL (mvG [] fr) (mvZ fr h) l = l'
  | [], l', hf, _ => by simp [frzL] at hf; subst hf; simp [mvL]
  | x :: l, l', hf, hin => by
    simp only [frzL] at hf
    split at hf
    · rename_i y hy
      split at hf
      · rename_i r hr
        cases hf
        rw [mvL, frzE_mv hy (fun id hid => hin id ((slI_cons x l id).2 (.inl hid))), frzL_mv hr (fun id hid => hin id ((slI_cons x l id).2 (.inr hid)))]
      · cases hf
    · cases hf
theorem frzL_ok {h : EH} : ∀ {l l' : List EV}, frzL (getH h) l = some l' → ∀ id ∈ slI l, ∃ c, getH h id = .blk c ∧ clL c = true
  | [], _, _, id, hid => by simp [slI] at hid
  | x :: l, l', hf, id, hid => by
    simp only [frzL] at hf
    split at hf
    · rename_i y hy
      split at hf
      · rename_i r hr
        rcases (slI_cons x l id).1 hid with h1 | h1
        · exact frzE_ok hy id h1
        · exact frzL_ok hr id h1
      · cases hf
    · cases hf
theorem orcF_sound {F : Tab} (hF : F.OK P G) {f : Nat} {tb : List (List EV × EV)} (ho : F.o f = some tb) {h : EH} {args : List EV} {v : EV} (he : orcF tb (getH h) args = some v) :
    goodF P f = true ∧ Tri P G f args h fun v' h' => v' = v ∧ h' = h := by
  unfold orcF at he
  split at he
  · rename_i a ha
    split at he
    · rename_i u hu
      split at he
      · rename_i hc
        cases he
        simp only [Bool.and_eq_true] at hc
        obtain ⟨h1, h2⟩ := hF.o f tb ho
        have ht := h2 a v (lookT_mem hu)
        refine ⟨h1, (Tri.frame (R := fun v' h' => v' = v ∧ h' = []) (slI args) (frzL_ok ha) ?_ (.inr fun v' h' hx => ?_)).mono fun v' h' hx => ?_⟩
        · rw [frzL_mv ha fun _ x => x]; exact ht
        · obtain ⟨rfl, rfl⟩ := hx; exact ⟨hc.2, rfl⟩
        · obtain ⟨v0, h0, ⟨rfl, rfl⟩, rfl, rfl⟩ := hx
          exact ⟨mvE_cl _ _ _ hc.1, rfl⟩
      · cases he
    · cases he
  · cases he
/-- Runs are sound. -/
def ExOK (P : Program) (G : List (List EV)) (ex : Bool → List KI → List EV → EH → Option (St × PD)) : Prop :=
  ∀ (rd : Bool) (k : List KI) (t : List EV) (h : EH) (s' : St) (how : PD), goodK k → ex rd k t h = some (s', how) →
    ∀ (ro : Option Nat) (I0 : Imm) (ρ0 : Ren) (w0 : World) (Q : Exit → Act → World → Prop), (rd = false → ro = none) → (∀ a w, SimX P G I0 ρ0 w0 s' a w → QX how Q a w) → OKK P G ro I0 ρ0 w0 Q k ⟨t, h⟩
theorem QX_of {how : PD} {Q : Exit → Act → World → Prop} {a : Act} {w : World} (hno : ∀ e, how ≠ some (some e)) (h : Q .normal a w ∧ Q .ret a w) : QX how Q a w :=
  match how, hno with
  | none, _ => h.1
  | some none, _ => h.2
  | some (some e), hno => absurd rfl (hno e)
theorem exFn_sound {F : Tab} (hF : F.OK P G) {ex : Bool → List KI → List EV → EH → Option (St × PD)} (ih : ExOK P G ex) {h h' : EH} {f : FuncId} {args : List EV} {v : EV} (he : exFn G F ex h f args = some (v, h')) :
    goodF P f = true ∧ Tri P G f args h fun v1 h1 => v1 = v ∧ h1 = h' := by
  unfold exFn at he
  split at he
  · rename_i fc hFf
    simp only [fL_eq] at he
    have hc := hF.f f fc hFf
    refine ⟨goodF_of hc, ?_⟩
    generalize hex : ex false [.c fc.body] (padT args fc.ntmps) h = r at he
    split at he
    · cases he
    rotate_left
    · cases he
    rename_i _ s2 how2 hno
    split at he
    rotate_left
    · cases he
    rename_i v2 hre
    cases he
    refine Tri_of hc fun I1 ρ1 w1 Q1 hρ1 hQ1 => ?_
    refine ih false [.c fc.body] _ h s2 how2 trivial hex none I1 ρ1 w1 Q1 (fun _ => rfl) fun a' w' hs' => QX_of (fun e he => hno e (by rw [he])) (hQ1 s2 ⟨_, hre, rfl, rfl⟩ a' w' hs')
  · split at he
    · cases he
    rename_i df hFd
    simp only [fL_eq] at he
    have hc := hF.d f df hFd
    refine ⟨goodF_ofD hc, ?_⟩
    generalize hx0 : ex false (mapC df.pre) (padT args df.ntmps) h = r0 at he
    split at he
    rotate_left
    · cases he
    rename_i s0
    generalize hx1 : ex false [.ops df.ops] s0.t s0.h = r1 at he
    split at he
    rotate_left
    · cases he
    rename_i s1
    split at he
    rotate_left
    · cases he
    rename_i g av bv hev
    split at he
    rotate_left
    · cases he
    rename_i rf hFr
    generalize hx2 : ex false (mapC df.rest) s1.t s1.h = r2 at he
    split at he
    · cases he
    rotate_left
    · cases he
    rename_i _ s2 how2 hno2
    generalize hx3 : ex false (.ops rf.ops :: mapC rf.rest) _ s2.h = r3 at he
    split at he
    · cases he
    rotate_left
    · cases he
    rename_i _ s3 how3 hno3
    split at he
    rotate_left
    · cases he
    rename_i v3 hv3
    split at he
    rotate_left
    · cases he
    rename_i v4 hv4
    cases he
    have hr := hF.r g rf hFr
    rw [mapC_eq] at hx0 hx2 hx3
    refine Tri_ofD (F1 := fun s => s = s0) (F2 := fun s => s = s1) hc (fun I1 ρ1 w1 Q1 hρ1 hQ1 => ?_) (fun s hs I1 ρ1 w1 Q1 hQ1 => ?_) (fun s hs => ⟨g, av, bv, by rw [hs]; exact hev, goodF_ofR hr, fun I1 ρ1 w1 Q1 hρ1 hQ1 => ?_⟩)
    · have := ih false (df.pre.map .c) _ h s0 none (noOps_mapC _).good hx0 none I1 ρ1 w1 Q1 (fun _ => rfl) fun a' w' hs' => hQ1 s0 rfl a' w' hs'
      rwa [(noOps_mapC _).okk] at this
    · subst hs
      exact ih false [.ops df.ops] _ _ s1 none trivial hx1 none I1 ρ1 w1 Q1 (fun _ => rfl) fun a' w' hs' => hQ1 s1 rfl a' w' hs'
    · subst hs
      have := ih false (df.rest.map .c) s.t s.h s2 how2 (noOps_mapC _).good hx2 none I1 ρ1 w1 Q1 (fun _ => rfl) fun a' w' hs' => QX_of (fun e he => hno2 e (by rw [he])) (hQ1 s2 ?_ a' w' hs')
      · rwa [(noOps_mapC _).okk] at this
      refine TriD_of hr fun I2 ρ2 w2 Q2 hρ2 hQ2 => ?_
      rw [← appL_eq, ← appL_eq]
      exact ih false (.ops rf.ops :: rf.rest.map .c) _ _ s3 how3 (noOps_mapC _) hx3 none I2 ρ2 w2 Q2 (fun _ => rfl) fun a' w' hs' => QX_of (fun e he => hno3 e (by rw [he])) (hQ2 s3 ⟨⟨v3, hv3⟩, v, hv4, rfl, rfl⟩ a' w' hs')
/-- **A closed run is sound.** -/
theorem exec_sound (hd : DrawSound P G) {F : Tab} (hF : F.OK P G) : ∀ (n : Nat) (rd : Bool) (k : List KI) (t : List EV) (h : EH) (s' : St) (how : PD), goodK k → exec stdA G F n rd k t h = some (s', how) →
    ∀ (ro : Option Nat) (I0 : Imm) (ρ0 : Ren) (w0 : World) (Q : Exit → Act → World → Prop), (rd = false → ro = none) → (∀ a w, SimX P G I0 ρ0 w0 s' a w → QX how Q a w) → OKK P G ro I0 ρ0 w0 Q k ⟨t, h⟩ := by
  intro n
  induction n with
  | zero => intro rd k t h s' how _ he; cases he
  | succ n ih =>
    intro rd k t h s' how hk he ro I0 ρ0 w0 Q hro hQ
    have he : exStep stdA G F (exec stdA G F n) rd k t h = some (s', how) := he
    have r1 : OK P G ro I0 ρ0 w0 Q (fun _ => False) (run stdA G 1 k ⟨t, h⟩) → OKK P G ro I0 ρ0 w0 Q k ⟨t, h⟩ := run_sound hd (fun st hf => hf.elim) 1 k ⟨t, h⟩ hk
    cases k with
    | nil =>
      simp only [exStep, Option.some.injEq, Prod.mk.injEq] at he
      obtain ⟨rfl, rfl⟩ := he
      intro Φ hΦ a w hs
      cases hΦ
      exact hQ a w hs
    | cons x k =>
      cases x with
      | c ec =>
        have hnk : noOps k := hk
        cases ec with
        | skip =>
          refine r1 ?_
          simp only [run, OK]
          exact ih rd k t h s' how hnk.good he ro I0 ρ0 w0 Q hro hQ
        | ops l =>
          refine r1 ?_
          simp only [run, OK]
          exact ih rd (.ops l :: k) t h s' how hnk he ro I0 ρ0 w0 Q hro hQ
        | seq a b =>
          refine r1 ?_
          simp only [run, OK]
          exact ih rd (.c a :: .c b :: k) t h s' how hnk he ro I0 ρ0 w0 Q hro hQ
        | cond x a b =>
          refine r1 ?_
          simp only [exStep] at he
          simp only [run]
          split at he
          · rename_i hx; simp only [hx, OK]; exact ih rd (.c a :: k) t h s' how hnk he ro I0 ρ0 w0 Q hro hQ
          · rename_i hx; simp only [hx, OK]; exact ih rd (.c b :: k) t h s' how hnk he ro I0 ρ0 w0 Q hro hQ
          · rename_i v hx
            simp only [hx, OK]
            cases v with
            | true => exact ⟨fun _ => ih rd (.c a :: k) _ h s' how hnk he ro I0 ρ0 w0 Q hro hQ, fun hf => by cases hf⟩
            | false => exact ⟨fun hf => (by cases hf), fun _ => ih rd (.c b :: k) _ h s' how hnk he ro I0 ρ0 w0 Q hro hQ⟩
          · cases he
        | block id c =>
          refine r1 ?_
          simp only [run, OK]
          exact ih rd (.c c :: .blk id :: k) t h s' how hnk he ro I0 ρ0 w0 Q hro hQ
        | loop c =>
          have := ih rd (.c c :: .lp c :: k) t h s' how hnk he ro I0 ρ0 w0 Q hro hQ
          intro Φ hΦ a w hsim
          cases hΦ with
          | c hc hnd hk' =>
            rename_i cc Φ
            rcases compC_inv hc with ⟨h, _⟩ | ⟨id, ops, draw, l, _, h⟩ | ⟨a1, b1, x, y, _, h, _⟩ | ⟨o, a1, b1, x, y, _, h, _⟩ | ⟨id, a1, x, _, h, _⟩ | ⟨a1, x, rfl, h, hx⟩ | ⟨id, _, h⟩ | ⟨_, h⟩ | ⟨_, _, _, _, _, _, _, h, _⟩ | ⟨_, h, _⟩
            all_goals (try (cases h; done))
            cases h
            rw [then_normal]
            exact wp_of_loopWp (loopWp_of (this _ (KW.c hx (fun h => by simpa [noDraw] using hnd h) (KW.lp hx (fun h => by simpa [noDraw] using hnd h) hk')) a w hsim))
        | exit id =>
          simp only [exStep] at he
          split at he
          · rename_i k' hu
            refine r1 ?_
            simp only [run, hu, OK]
            have hn' := unwind_good hnk hu
            exact ih rd k' t h s' how hn'.good he ro I0 ρ0 w0 Q hro hQ
          · rename_i hu
            simp only [Option.some.injEq, Prod.mk.injEq] at he
            obtain ⟨rfl, rfl⟩ := he
            intro Φ hΦ a w hsim
            cases hΦ with
            | c hc hnd hk' =>
              rename_i cc Φ
              rcases compC_inv hc with ⟨h, _⟩ | ⟨id, ops, draw, l, _, h⟩ | ⟨a1, b1, x, y, _, h, _⟩ | ⟨o, a1, b1, x, y, _, h, _⟩ | ⟨id, a1, x, _, h, _⟩ | ⟨a1, x, _, h, hx⟩ | ⟨id, rfl, h⟩ | ⟨_, h⟩ | ⟨_, _, _, _, _, _, _, h, _⟩ | ⟨_, h, _⟩
              all_goals (try (cases h; done))
              cases h
              rw [then_normal]
              exact wpIn_exit (hk'.exitN hu (hQ a w hsim))
        | ret =>
          simp only [exStep, Option.some.injEq, Prod.mk.injEq] at he
          obtain ⟨rfl, rfl⟩ := he
          intro Φ hΦ a w hsim
          cases hΦ with
          | c hc hnd hk' =>
            rename_i cc Φ
            rcases compC_inv hc with ⟨h, _⟩ | ⟨id, ops, draw, l, _, h⟩ | ⟨a1, b1, x, y, _, h, _⟩ | ⟨o, a1, b1, x, y, _, h, _⟩ | ⟨id, a1, x, _, h, _⟩ | ⟨a1, x, _, h, hx⟩ | ⟨id, _, h⟩ | ⟨rfl, h⟩ | ⟨_, _, _, _, _, _, _, h, _⟩ | ⟨_, h, _⟩
            all_goals (try (cases h; done))
            rw [then_normal]
            exact wpIn_ret (hk'.ret (hQ a w hsim))
        | rf x ps asg body =>
          simp only [exStep] at he
          split at he
          · cases he
          rename_i hrd
          have hron := hro rfl
          subst hron
          split at he
          rotate_left
          · cases he
          rename_i f av bv hx
          split at he
          · cases he
          intro Φ hΦ a w hsim
          cases hΦ with
          | c hc hnd hk' =>
            rename_i cc Φ
            rcases compC_inv hc with ⟨h, _⟩ | ⟨id, ops, draw, l, _, h⟩ | ⟨a1, b1, x, y, _, h, _⟩ | ⟨o, a1, b1, x, y, _, h, _⟩ | ⟨id, a1, x, _, h, _⟩ | ⟨a1, x, _, h, hx⟩ | ⟨id, _, h⟩ | ⟨_, h⟩ | ⟨x', ps', a1, c1, ea, eb, rfl, h, ha, hb⟩ | ⟨_, h, _⟩
            all_goals (try (cases h; done))
            cases h
            rw [then_normal]
            generalize hexe : exFn G F (exec stdA G F n) (pushH _ (.lp t ps'.toList asg body 0 none)) f (appL av (.yl (sizeH _) :: bv)) = ex at he
            split at he
            rotate_left
            · cases he
            rename_i v1 h1
            obtain ⟨hgood, htri⟩ := exFn_sound hF ih hexe
            split at he
            rotate_left
            · cases he
            rename_i t2 ps2 a2 b2 st pd hg
            split at he
            · cases he
            rename_i hst
            simp only [fH_eq] at he
            refine rf_sound (R := fun v h' => v = v1 ∧ h' = h1) hsim ha hb hx hgood (by rw [← appL_eq]; exact htri) (fun v h' hv => ?_)
            obtain ⟨_, rfl⟩ := hv
            refine ⟨t2, ps2, a2, b2, st, pd, hg, (fun e => by subst e; cases hst), fun a' w' hs' => ?_⟩
            split at he
            · have := ih false k t _ s' how hnk.good he none I0 ρ0 w0 Q hro hQ
              rw [hnk.okk] at this
              exact this Φ hk' a' w' hs'
            · simp only [Option.some.injEq, Prod.mk.injEq] at he
              obtain ⟨rfl, rfl⟩ := he
              exact hk'.ret (hQ a' w' hs')
            · split at he
              · rename_i k' hu
                obtain ⟨Φ', h1, h2⟩ := hk'.exit hu
                have hn' := unwind_good hnk hu
                have := ih false k' t _ s' how hn'.good he none I0 ρ0 w0 Q hro hQ
                rw [hn'.okk] at this
                exact h2 a' w' (this Φ' h1 a' w' hs')
              · rename_i hu
                simp only [Option.some.injEq, Prod.mk.injEq] at he
                obtain ⟨rfl, rfl⟩ := he
                exact hk'.exitN hu (hQ a' w' hs')
        | any t => cases he
      | ops l =>
        have hnk : noOps k := hk
        cases l with
        | nil =>
          refine r1 ?_
          simp only [run, OK]
          exact ih rd k t h s' how hnk.good he ro I0 ρ0 w0 Q hro hQ
        | cons o l =>
          show SeqOK P G (PanK P G I0 ρ0 w0 Q) (o :: l) ⟨t, h⟩ fun st' => OKs P G ro I0 ρ0 w0 Q k st'
          simp only [exStep] at he
          have nx : ∀ t h, exec stdA G F n rd (.ops l :: k) t h = some (s', how) → SeqOK P G (PanK P G I0 ρ0 w0 Q) l ⟨t, h⟩ fun st' => OKs P G ro I0 ρ0 w0 Q k st' := fun t h hh => ih rd (.ops l :: k) t h s' how hnk hh ro I0 ρ0 w0 Q hro hQ
          have nxt : ∀ t v h', (fE v fun v => fPut t o.dst v fun t => match isX o.i with
                | true => fH h' fun h => exec stdA G F n rd (.ops l :: k) t h
                | false => exec stdA G F n rd (.ops l :: k) t h') = some (s', how) → SeqOK P G (PanK P G I0 ρ0 w0 Q) l ⟨putT t o.dst v, h'⟩ fun st' => OKs P G ro I0 ρ0 w0 Q k st' := fun t v h' hv => by
            simp only [fE_eq, fPut_eq, fH_eq] at hv
            cases hx : isX o.i <;> simp only [hx] at hv <;> exact nx _ _ hv
          have go : ∀ t, exSR stdA (fun v h => fE v fun v => fPut t o.dst v fun t => match isX o.i with
                | true => fH h fun h => exec stdA G F n rd (.ops l :: k) t h
                | false => exec stdA G F n rd (.ops l :: k) t h)
              (exCall G F (exec stdA G F n) h (fun v h => fE v fun v => fPut t o.dst v fun t => match isX o.i with
                | true => fH h fun h => exec stdA G F n rd (.ops l :: k) t h
                | false => exec stdA G F n rd (.ops l :: k) t h)) (stepI stdA G t h o.i) = some (s', how) →
              SROK (fun v h' => SeqOK P G (PanK P G I0 ρ0 w0 Q) l ⟨putT t o.dst v, h'⟩ fun st' => OKs P G ro I0 ρ0 w0 Q k st')
                (fun f args => CallOK P G (fun v h' => PanK P G I0 ρ0 w0 Q v ⟨t, h'⟩) f args h fun v h' => SeqOK P G (PanK P G I0 ρ0 w0 Q) l ⟨putT t o.dst v, h'⟩ fun st' => OKs P G ro I0 ρ0 w0 Q k st') (stepI stdA G t h o.i) := by
            intro t hh
            refine exSR_sound (fun v h' hv => nxt t v h' hv) (fun f args hf => ?_) hh
            unfold exCall at hf
            split at hf
            · rename_i hfr
              have hfr := Nat.eq_of_beq_eq_true hfr
              split at hf
              rotate_left
              · cases hf
              rename_i id as
              split at hf
              rotate_left
              · cases hf
              rename_i t0 ps asg body pd hg
              split at hf
              rotate_left
              · cases hf
              rename_i hlen
              simp only [fPs_eq] at hf
              generalize hx1 : exec stdA G F n true [.c asg] (setPs t0 ps as) h = ex1 at hf
              split at hf
              rotate_left
              · cases hf
              rename_i s1
              split at hf
              rotate_left
              · cases hf
              rename_i t1 ps1 a1 b1 pd1 hg1
              generalize hx2 : exec stdA G F n true [.c body] s1.t (setH s1.h id (.lp t1 ps1 a1 b1 1 pd1)) = ex2 at hf
              split at hf
              rotate_left
              · cases hf
              rename_i s2 how2
              split at hf
              rotate_left
              · cases hf
              rename_i t2 ps2 a2 b2 st2 pd2 hg2
              refine .inr (.inl ⟨id, as, hfr, rfl, (TriY_of hg (Nat.eq_of_beq_eq_true hlen) (fun ro' I1 ρ1 w1 Q1 hr' hq1 => ih true [.c asg] _ h s1 none trivial hx1 ro' I1 ρ1 w1 Q1 (fun e => by cases e) hq1) hg1
                (fun ro' I1 ρ1 w1 Q1 hr' hq1 => ih true [.c body] _ _ s2 how2 trivial hx2 ro' I1 ρ1 w1 Q1 (fun e => by cases e) hq1) hg2).mono fun v h' hv => ?_⟩)
              obtain ⟨rfl, rfl⟩ := hv
              split at hf
              · exact nxt t _ _ hf
              · exact nxt t _ _ hf
            · split at hf
              · rename_i tb htb
                split at hf
                rotate_left
                · cases hf
                rename_i v1 hv1
                obtain ⟨hgood, htri⟩ := orcF_sound hF htb hv1
                exact .inl ⟨hgood, (htri.mono fun v' h' hv => by obtain ⟨rfl, rfl⟩ := hv; exact nxt t _ _ hf).x⟩
              · generalize hexe : exFn G F (exec stdA G F n) h f args = ex at hf
                split at hf
                rotate_left
                · cases hf
                rename_i v1 h1
                obtain ⟨hgood, htri⟩ := exFn_sound hF ih hexe
                exact .inl ⟨hgood, (htri.mono fun v' h' hv => by obtain ⟨rfl, rfl⟩ := hv; exact nxt t _ _ hf).x⟩
          simp only [SeqOK]
          split at he
          · rename_i hg
            simp only [hg]
            exact go t he
          · rename_i g want hg
            simp only [hg]
            split at he
            · rename_i b hb
              simp only [hb]
              split at he
              · rename_i hbw; rw [if_pos hbw]; exact go t he
              · rename_i hbw
                rw [if_neg (by simp [hbw])]
                simp only [fPut_eq] at he
                exact nx _ _ he
            · rename_i vs hb
              simp only [hb]
              simp only [fPut_eq] at he
              exact nx _ _ he
            · rename_i b hb
              simp only [hb]
              simp only [fSet_eq] at he
              have use : (if b == want then SROK (fun v h' => SeqOK P G (PanK P G I0 ρ0 w0 Q) l ⟨putT (setT t g (.lit (.bool b))) o.dst v, h'⟩ fun st' => OKs P G ro I0 ρ0 w0 Q k st')
                  (fun f args => CallOK P G (fun v h' => PanK P G I0 ρ0 w0 Q v ⟨setT t g (.lit (.bool b)), h'⟩) f args h fun v h' => SeqOK P G (PanK P G I0 ρ0 w0 Q) l ⟨putT (setT t g (.lit (.bool b))) o.dst v, h'⟩ fun st' => OKs P G ro I0 ρ0 w0 Q k st') (stepI stdA G (setT t g (.lit (.bool b))) h o.i)
                else SeqOK P G (PanK P G I0 ρ0 w0 Q) l ⟨putT (setT t g (.lit (.bool b))) o.dst undefE, h⟩ fun st' => OKs P G ro I0 ρ0 w0 Q k st') := by
                split at he
                · rename_i hbw; rw [if_pos hbw]; exact go _ he
                · rename_i hbw
                  rw [if_neg (by simp [hbw])]
                  simp only [fPut_eq] at he
                  exact nx _ _ he
              exact ⟨fun hbt => by subst hbt; exact use, fun hbf => by subst hbf; exact use⟩
            · cases he
      | blk id =>
        have hnk : noOps k := hk
        refine r1 ?_
        simp only [run, OK]
        exact ih rd k t h s' how hnk.good he ro I0 ρ0 w0 Q hro hQ
      | mark R => cases he
      | lp c =>
        have hnk : noOps k := hk
        have := ih rd (.c c :: .lp c :: k) t h s' how hnk he ro I0 ρ0 w0 Q hro hQ
        intro Φ hΦ a w hsim
        cases hΦ with
        | lp hc hnd hk' => exact loopWp_of (this _ (KW.c hc hnd (KW.lp hc hnd hk')) a w hsim)
/-- the functions of a table -/
def findF {α : Type} : List (Nat × α) → Nat → Option α
  | [], _ => none
  | (g, fc) :: l, f => if Nat.beq g f then some fc else findF l f
def tabOK {α : Type} (comp : Nat → Option α) : List (Nat × α) → Prop
  | [] => True
  | (f, fc) :: l => comp f = some fc ∧ tabOK comp l
theorem findF_ok {α : Type} {comp : Nat → Option α} : ∀ {l : List (Nat × α)}, tabOK comp l → ∀ f fc, findF l f = some fc → comp f = some fc
  | [], _, _, _, h => by cases h
  | (g, x) :: l, ht, f, fc, h => by
    simp only [findF] at h
    split at h
    · rename_i hb; cases h; rw [← Nat.eq_of_beq_eq_true hb]; exact ht.1
    · exact findF_ok ht.2 f fc h
/-- a closed run's value, out of a table -/
noncomputable def execV (G : List (List EV)) (T : Tab) (n f : Nat) (args : List EV) (h : EH) : Option EV :=
  match exFn G T (exec kA G T n) h f args with
  | some (v, _) => some v
  | none => none
/-- **A call over known arguments whose result names no own memory.** -/
theorem Tri.closed (hd : DrawSound P G) {T : Tab} (hT : T.OK P G) {n f : Nat} {args : List EV} {v : EV} (he : execV G T n f args [] = some v) (hv : clE v = true) :
    goodF P f = true ∧ Tri P G f args [] fun v' h' => v' = v ∧ h' = [] := by
  unfold execV at he
  rw [kA_eq] at he
  generalize hex : exFn G T (exec stdA G T n) [] f args = ex at he
  split at he
  rotate_left
  · cases he
  rename_i v1 h1
  cases he
  obtain ⟨hg, ht⟩ := exFn_sound hT (fun rd k t h s' how hk he => exec_sound hd hT n rd k t h s' how hk he) hex
  refine ⟨hg, Tri.mv (R := fun v' h' => v' = v ∧ h' = h1) ht fun v' h' hv' => ⟨[], [], rfl, ⟨by simp, by simp, by simp⟩, ?_, rfl⟩⟩
  rw [hv'.1]; exact mvE_cl _ _ _ hv
end
end Go.Proofs.YtpgeonghlabnhaaGreatDoor.Em
