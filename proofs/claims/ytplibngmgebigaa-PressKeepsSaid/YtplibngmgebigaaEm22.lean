/- Em22: closed runs: a function over known arguments, carried out to its end; sound against the contracts. No conditions beyond those written. -/
import Derived.Test.YtplibngmgebigaaEm21
import Derived.Laws.Strings
set_option linter.unusedVariables false
set_option linter.unusedSimpArgs false
namespace Go.Proofs.Ytplibngmgebigaa.Em
open Go

/-- The arithmetic once more, where the kernel reckons it with ease. -/
def kA : Ar := { stdA with
  ss := fun op a b => match op with
    | .eql => a.data.toList == b.data.toList
    | .neq => !(a.data.toList == b.data.toList)
    | .lss => Op.bytesLess a.data.toList b.data.toList
    | .leq => Op.bytesLess a.data.toList b.data.toList || a.data.toList == b.data.toList
    | .gtr => !(Op.bytesLess a.data.toList b.data.toList || a.data.toList == b.data.toList)
    | .geq => !Op.bytesLess a.data.toList b.data.toList
    | _ => false
  cat := fun a b => ⟨(a.data.toList ++ b.data.toList).toArray⟩
  bex := fun s a b => ⟨((s.data.toList.drop a).take (b - a)).toArray⟩ }

theorem kA_eq : kA = stdA := by
  have h1 : kA.ss = stdA.ss := by
    funext op a b
    cases op <;> simp only [kA, stdA, ByteArray.toList_eq]
  have h2 : kA.cat = stdA.cat := by
    funext a b
    apply ByteArray.ext
    apply Array.ext'
    simp [kA, stdA]
  have h3 : kA.bex = stdA.bex := by
    funext s a b
    apply ByteArray.ext
    apply Array.ext'
    simp [kA, stdA]
  unfold kA at *
  simp only at h1 h2 h3
  rw [h1, h2, h3]

/-- a number worked out -/
def fN {α : Type} (n : Nat) (k : Nat → α) : α := match n with | 0 => k 0 | m + 1 => k (m + 1)
theorem fN_eq {α : Type} (n : Nat) (k : Nat → α) : fN n k = k n := by cases n <;> rfl
def fI {α : Type} (n : Int) (k : Int → α) : α := match n with | .ofNat m => fN m fun m => k (.ofNat m) | .negSucc m => fN m fun m => k (.negSucc m)
theorem fI_eq {α : Type} (n : Int) (k : Int → α) : fI n k = k n := by cases n <;> simp [fI, fN_eq]
def fB {α : Type} (b : Bool) (k : Bool → α) : α := match b with | true => k true | false => k false
theorem fB_eq {α : Type} (b : Bool) (k : Bool → α) : fB b k = k b := by cases b <;> rfl
def fU {α : Type} (l : List UInt8) (k : List UInt8 → α) : α := match l with
  | [] => k []
  | x :: l => fN x.toNat fun n => fU l fun l => k (UInt8.ofNat n :: l)
theorem fU_eq {α : Type} : ∀ (l : List UInt8) (k : List UInt8 → α), fU l k = k l
  | [], _ => rfl
  | x :: l, k => by simp [fU, fN_eq, fU_eq l]
def fV {α : Type} (v : Value) (k : Value → α) : α := match v with
  | .int i n => fI n fun n => k (.int i n)
  | .bool b => fB b fun b => k (.bool b)
  | .string s => fU s.data.toList fun l => k (.string ⟨l.toArray⟩)
  | v => k v
theorem fV_eq {α : Type} (v : Value) (k : Value → α) : fV v k = k v := by
  cases v <;> simp [fV, fI_eq, fB_eq, fU_eq]
def fC {α : Type} (c : Option Nat) (k : Option Nat → α) : α := match c with | none => k none | some n => fN n fun n => k (some n)
theorem fC_eq {α : Type} (c : Option Nat) (k : Option Nat → α) : fC c k = k c := by cases c <;> simp [fC, fN_eq]

mutual
def fE {α : Type} (e : EV) (k : EV → α) : α := match e with
  | .lit v => fV v fun v => k (.lit v)
  | .sb b => fB b fun b => k (.sb b)
  | .ptr i o => fN i fun i => fN o fun o => k (.ptr i o)
  | .eptr i o => fN i fun i => fN o fun o => k (.eptr i o)
  | .sl es i o n c => fN es fun es => fN i fun i => fN o fun o => fN n fun n => fC c fun c => k (.sl es i o n c)
  | .mp i => fN i fun i => k (.mp i)
  | .iptr c o => fN o fun o => k (.iptr c o)
  | .isl n cap c => fN n fun n => fC cap fun cap => k (.isl n cap c)
  | .fn f a b => fL a fun a => fL b fun b => k (.fn f a b)
  | .iface t e => fE e fun e => k (.iface t e)
  | .agg c => fL c fun c => k (.agg c)
  | .tup c => fL c fun c => k (.tup c)
  | .top => k .top
def fL {α : Type} (l : List EV) (k : List EV → α) : α := match l with
  | [] => k []
  | x :: l => fE x fun x => fL l fun l => k (x :: l)
end

mutual
theorem fE_eq {α : Type} : ∀ (e : EV) (k : EV → α), fE e k = k e
  | .lit v, k => by simp [fE, fV_eq]
  | .sb b, k => by simp [fE, fB_eq]
  | .ptr _ _, k => by simp [fE, fN_eq]
  | .eptr _ _, k => by simp [fE, fN_eq]
  | .sl _ _ _ _ _, k => by simp [fE, fN_eq, fC_eq]
  | .mp _, k => by simp [fE, fN_eq]
  | .iptr _ _, k => by simp [fE, fN_eq]
  | .isl _ _ _, k => by simp [fE, fN_eq, fC_eq]
  | .fn f a b, k => by simp [fE, fL_eq a, fL_eq b]
  | .iface t e, k => by simp [fE, fE_eq e]
  | .agg c, k => by simp [fE, fL_eq c]
  | .tup c, k => by simp [fE, fL_eq c]
  | .top, k => by simp [fE]
theorem fL_eq {α : Type} : ∀ (l : List EV) (k : List EV → α), fL l k = k l
  | [], k => by simp [fL]
  | x :: l, k => by simp [fL, fE_eq x, fL_eq l]
end

def fM {α : Type} (l : List (EV × EV)) (k : List (EV × EV) → α) : α := match l with
  | [] => k []
  | (x, y) :: l => fE x fun x => fE y fun y => fM l fun l => k ((x, y) :: l)
def fO {α : Type} (o : EO) (k : EO → α) : α := match o with
  | .dead => k .dead
  | .blk c => fL c fun c => k (.blk c)
  | .emap es => fM es fun es => k (.emap es)
def fH {α : Type} (h : EH) (k : EH → α) : α := match h with
  | [] => k []
  | o :: l => fO o fun o => fH l fun l => k (o :: l)

theorem fM_eq {α : Type} : ∀ (l : List (EV × EV)) (k : List (EV × EV) → α), fM l k = k l
  | [], k => rfl
  | (x, y) :: l, k => by simp [fM, fE_eq, fM_eq l]
theorem fO_eq {α : Type} (o : EO) (k : EO → α) : fO o k = k o := by cases o <;> simp [fO, fL_eq, fM_eq]
theorem fH_eq {α : Type} : ∀ (h : EH) (k : EH → α), fH h k = k h
  | [], k => rfl
  | o :: l, k => by simp [fH, fO_eq, fH_eq l]

/-- a place written, the list laid out -/
def fSet {α : Type} (l : List EV) (d : Nat) (v : EV) (k : List EV → α) : α := match l, d with
  | [], _ => k []
  | _ :: l, 0 => k (v :: l)
  | x :: l, d + 1 => fSet l d v fun l => k (x :: l)
theorem fSet_eq {α : Type} : ∀ (l : List EV) (d : Nat) (v : EV) (k : List EV → α), fSet l d v k = k (setT l d v)
  | [], _, _, _ => rfl
  | _ :: _, 0, _, _ => rfl
  | x :: l, d + 1, v, k => by simp [fSet, setT, fSet_eq l]
def fPut {α : Type} (l : List EV) (d : Option Nat) (v : EV) (k : List EV → α) : α := match d with
  | none => k l
  | some d => fSet l d v k
theorem fPut_eq {α : Type} (l : List EV) (d : Option Nat) (v : EV) (k : List EV → α) : fPut l d v k = k (putT l d v) := by cases d <;> simp [fPut, putT, fSet_eq]

/-- are two values spelled alike? -/
def eqV : Value → Value → Bool
  | .int k n, .int k' m => decide (k = k') && decide (n = m)
  | .bool a, .bool b => a == b
  | .string a, .string b => a.data.toList == b.data.toList
  | .pointer none, .pointer none => true
  | .slice none a b, .slice none c d => Nat.beq a c && Nat.beq b d
  | .map none, .map none => true
  | .nilFunc, .nilFunc => true
  | .nilIface, .nilIface => true
  | _, _ => false
theorem eqV_eq {a b : Value} (h : eqV a b = true) : a = b := by
  unfold eqV at h
  split at h
  · simp at h; rw [h.1, h.2]
  · simp at h; rw [h]
  · simp at h; congr 1; exact ByteArray.ext h
  · rfl
  · simp only [Bool.and_eq_true] at h; rw [Nat.eq_of_beq_eq_true h.1, Nat.eq_of_beq_eq_true h.2]
  · rfl
  · rfl
  · rfl
  · cases h
def eqC : Option Nat → Option Nat → Bool
  | none, none => true
  | some a, some b => Nat.beq a b
  | _, _ => false
theorem eqC_eq {a b : Option Nat} (h : eqC a b = true) : a = b := by
  cases a <;> cases b <;> simp [eqC] at h
  · rfl
  · rw [h]
mutual
def eqE : EV → EV → Bool
  | .lit a, .lit b => eqV a b
  | .sb a, .sb b => a == b
  | .ptr a b, .ptr c d => Nat.beq a c && Nat.beq b d
  | .eptr a b, .eptr c d => Nat.beq a c && Nat.beq b d
  | .sl a b c d e, .sl a' b' c' d' e' => Nat.beq a a' && Nat.beq b b' && Nat.beq c c' && Nat.beq d d' && eqC e e'
  | .mp a, .mp b => Nat.beq a b
  | .iface t a, .iface u b => Nat.beq t u && eqE a b
  | .agg a, .agg b => eqL a b
  | .tup a, .tup b => eqL a b
  | .top, .top => true
  | _, _ => false
def eqL : List EV → List EV → Bool
  | [], [] => true
  | x :: l, y :: m => eqE x y && eqL l m
  | _, _ => false
end
mutual
theorem eqE_eq : ∀ (a b : EV), eqE a b = true → a = b
  | .lit a, b, h => by cases b <;> simp [eqE] at h; rw [eqV_eq h]
  | .sb a, b, h => by cases b <;> simp [eqE] at h; rw [h]
  | .ptr _ _, b, h => by cases b <;> simp [eqE] at h; rw [h.1, h.2]
  | .eptr _ _, b, h => by cases b <;> simp [eqE] at h; rw [h.1, h.2]
  | .sl _ _ _ _ _, b, h => by
    cases b <;> simp [eqE] at h
    obtain ⟨⟨⟨⟨h1, h2⟩, h3⟩, h4⟩, h5⟩ := h
    rw [h1, h2, h3, h4, eqC_eq h5]
  | .mp _, b, h => by cases b <;> simp [eqE] at h; rw [h]
  | .iface t a, b, h => by
    cases b <;> simp [eqE] at h
    rw [h.1, eqE_eq a _ h.2]
  | .agg a, b, h => by cases b <;> simp [eqE] at h; rw [eqL_eq a _ h]
  | .tup a, b, h => by cases b <;> simp [eqE] at h; rw [eqL_eq a _ h]
  | .top, b, h => by cases b <;> simp [eqE] at h; rfl
  | .iptr _ _, b, h => by cases b <;> simp [eqE] at h
  | .isl _ _ _, b, h => by cases b <;> simp [eqE] at h
  | .fn _ _ _, b, h => by cases b <;> simp [eqE] at h
theorem eqL_eq : ∀ (a b : List EV), eqL a b = true → a = b
  | [], b, h => by cases b <;> simp [eqL] at h; rfl
  | x :: l, b, h => by
    cases b with
    | nil => simp [eqL] at h
    | cons y m => simp [eqL] at h; rw [eqE_eq x y h.1, eqL_eq l m h.2]
end

def lookE (A : Ar) (c : List EV) (off n : Nat) (agg : Bool) : Option EV :=
  let cs := A.tak n (A.drp off c)
  if Nat.beq (lenL cs) n then mkV agg cs else none

/-- An instruction's outcome, carried on. -/
def exSR {α : Type} (A : Ar) (cont : EV → EH → Option α) (call : FuncId → List EV → Option α) : SR → Option α
  | .stuck => none
  | .ret v h => cont v h
  | .need b r => match b with | true => exSR A cont call r | false => none
  | .look c off n agg h => match lookE A c off n agg with | some v => cont v h | none => none
  | .br b v1 h1 v2 h2 => match b with | true => cont v1 h1 | false => cont v2 h2
  | .opt o ok z h => match o with
    | none => cont (if ok then .tup [z, .lit (.bool false)] else z) h
    | some x => cont (if ok then .tup [x, .lit (.bool true)] else x) h
  | .call f args => call f args
  | .same v w h => match eqE v w with | true => cont undefE h | false => none
  | .lookS c off n agg w h => match lookE A c off n agg with
    | some v => match eqE v w with | true => cont undefE h | false => none
    | none => none

section
variable (A : Ar) (G : List (List EV)) (F : Nat → Option FC)

/-- One step of a closed run, and on. -/
def exStep (ih : List KI → List EV → EH → Option St) (k : List KI) (t : List EV) (h : EH) : Option St :=
  match k with
  | [] => some ⟨t, h⟩
  | .c ec :: k => match ec with
    | .skip => ih k t h
    | .ops l => ih (.ops l :: k) t h
    | .seq a b => ih (.c a :: .c b :: k) t h
    | .cond x a b => match evalO G t x with
      | .lit (.bool true) => ih (.c a :: k) t h
      | .lit (.bool false) => ih (.c b :: k) t h
      | .sb v => match v with
        | true => ih (.c a :: k) (litB t x true) h
        | false => ih (.c b :: k) (litB t x false) h
      | _ => none
    | .block id c => ih (.c c :: .blk id :: k) t h
    | .loop c => ih (.c c :: .lp c :: k) t h
    | .exit id => match unwindK id k with
      | some k' => ih k' t h
      | none => none
    | .ret => some ⟨t, h⟩
  | .ops [] :: k => ih k t h
  | .ops (o :: l) :: k =>
    let next (t : List EV) (v : EV) (h : EH) : Option St := fE v fun v => fPut t o.dst v fun t => match isX o.i with
      | true => fH h fun h => ih (.ops l :: k) t h
      | false => ih (.ops l :: k) t h
    let go (t : List EV) : Option St := exSR A (next t)
      (fun f args => match F f with
        | some fc => fL args fun args => match ih [.c fc.body] (padT args fc.ntmps) h with
          | some s' => match retE fc.rs s'.t s'.h with
            | some v => fE v fun v => fPut t o.dst v fun t => fH s'.h fun h => ih (.ops l :: k) t h
            | none => none
          | none => none
        | none => none) (stepI A G t h o.i)
    match o.guard with
    | none => go t
    | some (g, want) => match getT t g with
      | .lit (.bool b) => match (b == want) with
        | true => go t
        | false => fPut t o.dst undefE fun t => ih (.ops l :: k) t h
      | .sb b => match (b == want) with
        | true => fSet t g (.lit (.bool b)) fun t => go t
        | false => fSet t g (.lit (.bool b)) fun t => fPut t o.dst undefE fun t => ih (.ops l :: k) t h
      | _ => none
  | .blk _ :: k => ih k t h
  | .mark _ :: _ => none
  | .lp c :: k => ih (.c c :: .lp c :: k) t h

noncomputable def exec (n : Nat) : List KI → List EV → EH → Option St := Nat.rec (fun _ _ _ => none) (fun _ ih => exStep A G F ih) n

end

section
variable {P : Program} {G : List (List EV)} {I0 : Imm} {ρ0 : Ren} {w0 : World} {Q : Exit → Act → World → Prop}

theorem lookE_spec {c : List EV} {off n : Nat} {agg : Bool} {v : EV} (h : lookE stdA c off n agg = some v) : ∃ cs, cs.length = n ∧ (c.drop off).take n = cs ∧ mkV agg cs = some v := by
  unfold lookE at h
  simp only at h
  split at h
  · rename_i hb
    have := Nat.eq_of_beq_eq_true hb
    rw [lenL_eq] at this
    exact ⟨_, this, rfl, h⟩
  · cases h

theorem exSR_sound {α : Type} {cont : EV → EH → Option α} {call : FuncId → List EV → Option α} {s' : α} {post : EV → EH → Prop} {pc : FuncId → List EV → Prop}
    (h1 : ∀ v h, cont v h = some s' → post v h) (h2 : ∀ f args, call f args = some s' → pc f args) : ∀ {r : SR}, exSR stdA cont call r = some s' → SROK post pc r
  | .stuck, h => by simp [exSR] at h
  | .ret v h', h => h1 _ _ h
  | .need b r, h => by
    cases b with
    | true => exact ⟨rfl, exSR_sound h1 h2 (by simpa [exSR] using h)⟩
    | false => simp [exSR] at h
  | .look c off n agg h', h => by
    simp only [exSR] at h
    split at h
    · rename_i v hv
      obtain ⟨cs, q1, q2, q3⟩ := lookE_spec hv
      exact ⟨cs, v, q1, q2, q3, h1 _ _ h⟩
    · cases h
  | .br b v1 h1' v2 h2', h => by
    cases b with
    | true => exact ⟨fun _ => h1 _ _ h, fun hf => by cases hf⟩
    | false => exact ⟨fun hf => (by cases hf), fun _ => h1 _ _ h⟩
  | .opt o ok z h', h => by
    cases o with
    | none => exact ⟨fun _ => h1 _ _ h, fun x hx => by cases hx⟩
    | some x => exact ⟨fun hf => (by cases hf), fun y hy => (by cases hy; exact h1 _ _ h)⟩
  | .call f args, h => h2 _ _ h
  | .same v w h', h => by
    simp only [exSR] at h
    split at h
    · rename_i he; exact ⟨eqE_eq _ _ he, h1 _ _ h⟩
    · cases h
  | .lookS c off n agg w h', h => by
    simp only [exSR] at h
    split at h
    · rename_i v hv
      split at h
      · rename_i he
        obtain ⟨cs, q1, q2, q3⟩ := lookE_spec hv
        exact ⟨⟨cs, q1, q2, by rw [← eqE_eq _ _ he]; exact q3⟩, h1 _ _ h⟩
      · cases h
    · cases h

/-- **A closed run is sound.** -/
theorem exec_sound (hd : DrawSound P G) {F : Nat → Option FC} (hF : ∀ f fc, F f = some fc → compF P f = some fc) : ∀ (n : Nat) (k : List KI) (t : List EV) (h : EH) (s' : St), goodK k → exec stdA G F n k t h = some s' →
    ∀ (I0 : Imm) (ρ0 : Ren) (w0 : World) (Q : Exit → Act → World → Prop), EndsQ G I0 ρ0 w0 Q (fun s => s = s') → OKK P G I0 ρ0 w0 Q k ⟨t, h⟩ := by
  intro n
  induction n with
  | zero => intro k t h s' _ he; cases he
  | succ n ih =>
    intro k t h s' hk he I0 ρ0 w0 Q hQ
    have he : exStep stdA G F (exec stdA G F n) k t h = some s' := he
    have r1 : OK P G I0 ρ0 w0 Q (fun s => s = s') (run stdA G 1 k ⟨t, h⟩) → OKK P G I0 ρ0 w0 Q k ⟨t, h⟩ := run_sound hd hQ 1 k ⟨t, h⟩ hk
    cases k with
    | nil =>
      refine r1 ?_
      simp only [run, OK]
      simpa [exStep] using he
    | cons x k =>
      cases x with
      | c ec =>
        have hnk : noOps k := hk
        cases ec with
        | skip =>
          refine r1 ?_
          simp only [run, OK]
          exact ih k t h s' hnk.good he I0 ρ0 w0 Q hQ
        | ops l =>
          refine r1 ?_
          simp only [run, OK]
          exact ih (.ops l :: k) t h s' hnk he I0 ρ0 w0 Q hQ
        | seq a b =>
          refine r1 ?_
          simp only [run, OK]
          exact ih (.c a :: .c b :: k) t h s' hnk he I0 ρ0 w0 Q hQ
        | cond x a b =>
          refine r1 ?_
          simp only [exStep] at he
          simp only [run]
          split at he
          · rename_i hx; simp only [hx, OK]; exact ih (.c a :: k) t h s' hnk he I0 ρ0 w0 Q hQ
          · rename_i hx; simp only [hx, OK]; exact ih (.c b :: k) t h s' hnk he I0 ρ0 w0 Q hQ
          · rename_i v hx
            simp only [hx, OK]
            cases v with
            | true => exact ⟨fun _ => ih (.c a :: k) _ h s' hnk he I0 ρ0 w0 Q hQ, fun hf => by cases hf⟩
            | false => exact ⟨fun hf => (by cases hf), fun _ => ih (.c b :: k) _ h s' hnk he I0 ρ0 w0 Q hQ⟩
          · cases he
        | block id c =>
          refine r1 ?_
          simp only [run, OK]
          exact ih (.c c :: .blk id :: k) t h s' hnk he I0 ρ0 w0 Q hQ
        | loop c =>
          have := ih (.c c :: .lp c :: k) t h s' hnk he I0 ρ0 w0 Q hQ
          intro Φ hΦ a w hsim
          cases hΦ with
          | c hc hk' =>
            rename_i cc Φ
            rcases compC_inv hc with ⟨h, _⟩ | ⟨id, ops, draw, l, _, h⟩ | ⟨a1, b1, x, y, _, h, _⟩ | ⟨o, a1, b1, x, y, _, h, _⟩ | ⟨id, a1, x, _, h, _⟩ | ⟨a1, x, rfl, h, hx⟩ | ⟨id, _, h⟩ | ⟨_, h⟩
            all_goals (try (cases h; done))
            cases h
            rw [then_normal]
            exact wp_of_loopWp (loopWp_of (this _ (KW.c hx (KW.lp hx hk')) a w hsim))
        | exit id =>
          refine r1 ?_
          simp only [exStep] at he
          simp only [run]
          split at he
          · rename_i k' hu
            simp only [hu, OK]
            have hn' := unwind_good hnk hu
            exact ih k' t h s' hn'.good he I0 ρ0 w0 Q hQ
          · cases he
        | ret =>
          refine r1 ?_
          simp only [run, OK]
          simpa [exStep] using he
      | ops l =>
        have hnk : noOps k := hk
        cases l with
        | nil =>
          refine r1 ?_
          simp only [run, OK]
          exact ih k t h s' hnk.good he I0 ρ0 w0 Q hQ
        | cons o l =>
          show SeqOK P G (o :: l) ⟨t, h⟩ fun st' => OKs P G I0 ρ0 w0 Q k st'
          simp only [exStep] at he
          have nx : ∀ t h, exec stdA G F n (.ops l :: k) t h = some s' → SeqOK P G l ⟨t, h⟩ fun st' => OKs P G I0 ρ0 w0 Q k st' := fun t h hh => ih (.ops l :: k) t h s' hnk hh I0 ρ0 w0 Q hQ
          have go : ∀ t, exSR stdA (fun v h => fE v fun v => fPut t o.dst v fun t => match isX o.i with
                | true => fH h fun h => exec stdA G F n (.ops l :: k) t h
                | false => exec stdA G F n (.ops l :: k) t h)
              (fun f args => match F f with
                | some fc => fL args fun args => match exec stdA G F n [.c fc.body] (padT args fc.ntmps) h with
                  | some s' => match retE fc.rs s'.t s'.h with
                    | some v => fE v fun v => fPut t o.dst v fun t => fH s'.h fun h => exec stdA G F n (.ops l :: k) t h
                    | none => none
                  | none => none
                | none => none) (stepI stdA G t h o.i) = some s' →
              SROK (fun v h' => SeqOK P G l ⟨putT t o.dst v, h'⟩ fun st' => OKs P G I0 ρ0 w0 Q k st')
                (fun f args => goodF P f = true ∧ Tri P G f args h fun v h' => SeqOK P G l ⟨putT t o.dst v, h'⟩ fun st' => OKs P G I0 ρ0 w0 Q k st') (stepI stdA G t h o.i) := by
            intro t hh
            refine exSR_sound (fun v h' hv => ?_) (fun f args hf => ?_) hh
            · simp only [fE_eq, fPut_eq, fH_eq] at hv
              cases hx : isX o.i <;> simp only [hx] at hv <;> exact nx _ _ hv
            · cases hFf : F f with
              | none => simp [hFf] at hf
              | some fc =>
                simp only [hFf, fL_eq, fE_eq, fPut_eq, fH_eq] at hf
                have hc := hF f fc hFf
                refine ⟨goodF_of hc, ?_⟩
                cases hex : exec stdA G F n [.c fc.body] (padT args fc.ntmps) h with
                | none => simp [hex] at hf
                | some s2 =>
                  simp only [hex] at hf
                  cases hre : retE fc.rs s2.t s2.h with
                  | none => simp [hre] at hf
                  | some v =>
                    simp only [hre] at hf
                    refine Tri.mono (R := fun v' h' => v' = v ∧ h' = s2.h) (Tri_of hc fun I0 ρ0 w0 Q hρ hQ2 => ?_) (fun v' h' hv => by obtain ⟨rfl, rfl⟩ := hv; exact nx _ _ hf)
                    exact ih [.c fc.body] _ h s2 trivial hex I0 ρ0 w0 Q (fun st hst => hQ2 st ⟨v, by rw [hst]; exact hre, rfl, by rw [hst]⟩)
          simp only [SeqOK]
          split at he
          · rename_i hg
            simp only [hg]
            exact go t he
          · rename_i g want hg
            simp only [hg]
            split at he
            · rename_i b hb
              simp only [hb]
              split at he
              · rename_i hbw; rw [if_pos hbw]; exact go t he
              · rename_i hbw
                rw [if_neg (by simp [hbw])]
                simp only [fPut_eq] at he
                exact nx _ _ he
            · rename_i b hb
              simp only [hb]
              simp only [fSet_eq] at he
              have use : (if b == want then SROK (fun v h' => SeqOK P G l ⟨putT (setT t g (.lit (.bool b))) o.dst v, h'⟩ fun st' => OKs P G I0 ρ0 w0 Q k st')
                  (fun f args => goodF P f = true ∧ Tri P G f args h fun v h' => SeqOK P G l ⟨putT (setT t g (.lit (.bool b))) o.dst v, h'⟩ fun st' => OKs P G I0 ρ0 w0 Q k st') (stepI stdA G (setT t g (.lit (.bool b))) h o.i)
                else SeqOK P G l ⟨putT (setT t g (.lit (.bool b))) o.dst undefE, h⟩ fun st' => OKs P G I0 ρ0 w0 Q k st') := by
                split at he
                · rename_i hbw; rw [if_pos hbw]; exact go _ he
                · rename_i hbw
                  rw [if_neg (by simp [hbw])]
                  simp only [fPut_eq] at he
                  exact nx _ _ he
              exact ⟨fun hbt => by subst hbt; exact use, fun hbf => by subst hbf; exact use⟩
            · cases he
      | blk id =>
        have hnk : noOps k := hk
        refine r1 ?_
        simp only [run, OK]
        exact ih k t h s' hnk.good he I0 ρ0 w0 Q hQ
      | mark R => cases he
      | lp c =>
        have hnk : noOps k := hk
        have := ih (.c c :: .lp c :: k) t h s' hnk he I0 ρ0 w0 Q hQ
        intro Φ hΦ a w hsim
        cases hΦ with
        | lp hc hk' => exact loopWp_of (this _ (KW.c hc (KW.lp hc hk')) a w hsim)

/-- the functions of a table -/
def findF : List (Nat × FC) → Nat → Option FC
  | [], _ => none
  | (g, fc) :: l, f => if Nat.beq g f then some fc else findF l f

def tabOK (P : Program) : List (Nat × FC) → Prop
  | [] => True
  | (f, fc) :: l => compF P f = some fc ∧ tabOK P l

theorem findF_ok : ∀ {l : List (Nat × FC)}, tabOK P l → ∀ f fc, findF l f = some fc → compF P f = some fc
  | [], _, _, _, h => by cases h
  | (g, x) :: l, ht, f, fc, h => by
    simp only [findF] at h
    split at h
    · rename_i hb; cases h; rw [← Nat.eq_of_beq_eq_true hb]; exact ht.1
    · exact findF_ok ht.2 f fc h

/-- a closed run's value, out of a table -/
noncomputable def execV (G : List (List EV)) (T : List (Nat × FC)) (n f : Nat) (args : List EV) (h : EH) : Option EV :=
  match findF T f with
  | none => none
  | some fc => match exec kA G (findF T) n [.c fc.body] (padT args fc.ntmps) h with
    | none => none
    | some s => retE fc.rs s.t s.h

/-- **A call over known arguments whose result names no own memory.** -/
theorem Tri.closed (hd : DrawSound P G) {T : List (Nat × FC)} (hT : tabOK P T) {n f : Nat} {args : List EV} {v : EV} (he : execV G T n f args [] = some v) (hv : clE v = true) :
    Tri P G f args [] fun v' h' => v' = v ∧ h' = [] := by
  unfold execV at he
  rw [kA_eq] at he
  cases hf : findF T f with
  | none => simp [hf] at he
  | some fc =>
    simp only [hf] at he
    have hc := findF_ok hT f fc hf
    cases hex : exec stdA G (findF T) n [.c fc.body] (padT args fc.ntmps) [] with
    | none => simp [hex] at he
    | some s2 =>
      simp only [hex] at he
      refine Tri.mv (R := fun v' h' => v' = v) (Tri_of hc fun I0 ρ0 w0 Q hρ hQ => ?_) (fun v' h' hv' => ⟨[], [], rfl, ⟨by simp, by simp, by simp⟩, ?_, rfl⟩)
      · exact exec_sound hd (findF_ok hT) n [.c fc.body] _ [] s2 trivial hex I0 ρ0 w0 Q (fun st hst => hQ st ⟨v, by rw [hst]; exact he, rfl⟩)
      · subst hv'; exact mvE_cl _ _ _ hv

end
end Go.Proofs.Ytplibngmgebigaa.Em
