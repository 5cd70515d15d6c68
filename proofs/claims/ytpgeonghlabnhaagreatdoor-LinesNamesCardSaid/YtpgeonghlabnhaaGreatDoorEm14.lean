/- Em14: what an instruction hangs on: its operands alone, and the heap only where it reads. No conditions beyond those written. -/
import Derived.Test.YtpgeonghlabnhaaGreatDoorEm13
set_option linter.unusedVariables false
set_option linter.unusedSimpArgs false
namespace Go.Proofs.YtpgeonghlabnhaaGreatDoor.Em
open Go
theorem getT_setT_ne : ∀ (t : List EV) (d e : Nat) (v : EV), d ≠ e → getT (setT t d v) e = getT t e
  | [], _, _, _, _ => rfl
  | x :: t, 0, 0, v, h => absurd rfl h
  | x :: t, 0, e + 1, v, h => rfl
  | x :: t, d + 1, 0, v, h => rfl
  | x :: t, d + 1, e + 1, v, h => getT_setT_ne t d e v (by omega)
theorem setT_length : ∀ (t : List EV) (d : Nat) (v : EV), (setT t d v).length = t.length
  | [], _, _ => rfl
  | _ :: t, 0, _ => rfl
  | _ :: t, d + 1, v => by simp [setT, setT_length t d v]
theorem setT_setT : ∀ (t : List EV) (d : Nat) (v u : EV), setT (setT t d v) d u = setT t d u
  | [], _, _, _ => rfl
  | _ :: t, 0, _, _ => rfl
  | _ :: t, d + 1, v, u => by simp [setT, setT_setT t d v u]
theorem setT_getT : ∀ (t : List EV) (d : Nat), setT t d (getT t d) = t
  | [], _ => rfl
  | _ :: t, 0 => rfl
  | _ :: t, d + 1 => by simp [setT, getT, setT_getT t d]
theorem setT_comm : ∀ (t : List EV) (d e : Nat) (v u : EV), d ≠ e → setT (setT t d v) e u = setT (setT t e u) d v
  | [], _, _, _, _, _ => rfl
  | _ :: t, 0, 0, _, _, h => absurd rfl h
  | _ :: t, 0, e + 1, _, _, _ => rfl
  | _ :: t, d + 1, 0, _, _, _ => rfl
  | _ :: t, d + 1, e + 1, v, u, h => by simp [setT, setT_comm t d e v u (by omega)]
/-- A test's two spellings are one. -/
def toB : EV → EV
  | .sb b => .lit (.bool b)
  | x => x
def TE (t t' : List EV) : Prop := t.map toB = t'.map toB
theorem TE.refl (t : List EV) : TE t t := rfl
theorem TE.symm {t t' : List EV} (h : TE t t') : TE t' t := Eq.symm h
theorem TE.trans {a b c : List EV} (h : TE a b) (k : TE b c) : TE a c := Eq.trans h k
theorem TE.length {t t' : List EV} (h : TE t t') : t.length = t'.length := by simpa using congrArg List.length h
theorem map_setT : ∀ (t : List EV) (d : Nat) (v : EV), (setT t d v).map toB = setT (t.map toB) d (toB v)
  | [], _, _ => rfl
  | _ :: t, 0, _ => rfl
  | _ :: t, d + 1, v => by simp [setT, map_setT t d v]
theorem toB_getT : ∀ (t : List EV) (d : Nat), toB (getT t d) = getT (t.map toB) d
  | [], _ => rfl
  | _ :: t, 0 => rfl
  | _ :: t, d + 1 => by simp [getT, toB_getT t d]
theorem TE.get {t t' : List EV} (h : TE t t') (d : Nat) : toB (getT t d) = toB (getT t' d) := by rw [toB_getT, toB_getT, h]
theorem TE.set {t t' : List EV} (h : TE t t') (d : Nat) {v v' : EV} (hv : toB v = toB v') : TE (setT t d v) (setT t' d v') := by
  unfold TE; rw [map_setT, map_setT, h, hv]
theorem setT_out : ∀ (t : List EV) (d : Nat) (v : EV), t.length ≤ d → setT t d v = t
  | [], _, _, _ => rfl
  | _ :: t, 0, v, h => by simp at h
  | _ :: t, d + 1, v, h => by simp [setT, setT_out t d v (by simpa using h)]
/-- Where a value is put, what of it counts. -/
def VE (n : Nat) (dst : Option Nat) (v u : EV) : Prop := ∀ d, dst = some d → d < n → toB v = toB u
theorem TE.put {t t' : List EV} (h : TE t t') {dst : Option Nat} {v u : EV} (hv : VE t.length dst v u) : TE (putT t dst v) (putT t' dst u) := by
  cases dst with
  | none => exact h
  | some d =>
    by_cases hd : d < t.length
    · exact h.set d (hv d rfl hd)
    · simp only [putT]
      rw [setT_out t d v (by omega), setT_out t' d u (by have := h.length; omega)]
      exact h
theorem VE.refl (n : Nat) (dst : Option Nat) (v : EV) : VE n dst v v := fun _ _ _ => rfl
theorem putT_length (t : List EV) (dst : Option Nat) (v : EV) : (putT t dst v).length = t.length := by
  cases dst with
  | none => rfl
  | some d => exact setT_length t d v
theorem toB_rep {w : World} {I : Imm} {ρ : Ren} {e : EV} {v : Value} : Rep w I ρ (toB e) v ↔ Rep w I ρ e v := by
  cases e with
  | sb b => exact ⟨fun h => by cases h; exact .sb _ _, fun h => by cases h; exact .lit _ _⟩
  | _ => exact Iff.rfl
theorem RepL.bool {w : World} {I : Imm} {ρ : Ren} : ∀ {t t' : List EV} {us : List Value}, TE t t' → RepL w I ρ t us → RepL w I ρ t' us
  | [], [], us, _, h => h
  | [], _ :: _, _, h, _ => by simp [TE] at h
  | _ :: _, [], _, h, _ => by simp [TE] at h
  | x :: t, y :: t', [], _, h => h.elim
  | x :: t, y :: t', u :: us, hte, h => by
    simp only [TE, List.map_cons, List.cons.injEq] at hte
    exact ⟨toB_rep.1 (hte.1 ▸ toB_rep.2 h.1), RepL.bool hte.2 h.2⟩
theorem SimX.bool {P : Program} {G : List (List EV)} {I0 : Imm} {ρ0 : Ren} {w0 : World} {t t' : List EV} {h : EH} {a : Act} {w : World} (hs : SimX P G I0 ρ0 w0 ⟨t, h⟩ a w) (e : TE t t') :
    SimX P G I0 ρ0 w0 ⟨t', h⟩ a w := by
  obtain ⟨I, ρ1, h1, h2, h3, h4, h5, h6, h7⟩ := hs
  exact ⟨I, ρ1, h1, h2, h3, h4.bool e, h5, h6, h7⟩
section
variable {G : List (List EV)} {A : Ar}
theorem evalO_congr {t t' : List EV} {x : Operand} (h : ∀ d, x = .tmp d → getT t d = getT t' d) : evalO G t x = evalO G t' x := by
  cases x with
  | tmp d => exact h d rfl
  | _ => rfl
theorem evalL_congr {t t' : List EV} : ∀ {l : List Operand}, (∀ x ∈ l, evalO G t x = evalO G t' x) → evalL G t l = evalL G t' l
  | [], _ => rfl
  | x :: l, h => by simp [evalL, h x (by simp), evalL_congr (l := l) fun y hy => h y (by simp [hy])]
theorem fillE_congr {t t' : List EV} : ∀ {l : List (Nat × Nat × Operand)} {cs : List EV}, (∀ x ∈ l.map (fun p => p.2.2), evalO G t x = evalO G t' x) → fillE G t cs l = fillE G t' cs l
  | [], _, _ => rfl
  | (o, n, x) :: l, cs, h => by
    have ih := fun cs => fillE_congr (t := t) (t' := t') (l := l) (cs := cs) fun y hy => h y (by simp at hy ⊢; exact .inr hy)
    simp [fillE, h x (by simp), ih]
/-- An instruction hangs on its operands alone. -/
theorem stepI_congr {t t' : List EV} {h : EH} {i : EI} (hx : ∀ x ∈ eiOps i, evalO G t x = evalO G t' x) : stepI A G t h i = stepI A G t' h i := by
  cases i <;> simp only [eiOps] at hx <;> simp only [stepI]
  case build z ps => rw [fillE_congr hx]
  case buildSlice es n z ps => rw [fillE_congr hx]
  case mkFunc f a b => rw [evalL_congr fun x m => hx x (by simp [m]), evalL_congr (l := b) fun x m => hx x (by simp [m])]
  case slice es x lo hi mx => cases lo <;> cases hi <;> cases mx <;> simp_all [boundE]
  case sliceStr x lo hi => cases lo <;> cases hi <;> simp_all [boundE]
  case call f args => rw [evalL_congr hx]
  case callv x args => rw [hx x (by simp), evalL_congr fun y m => hx y (by simp [m])]
  case invoke x _ c args => rw [hx x (by simp), evalL_congr fun y m => hx y (by simp [m])]
  case minmax m x l => rw [hx x (by simp), evalL_congr fun y m => hx y (by simp [m])]
  case again d agg n x =>
    have h1 := hx (.tmp d) (by simp)
    simp only [evalO] at h1
    rw [h1, hx x (by simp)]
  all_goals (first | rfl | (simp_all; done))
/-- what an instruction comes to, over another heap -/
def SR.onto (h : EH) : SR → SR
  | .stuck => .stuck
  | .ret v _ => .ret v h
  | .need b r => .need b (r.onto h)
  | .look c off n agg _ => .look c off n agg h
  | .br b v1 _ v2 _ => .br b v1 h v2 h
  | .opt o ok z _ => .opt o ok z h
  | .call _ _ => .stuck
  | .same v w _ => .same v w h
  | .lookS c off n agg w _ => .lookS c off n agg w h
/-- Instructions that neither write nor make memory nor call leave the heap. -/
theorem stepI_own {t : List EV} {h : EH} {i : EI} (hx : isX i = false) : (stepI A G t h i).onto h = stepI A G t h i := by
  cases i <;> simp only [isX, Bool.true_eq_false] at hx <;> simp only [stepI]
  all_goals first
    | rfl
    | (try simp only [pickE, loadE, nilCheckE, binE, eqNil, unE, convE, cstrE, b2sE, strishE, sliceE, sliceStrE, s2aE, fieldAddrE, fieldE, indexAddrE, indexAddrArrE, indexArrE, indexStrE, lookupE, extractE, lenE, minmaxE, againE, apartE, tassertE, peqE, ieqE]
       repeat' split
       all_goals rfl)
/-- Those that don't read it either do the same over every heap. -/
theorem stepI_onto {t : List EV} {h h' : EH} {i : EI} (hx : isX i = false) (hr : isRd i = false) :
    stepI A G t h' i = (stepI A G t h i).onto h' := by
  cases i <;> simp only [isX, isRd, Bool.true_eq_false] at hx hr <;> simp only [stepI]
  case len k x =>
    rcases k with _ | _ | k
    · simp only [lenE]; split <;> rfl
    · simp only [lenE]; split <;> rfl
    · simp at hr
  all_goals first
    | rfl
    | (try simp only [pickE, nilCheckE, binE, eqNil, unE, convE, cstrE, strishE, sliceE, sliceStrE, s2aE, fieldAddrE, fieldE, indexAddrE, indexAddrArrE, indexArrE, indexStrE, extractE, lenE, minmaxE, apartE, tassertE, peqE, ieqE]
       repeat' split
       all_goals first | rfl | contradiction | simp_all)
end
end Go.Proofs.YtpgeonghlabnhaaGreatDoor.Em
