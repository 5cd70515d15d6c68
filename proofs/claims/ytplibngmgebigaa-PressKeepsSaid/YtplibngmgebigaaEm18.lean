/- Em18: which operations of a region that draws its order have come up, and which may come up next. No conditions beyond those written. -/
import Derived.Test.YtplibngmgebigaaEm17
set_option linter.unusedVariables false
set_option linter.unusedSimpArgs false
namespace Go.Proofs.Ytplibngmgebigaa.Em
open Go

section
variable {P : Program} {G : List (List EV)} {bf : Array Nat} {es : List EOp}

theorem compOps_at {all : Array Oper} : ∀ {src : List Oper} {es : List EOp}, compOps P all src = some es → es.length = src.length ∧ ∀ (j : Nat) (o : Oper), src[j]? = some o → compOper P all o = some (nthO es j)
  | [], es, h => by simp [compOps] at h; subst h; exact ⟨rfl, fun j o hj => by simp at hj⟩
  | o :: src, es, h => by
    simp only [compOps] at h
    cases ho : compOper P all o with
    | none => simp [ho] at h
    | some e =>
      cases hl : compOps P all src with
      | none => simp [ho, hl] at h
      | some r =>
        simp [ho, hl] at h; subst h
        obtain ⟨k1, k2⟩ := compOps_at hl
        refine ⟨by simp [k1], fun j o' hj => ?_⟩
        cases j with
        | zero => simp at hj; subst hj; simpa [nthO] using ho
        | succ j => simpa [nthO] using k2 j o' (by simpa using hj)

theorem pairsOk_iff : ∀ {u : List Nat}, pairsOk bf es u = true ↔ u.Pairwise fun p q => pairOk bf es p q = true
  | [] => by simp [pairsOk]
  | p :: l => by simp [pairsOk, pairsOk_iff (u := l), List.pairwise_cons]

theorem pairOk_spec {p q : Nat} (h : pairOk bf es p q = true) : p ≠ q ∧ bitB bf p q = false ∧ (isX (nthO es p).i = true → bitB bf q p = true) ∧ sameDst (nthO es p) (nthO es q) = false ∧
    (bitB bf q p = false → touches (nthO es p) (nthO es q) = false ∧ touches (nthO es q) (nthO es p) = false) := by
  simp only [pairOk, Bool.and_eq_true, Bool.or_eq_true, Bool.not_eq_true', beq_eq_false_iff_ne, ne_eq] at h
  obtain ⟨⟨⟨⟨h1, h2⟩, h3⟩, h4⟩, h5⟩ := h
  refine ⟨h1, h2, fun hx => ?_, h4, fun hb => ?_⟩
  · rcases h3 with h3 | h3
    · rw [hx] at h3; cases h3
    · exact h3
  · rcases h5 with h5 | h5
    · rw [hb] at h5; cases h5
    · exact h5

/-- What the masks say of the edges. -/
def Stat (ops : Array Oper) (bf : Array Nat) : Prop :=
  ∀ j o, ops[j]? = some o → (∀ i, i < ops.size → bitB bf j i = true → ∃ e ∈ o.after, Region.binds .any e = true ∧ (e.on = i ∨ bitB bf e.on i = true)) ∧
    ∀ e ∈ o.after, Region.binds .any e = true → e.on < j ∧ bitB bf j e.on = true

theorem closedOk_spec {n : Nat} : ∀ {l : List Oper} {k : Nat}, closedOk bf n k l = true → ∀ j o, l[j]? = some o →
    (∀ i, i < n → bitB bf (k + j) i = true → ∃ e ∈ o.after, Region.binds .any e = true ∧ (e.on = i ∨ bitB bf e.on i = true)) ∧
    ∀ e ∈ o.after, Region.binds .any e = true → e.on < k + j ∧ bitB bf (k + j) e.on = true
  | [], k, _, j, o, hj => by simp at hj
  | o :: l, k, h, j, o', hj => by
    simp only [closedOk, Bool.and_eq_true] at h
    obtain ⟨⟨h1, h2⟩, h3⟩ := h
    cases j with
    | zero =>
      simp at hj; subst hj
      refine ⟨fun i hi hb => ?_, fun e he hb => ?_⟩
      · have := List.all_eq_true.1 h1 i (List.mem_range.2 hi)
        simp only [Nat.add_zero] at hb
        simp only [hb, Bool.not_true, Bool.false_or, List.any_eq_true, Bool.and_eq_true, Bool.or_eq_true, beq_iff_eq] at this
        obtain ⟨e, he, k1, k2⟩ := this
        exact ⟨e, by simpa using he, k1, k2⟩
      · have := List.all_eq_true.1 h2 e (by simpa using he)
        simp only [hb, Bool.not_true, Bool.false_or, Bool.and_eq_true, Nat.blt_eq] at this
        exact this
    | succ j =>
      have := closedOk_spec h3 j o' (by simpa using hj)
      rw [show k + (j + 1) = k + 1 + j by omega]
      exact this

structure LF (ops : Array Oper) (bf : Array Nat) (es : List EOp) (listed : Array Bool) (u : List Nat) : Prop where
  size : listed.size = ops.size
  pairs : u.Pairwise fun p q => pairOk bf es p q = true
  un : ∀ i, listed.getD i true = false ↔ i ∈ u
  cl : ∀ j i, listed.getD j false = true → i < ops.size → bitB bf j i = true → listed.getD i false = true

variable {ops : Array Oper} {listed : Array Bool} {u : List Nat}

theorem LF.lt (f : LF ops bf es listed u) {i : Nat} (hi : i ∈ u) : i < ops.size := by
  have := (f.un i).2 hi
  rcases Nat.lt_or_ge i listed.size with h | h
  · rw [← f.size]; exact h
  · simp [Array.getElem?_eq_none h] at this

theorem LF.not (f : LF ops bf es listed u) {i : Nat} (hi : i ∈ u) : listed.getD i false = false := by
  have := (f.un i).2 hi
  have hl : i < listed.size := by rw [f.size]; exact f.lt hi
  simpa [hl] using this

theorem LF.wait (f : LF ops bf es listed u) (st : Stat ops bf) {j : Nat} (hj : j ∈ Region.ready .any ops listed) {i : Nat} (hi : i ∈ u) : bitB bf j i = false := by
  obtain ⟨h0, o, ho, hall⟩ := mem_ready.1 hj
  cases hb : bitB bf j i with
  | false => rfl
  | true =>
    obtain ⟨e, he, hbd, hx⟩ := (st j o ho).1 i (f.lt hi) hb
    have hl := hall e he hbd
    have : listed.getD i false = true := by
      rcases hx with hx | hx
      · rw [← hx]; exact hl
      · exact f.cl e.on i hl (f.lt hi) hx
    rw [f.not hi] at this; cases this

theorem LF.mem (f : LF ops bf es listed u) {j : Nat} (hj : j ∈ Region.ready .any ops listed) : j ∈ u := (f.un j).1 (mem_ready.1 hj).1

theorem LF.first {p : Nat} {u : List Nat} (f : LF ops bf es listed (p :: u)) (st : Stat ops bf) : p ∈ Region.ready .any ops listed := by
  have hlt := f.lt (i := p) (by simp)
  have ho : ops[p]? = some ops[p] := by simp [hlt]
  refine mem_ready.2 ⟨(f.un p).2 (by simp), ops[p], ho, fun e he hb => ?_⟩
  obtain ⟨h1, h2⟩ := (st p _ ho).2 e he hb
  have hl : e.on < listed.size := by rw [f.size]; omega
  cases hc : listed.getD e.on false with
  | true => rfl
  | false =>
    have : e.on ∈ p :: u := (f.un e.on).1 (by simpa [hl] using hc)
    rcases List.mem_cons.1 this with h | h
    · omega
    · have := (pairOk_spec ((List.pairwise_cons.1 f.pairs).1 _ h)).2.1
      rw [h2] at this; cases this

theorem LF.step {j : Nat} {u1 u2 : List Nat} (f : LF ops bf es listed (u1 ++ j :: u2)) (st : Stat ops bf) (hj : j ∈ Region.ready .any ops listed) :
    LF ops bf es (listed.setIfInBounds j true) (u1 ++ u2) := by
  have hlt : j < listed.size := by rw [f.size]; exact f.lt (by simp)
  have hp := f.pairs
  rw [List.pairwise_append] at hp
  obtain ⟨p1, p2, p3⟩ := hp
  rw [List.pairwise_cons] at p2
  refine ⟨by simpa using f.size, ?_, fun i => ?_, fun k i hk hi hb => ?_⟩
  · exact List.pairwise_append.2 ⟨p1, p2.2, fun a ha b hb => p3 a ha b (by simp [hb])⟩
  · by_cases hij : j = i
    · subst hij
      have : j ∉ u1 ++ u2 := fun hm => by
        rcases List.mem_append.1 hm with hm | hm
        · exact (pairOk_spec (p3 j hm j (by simp))).1 rfl
        · exact (pairOk_spec (p2.1 j hm)).1 rfl
      simp [hlt]
      simpa using this
    · rw [getD_set_ne true hij, f.un i]
      simp [Ne.symm hij]
  · by_cases hkj : j = k
    · subst hkj
      obtain ⟨h0, o, ho, hall⟩ := mem_ready.1 hj
      obtain ⟨e, he, hbd, hx⟩ := (st j o ho).1 i hi hb
      have hl := hall e he hbd
      refine getD_set_true ?_
      rcases hx with hx | hx
      · rw [← hx]; exact hl
      · exact f.cl e.on i hl hi hx
    · rw [getD_set_ne false hkj] at hk
      exact getD_set_true (f.cl k i hk hi hb)

end
end Go.Proofs.Ytplibngmgebigaa.Em
