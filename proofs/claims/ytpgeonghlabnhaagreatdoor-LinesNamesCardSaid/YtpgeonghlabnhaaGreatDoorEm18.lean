/- Em18: which operations of a region that draws its order have come up, and which may come up next. No conditions beyond those written. -/
import Derived.Test.YtpgeonghlabnhaaGreatDoorEm17
set_option linter.unusedVariables false
set_option linter.unusedSimpArgs false
namespace Go.Proofs.YtpgeonghlabnhaaGreatDoor.Em
open Go
section
variable {P : Program} {G : List (List EV)} {bf : Array Nat} {es : List EOp}
theorem litL_lit : ∀ {l : List Value} {j : Nat} {x : EV}, (litL l)[j]? = some x → ∃ y, x = .lit y
  | [], j, x, h => by simp [litL] at h
  | v :: l, 0, x, h => by simp [litL] at h; exact ⟨v, h.symm⟩
  | v :: l, j + 1, x, h => litL_lit (l := l) (j := j) (by simpa [litL] using h)
theorem compOps_at {all : Array Oper} : ∀ {src : List Oper} {es : List EOp}, compOps P all src = some es → es.length = src.length ∧ ∀ (j : Nat) (o : Oper), src[j]? = some o → compOper P all o = some (nthO es j)
  | [], es, h => by simp [compOps] at h; subst h; exact ⟨rfl, fun j o hj => by simp at hj⟩
  | o :: src, es, h => by
    simp only [compOps] at h
    cases ho : compOper P all o with
    | none => simp [ho] at h
    | some e =>
      cases hl : compOps P all src with
      | none => simp [ho, hl] at h
      | some r =>
        simp [ho, hl] at h; subst h
        obtain ⟨k1, k2⟩ := compOps_at hl
        refine ⟨by simp [k1], fun j o' hj => ?_⟩
        cases j with
        | zero => simp at hj; subst hj; simpa [nthO] using ho
        | succ j => simpa [nthO] using k2 j o' (by simpa using hj)
theorem pairsOk_iff : ∀ {u : List Nat}, pairsOk bf es u = true ↔ u.Pairwise fun p q => pairOk bf es p q = true
  | [] => by simp [pairsOk]
  | p :: l => by simp [pairsOk, pairsOk_iff (u := l), List.pairwise_cons]
theorem pairOk_spec {p q : Nat} (h : pairOk bf es p q = true) : p ≠ q ∧ bitB bf p q = false ∧ (isX (nthO es p).i = true → bitB bf q p = true ∨ swapE es p q = true) ∧ sameDst (nthO es p) (nthO es q) = false ∧
    (bitB bf q p = false → touches (nthO es p) (nthO es q) = false ∧ touches (nthO es q) (nthO es p) = false) := by
  simp only [pairOk, Bool.and_eq_true, Bool.or_eq_true, Bool.not_eq_true', beq_eq_false_iff_ne, ne_eq] at h
  obtain ⟨⟨⟨⟨h1, h2⟩, h3⟩, h4⟩, h5⟩ := h
  refine ⟨h1, h2, fun hx => ?_, h4, fun hb => ?_⟩
  · rcases h3 with (h3 | h3) | h3
    · rw [hx] at h3; cases h3
    · exact .inl h3
    · exact .inr h3
  · rcases h5 with h5 | h5
    · rw [hb] at h5; cases h5
    · exact h5
/-- What the masks say of the edges. -/
def Stat (ops : Array Oper) (bf : Array Nat) : Prop :=
  ∀ j o, ops[j]? = some o → (∀ i, i < ops.size → bitB bf j i = true → ∃ e ∈ o.after, Region.binds .any e = true ∧ (e.on = i ∨ bitB bf e.on i = true)) ∧
    ∀ e ∈ o.after, Region.binds .any e = true → e.on < j ∧ bitB bf j e.on = true
theorem closedOk_spec {n : Nat} : ∀ {l : List Oper} {k : Nat}, closedOk bf n k l = true → ∀ j o, l[j]? = some o →
    (∀ i, i < n → bitB bf (k + j) i = true → ∃ e ∈ o.after, Region.binds .any e = true ∧ (e.on = i ∨ bitB bf e.on i = true)) ∧
    ∀ e ∈ o.after, Region.binds .any e = true → e.on < k + j ∧ bitB bf (k + j) e.on = true
  | [], k, _, j, o, hj => by simp at hj
  | o :: l, k, h, j, o', hj => by
    simp only [closedOk, Bool.and_eq_true] at h
    obtain ⟨⟨h1, h2⟩, h3⟩ := h
    cases j with
    | zero =>
      simp at hj; subst hj
      refine ⟨fun i hi hb => ?_, fun e he hb => ?_⟩
      · have := List.all_eq_true.1 h1 i (List.mem_range.2 hi)
        simp only [Nat.add_zero] at hb
        simp only [hb, Bool.not_true, Bool.false_or, List.any_eq_true, Bool.and_eq_true, Bool.or_eq_true, beq_iff_eq] at this
        obtain ⟨e, he, k1, k2⟩ := this
        exact ⟨e, by simpa using he, k1, k2⟩
      · have := List.all_eq_true.1 h2 e (by simpa using he)
        simp only [hb, Bool.not_true, Bool.false_or, Bool.and_eq_true, Nat.blt_eq] at this
        exact this
    | succ j =>
      have := closedOk_spec h3 j o' (by simpa using hj)
      rw [show k + (j + 1) = k + 1 + j by omega]
      exact this
structure LF (ops : Array Oper) (bf : Array Nat) (es : List EOp) (listed : Array Bool) (u ua : List Nat) : Prop where
  size : listed.size = ops.size
  pairs : u.Pairwise fun p q => pairOk bf es p q = true
  un : ∀ i, listed.getD i true = false ↔ i ∈ u ∨ i ∈ ua
  disj : ∀ i ∈ u, i ∉ ua
  nd : ua.Nodup
  cl : ∀ j i, listed.getD j false = true → i < ops.size → bitB bf j i = true → listed.getD i false = true
variable {ops : Array Oper} {listed : Array Bool} {u ua : List Nat}
theorem LF.lt (f : LF ops bf es listed u ua) {i : Nat} (hi : i ∈ u ∨ i ∈ ua) : i < ops.size := by
  have := (f.un i).2 hi
  rcases Nat.lt_or_ge i listed.size with h | h
  · rw [← f.size]; exact h
  · simp [Array.getElem?_eq_none h] at this
theorem LF.not (f : LF ops bf es listed u ua) {i : Nat} (hi : i ∈ u ∨ i ∈ ua) : listed.getD i false = false := by
  have := (f.un i).2 hi
  have hl : i < listed.size := by rw [f.size]; exact f.lt hi
  simpa [hl] using this
theorem LF.wait (f : LF ops bf es listed u ua) (st : Stat ops bf) {j : Nat} (hj : j ∈ Region.ready .any ops listed) {i : Nat} (hi : i ∈ u ∨ i ∈ ua) : bitB bf j i = false := by
  obtain ⟨h0, o, ho, hall⟩ := mem_ready.1 hj
  cases hb : bitB bf j i with
  | false => rfl
  | true =>
    obtain ⟨e, he, hbd, hx⟩ := (st j o ho).1 i (f.lt hi) hb
    have hl := hall e he hbd
    have : listed.getD i false = true := by
      rcases hx with hx | hx
      · rw [← hx]; exact hl
      · exact f.cl e.on i hl (f.lt hi) hx
    rw [f.not hi] at this; cases this
theorem LF.mem (f : LF ops bf es listed u ua) {j : Nat} (hj : j ∈ Region.ready .any ops listed) : j ∈ u ∨ j ∈ ua := (f.un j).1 (mem_ready.1 hj).1
/-- Where something is left, something may come up. -/
theorem LF.some (f : LF ops bf es listed u ua) (st : Stat ops bf) : ∀ n p, p < n → (p ∈ u ∨ p ∈ ua) → ∃ q, q ∈ Region.ready .any ops listed := by
  intro n
  induction n with
  | zero => intro p hp; omega
  | succ n ih =>
    intro p hp hm
    have hlt := f.lt hm
    have ho : ops[p]? = Option.some ops[p] := by simp [hlt]
    by_cases hall : ∀ e ∈ ops[p].after, Region.binds .any e = true → listed.getD e.on false = true
    · exact ⟨p, mem_ready.2 ⟨(f.un p).2 hm, ops[p], ho, hall⟩⟩
    · simp only [Classical.not_forall] at hall
      obtain ⟨e, he, hb, hl⟩ := hall
      obtain ⟨h1, h2⟩ := (st p _ ho).2 e he hb
      have hls : e.on < listed.size := by rw [f.size]; omega
      refine ih e.on (by omega) ((f.un e.on).1 ?_)
      simpa [hls] using hl
theorem LF.step {j : Nat} {u1 u2 : List Nat} (f : LF ops bf es listed (u1 ++ j :: u2) ua) (st : Stat ops bf) (hj : j ∈ Region.ready .any ops listed) :
    LF ops bf es (listed.setIfInBounds j true) (u1 ++ u2) ua := by
  have hlt : j < listed.size := by rw [f.size]; exact f.lt (by simp)
  have hp := f.pairs
  rw [List.pairwise_append] at hp
  obtain ⟨p1, p2, p3⟩ := hp
  rw [List.pairwise_cons] at p2
  refine ⟨by simpa using f.size, ?_, fun i => ?_, fun i hi => f.disj i (by simp at hi ⊢; rcases hi with hi | hi <;> simp [hi]), f.nd, fun k i hk hi hb => ?_⟩
  · exact List.pairwise_append.2 ⟨p1, p2.2, fun a ha b hb => p3 a ha b (by simp [hb])⟩
  · by_cases hij : j = i
    · subst hij
      have h1 : j ∉ u1 ++ u2 := fun hm => by
        rcases List.mem_append.1 hm with hm | hm
        · exact (pairOk_spec (p3 j hm j (by simp))).1 rfl
        · exact (pairOk_spec (p2.1 j hm)).1 rfl
      have h2 : j ∉ ua := f.disj j (by simp)
      simp [hlt]
      simp at h1
      exact ⟨h1, h2⟩
    · rw [getD_set_ne true hij, f.un i]
      simp [Ne.symm hij]
  · by_cases hkj : j = k
    · subst hkj
      obtain ⟨h0, o, ho, hall⟩ := mem_ready.1 hj
      obtain ⟨e, he, hbd, hx⟩ := (st j o ho).1 i hi hb
      have hl := hall e he hbd
      refine getD_set_true ?_
      rcases hx with hx | hx
      · rw [← hx]; exact hl
      · exact f.cl e.on i hl hi hx
    · rw [getD_set_ne false hkj] at hk
      exact getD_set_true (f.cl k i hk hi hb)
theorem LF.stepA {j : Nat} {u1 u2 : List Nat} (f : LF ops bf es listed u (u1 ++ j :: u2)) (st : Stat ops bf) (hj : j ∈ Region.ready .any ops listed) :
    LF ops bf es (listed.setIfInBounds j true) u (u1 ++ u2) := by
  have hlt : j < listed.size := by rw [f.size]; exact f.lt (by simp)
  have hnd := f.nd
  have hnd' := (List.nodup_append.1 hnd)
  refine ⟨by simpa using f.size, f.pairs, fun i => ?_, fun i hi hm => f.disj i hi (by simp at hm ⊢; rcases hm with hm | hm <;> simp [hm]), ?_, fun k i hk hi hb => ?_⟩
  · by_cases hij : j = i
    · subst hij
      have h1 : j ∉ u := fun hm => f.disj j hm (by simp)
      have h2 : j ∉ u1 := fun hm => hnd'.2.2 j hm j (by simp) rfl
      have h3 : j ∉ u2 := (List.nodup_cons.1 hnd'.2.1).1
      simp [hlt]
      exact ⟨h1, h2, h3⟩
    · rw [getD_set_ne true hij, f.un i]
      simp [Ne.symm hij]
  · exact hnd.sublist ((List.Sublist.refl _).append (List.sublist_cons_self _ _))
  · by_cases hkj : j = k
    · subst hkj
      obtain ⟨h0, o, ho, hall⟩ := mem_ready.1 hj
      obtain ⟨e, he, hbd, hx⟩ := (st j o ho).1 i hi hb
      have hl := hall e he hbd
      refine getD_set_true ?_
      rcases hx with hx | hx
      · rw [← hx]; exact hl
      · exact f.cl e.on i hl hi hx
    · rw [getD_set_ne false hkj] at hk
      exact getD_set_true (f.cl k i hk hi hb)
/-! ### variables made ahead of their turn -/
def blkOf : EV → Nat
  | .lit (.pointer (some a)) => a.block
  | _ => 0
/-- A variable that the model has made, and the one order not yet. -/
def Early (es : List EOp) (I0 I : Imm) (w : World) (i : Nat) (V : EV) : Prop :=
  ∃ z d b o cs e fz, (nthO es i).i = .alloc z ∧ (nthO es i).guard = none ∧ (nthO es i).dst = some d ∧ V = .lit (.pointer (some ⟨b, o, none⟩)) ∧ I.k b ∧ ¬ I.j b ∧ ¬ I0.k b ∧
    w.heap[b]? = some (.cells cs e fz) ∧ fzOk cs.size fz ∧ o + (litL z).length ≤ cs.size ∧
    ∀ (j : Nat) (x : EV), (litL z)[j]? = some x → ∃ v, cs[o + j]? = some v ∧ v.oneCell' = true ∧ ∀ J, Rep w J [] x v
def SE (P : Program) (G : List (List EV)) (es : List EOp) (I0 : Imm) (ρ0 : Ren) (w0 : World) (E : List (Nat × EV)) (t : List EV) (h : EH) (a : Act) (w : World) : Prop :=
  ∃ I ρ1, Imm.le I0 I ∧ (∀ b, I b → b < w.heap.size) ∧ HSim I w (ρ0 ++ ρ1) h ∧ RepL w I (ρ0 ++ ρ1) (foldP es t E) a.tmps.toList ∧ MarksD I0 I w a.defers ∧ Keep I0 w0 w ∧ GlobP P w I G ∧
    (∀ p ∈ E, Early es I0 I w p.1 p.2) ∧ E.Pairwise fun p q => blkOf p.2 ≠ blkOf q.2
variable {I0 : Imm} {ρ0 : Ren} {w0 : World} {E : List (Nat × EV)} {t : List EV} {h : EH} {a : Act} {w : World}
theorem SE.nil (hs : SimX P G I0 ρ0 w0 ⟨t, h⟩ a w) : SE P G es I0 ρ0 w0 [] t h a w := by
  obtain ⟨I, ρ1, h1, h2, h3, h4, h5, h6, h7⟩ := hs
  exact ⟨I, ρ1, h1, h2, h3, h4, h5, h6, h7, fun p hp => (by cases hp), List.Pairwise.nil⟩
theorem SE.out (hs : SE P G es I0 ρ0 w0 [] t h a w) : SimX P G I0 ρ0 w0 ⟨t, h⟩ a w := by
  obtain ⟨I, ρ1, h1, h2, h3, h4, h5, h6, h7, _⟩ := hs
  exact ⟨I, ρ1, h1, h2, h3, h4, h5, h6, h7⟩
/-- What is known of such a state, for the time of one operation. -/
theorem SE.open (hs : SE P G es I0 ρ0 w0 E t h a w) : ∃ I ρ, SimX P G I ρ w ⟨foldP es t E, h⟩ a w ∧
    (∀ {t' : List EV} {h' : EH} {a' : Act} {w' : World}, SimX P G I ρ w ⟨foldP es t' E, h'⟩ a' w' → SE P G es I0 ρ0 w0 E t' h' a' w') ∧
    ∀ {st : St} {v : EV} {v' : Value} {a' : Act} {w' : World}, SimV P G I ρ w st v v' a' w' → SimV P G I0 ρ0 w0 st v v' a' w' := by
  obtain ⟨I, ρ1, h1, h2, h3, h4, h5, h6, h7, h8, h9⟩ := hs
  obtain ⟨ms, hms, hm5⟩ := h5
  obtain ⟨J, j1, j2, j3, j4, _, _, j7⟩ := hm5.base h1
  refine ⟨J, ρ0 ++ ρ1, ⟨I, [], j2, h2, by simpa using h3, by simpa using h4, ⟨ms, by rw [j7]; exact hms, j3⟩, Keep.refl J w, h7⟩, fun {t' h' a' w'} hx => ?_, fun {st v v' a' w'} hx => ?_⟩
  rotate_left
  · obtain ⟨I', ρ2, q1, q2, q3, q4, q5, q6, q7, q8⟩ := hx
    exact ⟨I', ρ1 ++ ρ2, j1.trans q1, q2, by rw [← List.append_assoc]; exact q3, by rw [← List.append_assoc]; exact q4, (let ⟨ms', a1, a2⟩ := q5; ⟨ms', by rw [← j7]; exact a1, a2.sub j1.k⟩), h6.trans (q6.mono j1.k), q7, by rw [← List.append_assoc]; exact q8⟩
  obtain ⟨I', ρ2, q1, q2, q3, q4, q5, q6, q7⟩ := hx
  refine ⟨I', ρ1 ++ ρ2, j1.trans q1, q2, by rw [← List.append_assoc]; exact q3, by rw [← List.append_assoc]; exact q4, (let ⟨ms', a1, a2⟩ := q5; ⟨ms', by rw [← j7]; exact a1, a2.sub j1.k⟩), h6.trans (q6.mono j1.k), q7, fun p hp => ?_, h9⟩
  obtain ⟨z, d, b, o, cs, e, fz, k1, k2, k3, k4, k5, k6, k7, k8, k9, k10, k11⟩ := h8 p hp
  have k5' : J.k b := Classical.byContradiction fun hn => by
    have := j4 b k5 hn
    rw [k8] at this; cases this
  have k6' : ¬ J.j b := fun hj => k6 (j2.j b hj)
  refine ⟨z, d, b, o, cs, e, fz, k1, k2, k3, k4, q1.k b k5', fun hj => ?_, k7, by rw [q6.same b k5']; exact k8, k9, k10, fun j x hx => ?_⟩
  · rcases q1.new b hj with hj | hj
    · exact k6' hj
    · exact hj k5'
  · obtain ⟨v, m1, m2, m3⟩ := k11 j x hx
    exact ⟨v, m1, m2, fun J => by
      obtain ⟨y, hy⟩ : ∃ y, x = .lit y := litL_lit hx
      have := m3 J; subst hy; cases this; exact .lit _ _⟩
theorem compOp_alloc {op : Op} {z : List Value} (h : compOp P op = some (.alloc z)) : ∃ e v, op = .alloc e ∧ zeP P e = some v ∧ z = v.cells.toList := by
  cases op <;> simp only [compOp] at h
  case alloc e =>
    split at h
    · rename_i v hv
      split at h
      · split at h
        · split at h <;> cases h
        · cases h
      · cases h; exact ⟨e, v, rfl, hv, rfl⟩
    · cases h
  all_goals (try unfold noEsc at h)
  all_goals exfalso
  all_goals (repeat' split at h)
  all_goals (first | (cases h; done) | (simp at h; done) | (simp_all; done))
theorem isAl_spec {o : EOp} (h : isAl o = true) : ∃ z d, o.i = .alloc z ∧ o.guard = none ∧ o.dst = some d ∧ allOne (litL z) = true := by
  unfold isAl at h
  split at h
  · rename_i z d h1 h2 h3; exact ⟨z, d, h1, h2, h3, h⟩
  · cases h
/-- Own memory stands over other kept blocks too. -/
theorem HSim.reI {I J : Imm} {ρ : Ren} (hs : HSim I w ρ h) (hj : ∀ b, I.j b → J.j b) (hk : ∀ id b o, getH h id ≠ .dead → ρ[id]? = some (b, o) → ¬ J b) (hP : J.P = I.P) : HSim J w ρ h where
  len := hs.len
  live id := by
    have := hs.live id
    cases hg : getH h id with
    | dead => trivial
    | blk c =>
      rw [hg] at this
      obtain ⟨b, o, cs, e, fz, h1, h2, h3, h4, h5, h6⟩ := this
      exact ⟨b, o, cs, e, fz, h1, hk id b o (by rw [hg]; simp) h1, h3, h4, h5, fun j x hx => let ⟨v, m1, m2, m3⟩ := h6 j x hx; ⟨v, m1, m2, m3.imm hj⟩⟩
    | emap es =>
      rw [hg] at this
      obtain ⟨b, o, ents, cl, h1, h2, h3, h4, h5⟩ := this
      exact ⟨b, o, ents, cl, h1, hk id b o (by rw [hg]; simp) h1, h3, h4, fun j x hx => let ⟨v, m1, m2, m3⟩ := h5 j x hx; ⟨v, m1, m2.imm hj, m3.imm hj⟩⟩
    | lp t ps asg body st pd =>
      rw [hg] at this
      obtain ⟨b, r, h1, h2, h3, h4, h5, h6, h7, h8⟩ := this
      exact ⟨b, r, h1, hk id b 0 (by rw [hg]; simp) h1, h3, h4.map fun _ _ x => x.imm hj, h5, by rw [hP]; exact h6, by rw [hP]; exact h7, h8⟩
    | row s =>
      rw [hg] at this
      obtain ⟨b, o, cs, e, fz, h1, h2, h3, h4, h5, h6⟩ := this
      exact ⟨b, o, cs, e, fz, h1, hk id b o (by rw [hg]; simp) h1, h3, by rw [hP]; exact h4, by rw [hP]; exact h5, h6⟩
    | itr s p =>
      rw [hg] at this
      obtain ⟨b, h1, h2, h3⟩ := this
      exact ⟨b, h1, hk id b 0 (by rw [hg]; simp) h1, h3⟩
  inj := hs.inj
/-- The model makes a variable ahead of its turn. -/
theorem SE.make {ro : Option Nat} {i : Nat} {o : Oper} {next : Act → World → Prop} {Φ : Exit → Act → World → Prop} (hs : SE P G es I0 ρ0 w0 E t h a w) (hal : isAl (nthO es i) = true)
    (hc : compOper P ops o = some (nthO es i)) (hnext : ∀ a' w' V, SE P G es I0 ρ0 w0 (E ++ [(i, V)]) t h a' w' → next a' w') : o.wpIn (FR ro) 0 P a w next Φ := by
  obtain ⟨_, _, hx0, _⟩ := hs.open
  obtain ⟨c1, c2, _, _⟩ := wanted_of hc hx0
  obtain ⟨z, d, hz1, hz2, hz3, hone⟩ := isAl_spec hal
  rw [hz1] at c1
  have c1 := c1.resolve_right (by simp)
  obtain ⟨e, v, hop, hzp, rfl⟩ := compOp_alloc c1
  have hrun : (execOp a.eval o).run P w = .ok (.value (.pointer (some ⟨w.heap.size, 0, none⟩))) (w.alloc (.cells v.cells e)) := by
    simp [execOp, hop, Instr.alloc, run_zeP hzp, newVar, newRow, Sem.run_bind, Result.andThen]
  have hsem : o.semAt ro a.eval = execOp a.eval o := Oper.semAt_eq ro a.eval o (fun c hh => by rw [hop] at hh; cases hh)
  refine ⟨fun _ _ => trivial, ?_⟩
  show o.uponIn (FR ro) 0 P a next Φ ((o.semAt ro a.eval).run P w)
  rw [hsem, hrun]
  obtain ⟨I, ρ1, h1, h2, h3, h4, h5, h6, h7, h8, h9⟩ := hs
  have hk := Keep.alloc (I := I) w (.cells v.cells e) h2
  let J : Imm := ⟨fun b => I.k b ∨ b = w.heap.size, I.j, fun b hb => .inl (I.sub b hb), I.P, I.D, I.T⟩
  have hIJ : Imm.le I J := ⟨fun b hb => .inl hb, fun b hb => hb, fun b hb => .inl hb, rfl⟩
  refine hnext _ _ (.lit (.pointer (some ⟨w.heap.size, 0, none⟩))) ⟨J, ρ1, ⟨fun b hb => .inl (h1.k b hb), h1.j, h1.new, h1.P⟩, fun b hb => ?_, ?_, ?_, by rw [put_defers]; exact h5.keep hk hIJ, h6.trans (hk.mono h1.k), h7.keep hk hIJ, fun p hp => ?_, ?_⟩
  · rcases hb with hb | hb
    · exact Nat.lt_of_lt_of_le (h2 b hb) hk.size
    · subst hb; simp
  · refine HSim.reI (I := I) (J := J) (h3.keep hk fun k b o' hd hr => ?_) (fun _ hb => hb) (fun k b o' hd hr hj => ?_) rfl
    · obtain ⟨b', o2, k1, _, k3⟩ := OS.lt (h3.live k) hd
      rw [hr] at k1; cases k1
      exact heap_alloc_lt w _ k3
    · obtain ⟨b', o2, k1, k2, k3⟩ := OS.lt (h3.live k) hd
      rw [hr] at k1; cases k1
      rcases hj with hj | hj
      · exact k2 hj
      · omega
  · rw [foldP_app]
    show RepL _ J _ (putT (foldP es t E) (nthO es i).dst _) _
    rw [c2]
    exact putT_rep _ (.lit _ _) (h4.map fun _ _ r => (r.keep hk).imm (J := J) fun _ hb => hb)
  · rcases List.mem_append.1 hp with hp | hp
    · obtain ⟨z, d, b, o, cs, e, fz, k1, k2, k3, k4, k5, k6, k7, k8, k9, k10, k11⟩ := h8 p hp
      exact ⟨z, d, b, o, cs, e, fz, k1, k2, k3, k4, .inl k5, k6, k7, by rw [hk.same b k5]; exact k8, k9, k10, fun j x hx => by
        obtain ⟨u, m1, m2, m3⟩ := k11 j x hx
        obtain ⟨y, hy⟩ := litL_lit hx
        exact ⟨u, m1, m2, fun J => by have := m3 J; subst hy; cases this; exact .lit _ _⟩⟩
    · simp at hp; subst hp
      refine ⟨_, d, w.heap.size, 0, v.cells, e, (0, 0), hz1, hz2, hz3, rfl, .inr rfl, fun hj => ?_, fun hj => ?_, heap_alloc_at w _, .inl rfl, by rw [litL_length]; simp, fun j x hx => ?_⟩
      · exact absurd (h2 _ (I.sub _ hj)) (Nat.lt_irrefl _)
      · exact absurd (h2 _ (h1.k _ hj)) (Nat.lt_irrefl _)
      · have hrl : RepL (w.alloc (.cells v.cells e)) J [] (litL v.cells.toList) v.cells.toList := litL_rep _
        obtain ⟨u, m1, m2, m3⟩ := rows_of_RepL hrl (allOne_rep hrl hone) j x hx
        obtain ⟨y, hy⟩ := litL_lit hx
        exact ⟨u, by simpa using m1, m2, fun J => by subst hy; cases m3; exact .lit _ _⟩
  · refine List.pairwise_append.2 ⟨h9, by simp, fun p hp q hq => ?_⟩
    simp at hq; subst hq
    obtain ⟨z, d, b, o, cs, e, fz, k1, k2, k3, k4, k5, _⟩ := h8 p hp
    rw [k4]
    show b ≠ w.heap.size
    have := h2 b k5
    omega
theorem repL_swap {I J : Imm} {ρ ρ' : Ren} {p : Value} {e : EV} (f : ∀ x v, Rep w I ρ x v → Rep w J ρ' x v) (he : Rep w J ρ' e p) : ∀ {T : List EV} {us : List Value} (d : Nat),
    RepL w I ρ (setT T d (.lit p)) us → RepL w J ρ' (setT T d e) us
  | [], us, d, h => by cases us with
    | nil => exact trivial
    | cons u us => exact h.elim
  | x :: T, [], d, h => by cases d <;> exact h.elim
  | x :: T, u :: us, 0, h => by
    obtain ⟨h1, h2⟩ := h
    cases h1
    exact ⟨he, h2.map f⟩
  | x :: T, u :: us, d + 1, h => ⟨f _ _ h.1, repL_swap f he (T := T) d h.2⟩
/-- A kept block becomes own memory. -/
theorem HSim.adopt {I J : Imm} {ρ : Ren} {b o : Nat} {c : List EV} {cs : Array Value} {e : TypeId} {fz : Nat × Nat} (hs : HSim I w ρ h) (hj : ∀ x, I.j x → J.j x) (hk : ∀ x, J x → I x) (hP : J.P = I.P) (hb : I b) (hnb : ¬ J b)
    (h3 : w.heap[b]? = some (.cells cs e fz)) (h4 : fzOk cs.size fz) (h5 : o + c.length ≤ cs.size)
    (h6 : ∀ (j : Nat) (x : EV), c[j]? = some x → ∃ v, cs[o + j]? = some v ∧ v.oneCell' = true ∧ Rep w J (ρ ++ [(b, o)]) x v) : HSim J w (ρ ++ [(b, o)]) (pushH h (.blk c)) where
  len := by simp [hs.len, sizeH_push]
  live id := by
    have hs' := hs.reI hj (fun k b' o' hd hr => by
      obtain ⟨b2, o2, k1, k2, k3⟩ := OS.lt (hs.live k) hd
      rw [hr] at k1; cases k1
      exact fun hh => k2 (hk _ hh)) hP
    rcases Nat.lt_trichotomy id (sizeH h) with hlt | heq | hgt
    · rw [getH_push_lt h _ id hlt]
      exact OS.stays (hs'.live id) (Keep.refl J w) (fun _ _ x => getElem?_app x) fun _ _ _ => rfl
    · subst heq
      rw [getH_push_at]
      exact ⟨b, o, cs, e, fz, ren_last hs' _, hnb, h3, h4, h5, h6⟩
    · rw [getH_push_ge h _ id hgt]; trivial
  inj i j b1 o1 o2 hi hj' h1 h2 := by
    have old : ∀ k, getH (pushH h (.blk c)) k ≠ .dead → k < sizeH h → ∀ b' o', (ρ ++ [(b, o)])[k]? = some (b', o') → ρ[k]? = some (b', o') ∧ getH h k ≠ .dead ∧ b' ≠ b := by
      intro k hkd hkl b' o' hr
      rw [getH_push_lt h _ k hkl] at hkd
      rw [List.getElem?_append_left (by rw [hs.len]; exact hkl)] at hr
      obtain ⟨b2, o2, hb2, hn2, _⟩ := OS.lt (hs.live k) hkd
      rw [hr] at hb2; cases hb2
      exact ⟨hr, hkd, fun e => hn2 (e ▸ hb)⟩
    have new : ∀ k, ¬ k < sizeH h → ∀ b' o', (ρ ++ [(b, o)])[k]? = some (b', o') → k = sizeH h ∧ b' = b := by
      intro k hkl b' o' hr
      rw [List.getElem?_append_right (by rw [hs.len]; omega)] at hr
      have : k - ρ.length = 0 := by
        rcases Nat.eq_zero_or_pos (k - ρ.length) with h0 | h0
        · exact h0
        · rw [List.getElem?_eq_none (by simp; omega)] at hr; cases hr
      rw [this] at hr; simp at hr
      exact ⟨by have := hs.len; omega, hr.1.symm⟩
    by_cases hil : i < sizeH h <;> by_cases hjl : j < sizeH h
    · obtain ⟨a1, a2, _⟩ := old i hi hil b1 o1 h1
      obtain ⟨c1, c2, _⟩ := old j hj' hjl b1 o2 h2
      exact hs.inj i j b1 o1 o2 a2 c2 a1 c1
    · obtain ⟨_, _, a3⟩ := old i hi hil b1 o1 h1
      exact absurd (new j hjl b1 o2 h2).2 a3
    · obtain ⟨_, _, a3⟩ := old j hj' hjl b1 o2 h2
      exact absurd (new i hil b1 o1 h1).2 a3
    · rw [(new i hil b1 o1 h1).1, (new j hjl b1 o2 h2).1]
theorem foldP_mid {i : Nat} {V : EV} {E1 E2 : List (Nat × EV)} (hsd : ∀ p ∈ E2, sameDst (nthO es i) (nthO es p.1) = false) : foldP es t (E1 ++ (i, V) :: E2) = putT (foldP es t (E1 ++ E2)) (nthO es i).dst V := by
  rw [foldP_app, foldP_app]
  show foldP es (putT (foldP es t E1) (nthO es i).dst V) E2 = _
  rw [foldP_put hsd]
/-- Marks stand where a block of cells is kept no more. -/
theorem marks_drop {I0 I J : Imm} {b : Nat} {cs : Array Value} {e : TypeId} {fz : Nat × Nat} (hb : w.heap[b]? = some (.cells cs e fz)) (hJ : J.k = fun x => I.k x ∧ x ≠ b) (hj : J.j = I.j) :
    ∀ {l : List Deferred}, Marks I0 I w l → Marks I0 J w l
  | [], _ => trivial
  | d :: l, ⟨⟨x, h1, h2, h3, h4, h5, h6⟩, h7⟩ => ⟨⟨x, h1, by rw [hJ]; exact ⟨h2, fun e => by rw [e, hb] at h5; cases h5⟩, by rw [hj]; exact h3, h4, h5, h6⟩, marks_drop hb hJ hj h7⟩
theorem marksD_drop {I0 I J : Imm} {b : Nat} {cs : Array Value} {e : TypeId} {fz : Nat × Nat} (hb : w.heap[b]? = some (.cells cs e fz)) (hJ : J.k = fun x => I.k x ∧ x ≠ b) (hj : J.j = I.j) {l : List Deferred} (h : MarksD I0 I w l) : MarksD I0 J w l :=
  let ⟨ms, h1, h2⟩ := h; ⟨ms, h1, marks_drop hb hJ hj h2⟩
/-- The one order makes a variable that the model has made. -/
theorem SE.take {i : Nat} {V : EV} {z : List Value} {E1 E2 : List (Nat × EV)} (hs : SE P G es I0 ρ0 w0 (E1 ++ (i, V) :: E2) t h a w) (hsd : ∀ p ∈ E1 ++ E2, sameDst (nthO es i) (nthO es p.1) = false)
    (hz : (nthO es i).i = .alloc z) : SE P G es I0 ρ0 w0 (E1 ++ E2) (putT t (nthO es i).dst (.ptr (sizeH h) 0)) (pushH h (.blk (litL z))) a w := by
  obtain ⟨I, ρ1, h1, h2, h3, h4, h5, h6, h7, h8, h9⟩ := hs
  obtain ⟨z', d, b, o, cs, e, fz, k1, k2, k3, k4, k5, k6, k7, k8, k9, k10, k11⟩ := h8 (i, V) (by simp)
  rw [hz] at k1; cases k1
  have k4 : V = .lit (.pointer (some ⟨b, o, none⟩)) := k4
  have k3 : (nthO es i).dst = some d := k3
  have k2 : (nthO es i).guard = none := k2
  subst k4
  have hpw := List.pairwise_append.1 h9
  have hpw2 := List.pairwise_cons.1 hpw.2.1
  have hdis : ∀ p ∈ E1 ++ E2, blkOf p.2 ≠ b := fun p hp => by
    rcases List.mem_append.1 hp with hp | hp
    · exact hpw.2.2 p hp (i, EV.lit (.pointer (some ⟨b, o, none⟩))) (List.mem_cons_self ..)
    · exact fun hh => hpw2.1 p hp hh.symm
  let J : Imm := ⟨fun x => I.k x ∧ x ≠ b, I.j, fun x hx => ⟨I.sub x hx, fun e => k6 (e ▸ hx)⟩, I.P, I.D, I.T⟩
  have hJ : ∀ x v, Rep w I (ρ0 ++ ρ1) x v → Rep w J (ρ0 ++ (ρ1 ++ [(b, o)])) x v := fun x v hr => by
    rw [← List.append_assoc]
    exact (hr.imm (J := J) fun _ hb => hb).ext _
  refine ⟨J, ρ1 ++ [(b, o)], ⟨fun x hx => ⟨h1.k x hx, fun e => k7 (e ▸ hx)⟩, h1.j, h1.new, h1.P⟩, fun x hx => h2 x hx.1, ?_, ?_, marksD_drop (I := I) (J := J) k8 rfl rfl h5, h6, ⟨fun g c hg ρ => (h7.1 g c hg ρ).imm (J := J) fun _ hb => hb, h7.2⟩, fun p hp => ?_, ?_⟩
  · rw [← List.append_assoc]
    exact h3.adopt (J := J) (fun _ hb => hb) (fun x hx => hx.1) rfl k5 (fun hh => hh.2 rfl) k8 k9 k10 fun j x hx => let ⟨v, m1, m2, m3⟩ := k11 j x hx; ⟨v, m1, m2, (m3 J).closed _⟩
  · rw [foldP_mid (fun p hp => hsd p (by simp [hp])), k3] at h4
    rw [foldP_put hsd, k3]
    refine repL_swap hJ ?_ d h4
    refine .ptr _ _ _ b o ?_
    rw [← List.append_assoc]
    exact ren_last h3 _
  · obtain ⟨z1, d1, b1, o1, cs1, e1, fz1, m1, m2, m3, m4, m5, m6, m7, m8, m9, m10, m11⟩ := h8 p (by rcases List.mem_append.1 hp with hp | hp <;> simp [hp])
    refine ⟨z1, d1, b1, o1, cs1, e1, fz1, m1, m2, m3, m4, ⟨m5, fun e => ?_⟩, m6, m7, m8, m9, m10, m11⟩
    have := hdis p hp
    rw [m4] at this
    exact this (by simpa [blkOf] using e)
  · refine List.pairwise_append.2 ⟨hpw.1, hpw2.2, fun p hp q hq => hpw.2.2 p hp q (by simp [hq])⟩
theorem getH_push_live {o : EO} {id : Nat} (hd : getH h id ≠ .dead) : getH (pushH h o) id = getH h id := getH_push_lt h o id (getH_lt hd)
/-- What reads own memory reads the same where a block has come behind. -/
theorem stepI_push {i : EI} (hx : isX i = false) (hr : isRd i = true) (o : EO) {Q : EV → Prop} (hs : SROK (fun v h' => Q v ∧ h' = h) (fun _ _ => False) (stepI stdA G t h i)) :
    SROK (fun v h' => Q v ∧ h' = pushH h o) (fun _ _ => False) (stepI stdA G t (pushH h o) i) := by
  cases i <;> simp only [isRd, Bool.false_eq_true] at hr <;> simp only [isX, Bool.true_eq_false] at hx
  case load agg n x =>
    simp only [stepI, loadE] at hs ⊢
    generalize evalO G t x = e at hs ⊢
    cases e <;> simp only [SROK] at hs ⊢
    case ptr id off =>
      cases hg : getH h id with
      | blk c =>
        simp only [hg] at hs
        rw [getH_push_live (by rw [hg]; simp), hg]
        simp only
        cases hrd : rd c off n with
        | none => simp only [hrd, SROK] at hs
        | some cs => cases hm : mkV agg cs with
          | none => simp only [hrd, hm, SROK] at hs
          | some v => simp only [hrd, hm, SROK] at hs ⊢; exact ⟨hs.1, trivial⟩
      | dead => simp only [hg, SROK] at hs
      | emap es => simp only [hg, SROK] at hs
      | lp _ _ _ _ _ _ => simp only [hg, SROK] at hs
      | row _ => simp only [hg, SROK] at hs
      | itr _ _ => simp only [hg, SROK] at hs
    case eptr id off =>
      cases hg : getH h id with
      | blk c =>
        simp only [hg, SROK] at hs
        rw [getH_push_live (by rw [hg]; simp), hg]
        obtain ⟨cs, v, q1, q2, q3, q4⟩ := hs
        exact ⟨cs, v, q1, q2, q3, q4.1, rfl⟩
      | dead => simp only [hg, SROK] at hs
      | emap es => simp only [hg, SROK] at hs
      | lp _ _ _ _ _ _ => simp only [hg, SROK] at hs
      | row _ => simp only [hg, SROK] at hs
      | itr _ _ => simp only [hg, SROK] at hs
    case iptr c off =>
      obtain ⟨cs, v, q1, q2, q3, q4⟩ := hs
      exact ⟨cs, v, q1, q2, q3, q4.1, trivial⟩
  case b2s x =>
    simp only [stepI, b2sE] at hs ⊢
    generalize evalO G t x = e at hs ⊢
    split at hs
    · exact ⟨hs.1, rfl⟩
    · exact ⟨hs.1, hs.2.1, rfl⟩
    · rename_i es' id off n cap
      split at hs
      · rename_i h1
        cases hg : getH h id with
        | blk c =>
          simp only [hg] at hs
          simp only [h1, if_true]
          rw [getH_push_live (by rw [hg]; simp), hg]
          exact ⟨hs.1, hs.2.1, rfl⟩
        | dead => simp only [hg, SROK] at hs
        | emap es => simp only [hg, SROK] at hs
        | lp _ _ _ _ _ _ => simp only [hg, SROK] at hs
        | row _ =>
          simp only [hg] at hs
          simp only [h1, if_true]
          rw [getH_push_live (by rw [hg]; simp), hg]
          exact ⟨hs.1, hs.2.1, rfl⟩
        | itr _ _ => simp only [hg, SROK] at hs
      · exact hs.elim
    · exact ⟨hs.1, rfl⟩
    · exact hs.elim
  case strish x =>
    simp only [stepI, strishE] at hs ⊢
    generalize evalO G t x = e at hs ⊢
    cases e <;> simp only [SROK] at hs ⊢
    case sl es' id off n cap =>
      cases hg : getH h id with
      | blk c =>
        simp only [hg, SROK] at hs
        rw [getH_push_live (by rw [hg]; simp), hg]
        exact ⟨hs.1, hs.2.1, rfl⟩
      | dead => simp only [hg, SROK] at hs
      | emap es => simp only [hg, SROK] at hs
      | lp _ _ _ _ _ _ => simp only [hg, SROK] at hs
      | row _ => simp only [hg, SROK] at hs
      | itr _ _ => simp only [hg, SROK] at hs
  case lookup ks z isA ok x k =>
    simp only [stepI, lookupE] at hs ⊢
    generalize evalO G t x = e at hs ⊢
    split at hs
    · rename_i id
      cases hg : getH h id with
      | emap es =>
        simp only [hg, SROK] at hs
        rw [getH_push_live (by rw [hg]; simp), hg]
        exact ⟨hs.1, fun hn => ⟨(hs.2.1 hn).1, rfl⟩, fun y hy => ⟨(hs.2.2 y hy).1, rfl⟩⟩
      | dead => simp only [hg, SROK] at hs
      | blk es => simp only [hg, SROK] at hs
      | lp _ _ _ _ _ _ => simp only [hg, SROK] at hs
      | row _ => simp only [hg, SROK] at hs
      | itr _ _ => simp only [hg, SROK] at hs
    · exact ⟨hs.1, hs.2.1, rfl⟩
    · exact hs.elim
  case len k x =>
    rcases k with _ | _ | k
    · simp at hr
    · simp at hr
    · simp only [stepI, lenE] at hs ⊢
      generalize evalO G t x = e at hs ⊢
      split at hs
      · exact ⟨hs.1, rfl⟩
      · rename_i id
        cases hg : getH h id with
        | emap es =>
          simp only [hg, SROK] at hs
          rw [getH_push_live (by rw [hg]; simp), hg]
          exact ⟨hs.1, rfl⟩
        | dead => simp only [hg, SROK] at hs
        | blk es => simp only [hg, SROK] at hs
        | lp _ _ _ _ _ _ => simp only [hg, SROK] at hs
        | row _ => simp only [hg, SROK] at hs
        | itr _ _ => simp only [hg, SROK] at hs
      · exact hs.elim
  case again d agg n x =>
    simp only [stepI, againE] at hs ⊢
    generalize evalO G t x = e at hs ⊢
    cases e <;> simp only [SROK] at hs ⊢
    case ptr id off =>
      cases hg : getH h id with
      | blk c =>
        simp only [hg] at hs
        rw [getH_push_live (by rw [hg]; simp), hg]
        simp only
        cases hrd : rd c off n with
        | none => simp only [hrd, SROK] at hs
        | some cs => cases hm : mkV agg cs with
          | none => simp only [hrd, hm, SROK] at hs
          | some v => simp only [hrd, hm, SROK] at hs ⊢; exact ⟨hs.1, hs.2.1, trivial⟩
      | dead => simp only [hg, SROK] at hs
      | emap es => simp only [hg, SROK] at hs
      | lp _ _ _ _ _ _ => simp only [hg, SROK] at hs
      | row _ => simp only [hg, SROK] at hs
      | itr _ _ => simp only [hg, SROK] at hs
    case eptr id off =>
      cases hg : getH h id with
      | blk c =>
        simp only [hg, SROK] at hs
        rw [getH_push_live (by rw [hg]; simp), hg]
        exact ⟨hs.1, hs.2.1, rfl⟩
      | dead => simp only [hg, SROK] at hs
      | emap es => simp only [hg, SROK] at hs
      | lp _ _ _ _ _ _ => simp only [hg, SROK] at hs
      | row _ => simp only [hg, SROK] at hs
      | itr _ _ => simp only [hg, SROK] at hs
    case iptr c off => exact ⟨hs.1, trivial⟩
theorem EvQ.push {n : Nat} {x : EOp} {V : EV} (hx : isX x.i = false) (hr : isRd x.i = true) (o : EO) (he : EvQ G x t h n V) : EvQ G x t (pushH h o) n V := by
  obtain ⟨ti, h1, h2⟩ := he
  refine ⟨ti, h1, ?_⟩
  have hgo : GoTo G x ti h n V → GoTo G x ti (pushH h o) n V := fun hg => stepI_push hx hr o hg
  unfold EvalTo at *
  split
  · rename_i hg; simp only [hg] at h2; exact hgo h2
  · rename_i g want hg
    simp only [hg] at h2
    obtain ⟨c, k1, k2⟩ := h2
    refine ⟨c, k1, ?_⟩
    split
    · rename_i hc; rw [if_pos hc] at k2; exact hgo k2
    · rename_i hc; rw [if_neg hc] at k2; exact k2
theorem evq_fold {n : Nat} {x : EOp} {V : EV} : ∀ {E : List (Nat × EV)} {t : List EV}, (∀ p ∈ E, touches (nthO es p.1) x = false) → EvQ G x t h n V → EvQ G x (foldP es t E) h n V
  | [], _, _, he => he
  | (i, U) :: E, t, ht, he => evq_fold (E := E) (fun p hp => ht p (by simp [hp])) (he.put (ht (i, U) (by simp)) U)
end
end Go.Proofs.YtpgeonghlabnhaaGreatDoor.Em
