/- Em41: calls that let bytes of their caller's grow. No conditions beyond those written. -/
import Derived.Test.YtecephhhjhpcjaaGreatDoorX40
set_option linter.unusedVariables false
set_option linter.unusedSimpArgs false
namespace Go.Proofs.YtecephhhjhpcjaaGreatDoor.Em
open Go
theorem EH.ext : ∀ {h k : EH}, sizeH h = sizeH k → (∀ i, i < sizeH h → getH h i = getH k i) → h = k
  | [], [], _, _ => rfl
  | [], _ :: _, h, _ => by simp [sizeH] at h
  | _ :: _, [], h, _ => by simp [sizeH] at h
  | x :: h, y :: k, hs, hg => by
    have h0 := hg 0 (by simp [sizeH])
    have := EH.ext (h := h) (k := k) (by simpa [sizeH] using hs) fun i hi => hg (i + 1) (by simpa [sizeH] using hi)
    rw [this, show x = y from h0]
section
variable {P : Program} {G : List (List EV)}
def Grows (P : Program) (G : List (List EV)) (f : FuncId) (post : List EV) (l X : List Nat) : Prop :=
  Tri P G f (.sl 1 0 0 l.length none :: post) [.blk (bytesE l)] fun v h' => v = .sl 1 1 0 X.length none ∧ h' = [.dead, .blk (bytesE X)]
def Begins (P : Program) (G : List (List EV)) (f : FuncId) (post : List EV) (X : List Nat) : Prop :=
  Tri P G f (.lit (.slice none 0 0) :: post) [] fun v h' => v = .sl 1 0 0 X.length none ∧ h' = [.blk (bytesE X)]
theorem Grows.call {f : FuncId} {post : List EV} {l X : List Nat} {h : EH} {id : Nat} (t : Grows P G f post l X) (hp : clL post = true) (hg : getH h id = .blk (bytesE l)) :
    Tri P G f (.sl 1 id 0 l.length none :: post) h fun v h' => v = .sl 1 (sizeH h) 0 X.length none ∧ h' = pushH (setH h id .dead) (.blk (bytesE X)) := by
  have hlt : id < sizeH h := getH_lt (by rw [hg]; simp)
  have ok : okMv [id] [] h := ⟨by simp, by simpa using hlt, by simp⟩
  have ha : mvL (mvG [id] []) (mvZ [] h) (.sl 1 id 0 l.length none :: post) = .sl 1 0 0 l.length none :: post := by
    simp only [mvL]; rw [mvL_cl _ _ _ hp]; simp [mvE, mvG, inL, ixL]
  have hh : mvH [id] [] h [id] = [.blk (bytesE l)] := by simp [mvH, hg, mvO, mvL_bytes, inL]
  have t2 : Tri P G f (mvL (mvG [id] []) (mvZ [] h) (.sl 1 id 0 l.length none :: post)) (mvH [id] [] h [id]) fun v h' => v = .sl 1 1 0 X.length none ∧ h' = [.dead, .blk (bytesE X)] := by rw [ha, hh]; exact t
  refine (Tri.sub [id] [] ok (by simp) t2 (.inl rfl)).mono fun v h' ⟨v0, h0, ⟨e1, e2⟩, e3, e4⟩ => ?_
  subst e1; subst e2; subst e3; subst e4
  refine ⟨by simp [mvE, bkG], EH.ext ?_ fun i hi => ?_⟩
  · simp [subH_size, sizeH_push, sizeH_set, sizeH]
  · rw [subH_size] at hi
    simp only [sizeH, List.length_singleton] at hi
    rcases subH_get [id] h [.dead, .blk (bytesE X)] i with ⟨h1, h2, h3⟩ | ⟨j, h1, h2, h3, h4⟩
    · rw [h3, getH_push_lt _ _ _ (by rw [sizeH_set]; exact h1), getH_set_ne _ _ _ _ (by simpa using h2)]
    · rw [h4]
      by_cases hi2 : i < sizeH h
      · have hj : j = 0 := by have := h2 hi2; simp at this; exact this
        subst hj
        simp [bkG] at h1; subst h1
        rw [getH_push_lt _ _ _ (by rw [sizeH_set]; exact hlt), getH_set_same _ _ _ hlt]; rfl
      · have hj : j = 1 := by have := h3 hi2; simp at this; omega
        subst hj
        have hie : i = sizeH (setH h id .dead) := by rw [sizeH_set]; omega
        rw [hie, getH_push_at]
        simp [getH, mvO, mvL_bytes]
theorem Grows.callV {f : FuncId} {post : List EV} {l X : List Nat} {h : EH} {id N : Nat} {c : List EV} (t : Grows P G f post l X) (hp : clL post = true) (hN : N = l.length) (hc : c = bytesE l) (hg : getH h id = .blk c) :
    Tri P G f (.sl 1 id 0 N none :: post) h fun v h' => ∃ M e, v = .sl 1 (sizeH h) 0 M none ∧ h' = pushH (setH h id .dead) (.blk e) ∧ M = X.length ∧ e = bytesE X := by
  subst hN; subst hc
  exact (t.call hp hg).mono fun v h' ⟨h1, h2⟩ => ⟨_, _, h1, h2, rfl, rfl⟩
theorem Begins.call {f : FuncId} {post : List EV} {X : List Nat} (t : Begins P G f post X) (hp : clL post = true) (h : EH) :
    Tri P G f (.lit (.slice none 0 0) :: post) h fun v h' => v = .sl 1 (sizeH h) 0 X.length none ∧ h' = pushH h (.blk (bytesE X)) := by
  have ok : okMv [] [] h := ⟨by simp, by simp, by simp⟩
  have ha : mvL (mvG [] []) (mvZ [] h) (.lit (.slice none 0 0) :: post) = .lit (.slice none 0 0) :: post := by
    simp only [mvL]; rw [mvL_cl _ _ _ hp]; simp [mvE]
  have t2 : Tri P G f (mvL (mvG [] []) (mvZ [] h) (.lit (.slice none 0 0) :: post)) (mvH [] [] h []) fun v h' => v = .sl 1 0 0 X.length none ∧ h' = [.blk (bytesE X)] := by rw [ha]; exact t
  refine (Tri.sub [] [] ok (by simp) t2 (.inl rfl)).mono fun v h' ⟨v0, h0, ⟨e1, e2⟩, e3, e4⟩ => ?_
  subst e1; subst e2; subst e3; subst e4
  refine ⟨by simp [mvE, bkG], EH.ext ?_ fun i hi => ?_⟩
  · simp [subH_size, sizeH_push, sizeH]
  · rw [subH_size] at hi
    simp only [sizeH, List.length_nil] at hi
    rcases subH_get [] h [.blk (bytesE X)] i with ⟨h1, h2, h3⟩ | ⟨j, h1, h2, h3, h4⟩
    · rw [h3, getH_push_lt _ _ _ h1]
    · rw [h4]
      by_cases hi2 : i < sizeH h
      · have := h2 hi2; simp at this
      · have hj : j = 0 := by have := h3 hi2; simp at this; omega
        subst hj
        have hie : i = sizeH h := by omega
        rw [hie, getH_push_at]
        simp [getH, mvO, mvL_bytes]
theorem Begins.callV {f : FuncId} {post : List EV} {X : List Nat} (t : Begins P G f post X) (hp : clL post = true) (h : EH) :
    Tri P G f (.lit (.slice none 0 0) :: post) h fun v h' => ∃ M e, v = .sl 1 (sizeH h) 0 M none ∧ h' = pushH h (.blk e) ∧ M = X.length ∧ e = bytesE X :=
  (t.call hp h).mono fun v h' ⟨h1, h2⟩ => ⟨_, _, h1, h2, rfl, rfl⟩
theorem Grows.of {f : FuncId} {post : List EV} {l X : List Nat} (t : Tri P G f (.sl 1 0 0 l.length none :: post) [.blk (bytesE l)] fun v h' => ∃ id, v = .sl 1 id 0 X.length none ∧ getH h' id = .blk (bytesE X) ∧ id ≠ 0 ∧ getH h' 0 = .dead) : Grows P G f post l X :=
  Tri.mv t fun v h' ⟨id, e1, e2, e3, e4⟩ => by
    have hlt : id < sizeH h' := getH_lt (by rw [e2]; simp)
    refine ⟨[0, id], [], rfl, ⟨by simp; exact fun h => e3 h.symm, by simp; omega, by simp⟩, ?_, ?_⟩
    · subst e1; simp [mvE, mvG, inL, ixL, fun h => e3 h, show ¬ 0 = id from fun h => e3 h.symm]
    · simp [mvH, e2, e4, mvO, mvL_bytes, inL]
theorem Begins.of {f : FuncId} {post : List EV} {X : List Nat} (t : Tri P G f (.lit (.slice none 0 0) :: post) [] fun v h' => ∃ id, v = .sl 1 id 0 X.length none ∧ getH h' id = .blk (bytesE X)) : Begins P G f post X :=
  Tri.mv t fun v h' ⟨id, e1, e2⟩ => by
    have hlt : id < sizeH h' := getH_lt (by rw [e2]; simp)
    refine ⟨[id], [], rfl, ⟨by simp, by simpa using hlt, by simp⟩, ?_, ?_⟩
    · subst e1; simp [mvE, mvG, inL, ixL]
    · simp [mvH, e2, mvO, mvL_bytes, inL]
theorem Tri.outB {f : FuncId} {args : List EV} {r : List Nat} {x : Int} (ha : clL args = true)
    (t : Tri P G f args [] fun v h => ∃ ov, v = .tup [ov, .lit (.int .i64 x)] ∧ ((ov = .lit (.slice none 0 0) ∧ r = []) ∨ ∃ id N cap e, ov = .sl 1 id 0 N cap ∧ N = r.length ∧ getH h id = .blk e ∧ e = bytesE r)) (h : EH) :
    Tri P G f args h fun v h' => v = .tup [isB r, .lit (.int .i64 x)] ∧ h' = h := by
  refine Tri.litC (φ := fun v => v = .tup [isB r, .lit (.int .i64 x)]) (fun v hv => by rw [hv]; rfl) ha ?_ h
  refine Tri.up (R := fun v h => ∃ ov, v = .tup [ov, .lit (.int .i64 x)] ∧ Up ov (isB r)) (Tri.mv t fun v h ⟨ov, hv, hc⟩ => ?_) (fun v h ⟨ov, hv, hu⟩ => ⟨.tup [isB r, .lit (.int .i64 x)], rfl, by rw [hv]; exact Up.tup2 hu (Up.refl _)⟩)
  subst hv
  rcases hc with ⟨rfl, rfl⟩ | ⟨id, N, cap, e, rfl, rfl, hg, rfl⟩
  · exact ⟨[], [], rfl, ⟨by simp, by simp, by simp⟩, _, rfl, Up.nil _⟩
  · refine ⟨[], [id], rfl, ⟨by simp, by simp, fun i hi => ?_⟩, .isl r.length cap (bytesE r), ?_, Up.cap _ _ _⟩
    · simp at hi; subst hi; exact ⟨_, hg, clL_bytes r⟩
    · simp [mvE, mvL, mvG, mvZ, inL, hg]
end
end Go.Proofs.YtecephhhjhpcjaaGreatDoor.Em
