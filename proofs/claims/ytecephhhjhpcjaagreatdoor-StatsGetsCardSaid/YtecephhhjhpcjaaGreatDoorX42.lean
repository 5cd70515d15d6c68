/- Em42: calls that change one block of their caller's; less of a list that is looked at. No conditions beyond those written. -/
import Derived.Test.YtecephhhjhpcjaaGreatDoorX41
set_option linter.unusedVariables false
set_option linter.unusedSimpArgs false
namespace Go.Proofs.YtecephhhjhpcjaaGreatDoor.Em
open Go
theorem Up.pre (n : Nat) (cap : Option Nat) (c : List EV) (k : Nat) : Up (.isl n cap c) (.isl n cap (c.take k)) := fun w I ρ cv h => by
  have hsub : ∀ (j : Nat) (x : EV), (c.take k)[j]? = some x → c[j]? = some x := fun j x hx => by
    rw [List.getElem?_take] at hx
    split at hx
    · exact hx
    · cases hx
  cases h with
  | isl _ _ _ _ a kk vs h1 h2 h3 h4 => exact .isl _ _ _ _ a kk vs h1 h2 (fun hk => ⟨(h3 hk).1, fun j x hx => (h3 hk).2 j x (hsub j x hx)⟩) (fun hk j x hx => h4 hk j x (hsub j x hx))
  | isln => exact .isln _ _
section
variable {P : Program} {G : List (List EV)}
theorem Tri.step {f : FuncId} {post c : List EV} {h : EH} {id : Nat} {R : EV → List EV → Prop} (hR : ∀ V c', R V c' → clE V = true ∧ clL c' = true)
    (t : Tri P G f (.ptr 0 0 :: post) [.blk c] fun v h' => ∃ c', R v c' ∧ h' = [.blk c']) (hp : clL post = true) (hc : clL c = true) (hg : getH h id = .blk c) :
    Tri P G f (.ptr id 0 :: post) h fun v h' => ∃ c', R v c' ∧ h' = setH h id (.blk c') := by
  have hlt : id < sizeH h := getH_lt (by rw [hg]; simp)
  have ok : okMv [id] [] h := ⟨by simp, by simpa using hlt, by simp⟩
  have ha : mvL (mvG [id] []) (mvZ [] h) (.ptr id 0 :: post) = .ptr 0 0 :: post := by
    simp only [mvL]; rw [mvL_cl _ _ _ hp]; simp [mvE, mvG, inL, ixL]
  have hh : mvH [id] [] h [id] = [.blk c] := by simp [mvH, hg, mvO, inL, mvL_cl _ _ _ hc]
  have t2 : Tri P G f (mvL (mvG [id] []) (mvZ [] h) (.ptr id 0 :: post)) (mvH [id] [] h [id]) fun v h' => ∃ c', R v c' ∧ h' = [.blk c'] := by rw [ha, hh]; exact t
  refine (Tri.sub [id] [] ok (by simp) t2 (.inl rfl)).mono fun v h' ⟨v0, h0, ⟨c', e1, e2⟩, e3, e4⟩ => ?_
  obtain ⟨k1, k2⟩ := hR _ _ e1
  subst e2; subst e3; subst e4
  rw [mvE_cl _ _ _ k1]
  refine ⟨c', e1, EH.ext ?_ fun i hi => ?_⟩
  · simp [subH_size, sizeH_set, sizeH]
  · rw [subH_size] at hi
    simp only [sizeH, List.length_singleton] at hi
    rcases subH_get [id] h [.blk c'] i with ⟨h1, h2, h3⟩ | ⟨j, h1, h2, h3, h4⟩
    · rw [h3, getH_set_ne _ _ _ _ (by simpa using h2)]
    · rw [h4]
      have hi2 : i < sizeH h := by omega
      have hj : j = 0 := by have := h2 hi2; simp at this; exact this
      subst hj
      simp [bkG] at h1; subst h1
      rw [getH_set_same _ _ _ hlt]
      simp [getH, mvO, mvL_cl _ _ _ k2]
theorem Tri.readC {f : FuncId} {args c c' : List EV} {r : List Nat} (hc' : clL c' = true)
    (t : Tri P G f args [.blk c] fun v h' => (v = .lit (.slice none 0 0) ∧ r = [] ∧ h' = [.blk c']) ∨ (∃ m Z id tl cap, v = .sl 1 id 0 m cap ∧ h' = .blk c' :: tl ∧ getH h' id = .blk Z ∧ id ≠ 0 ∧ m = r.length ∧ Z = bytesE r) ∨
      (∃ m cap Z, v = .isl m cap Z ∧ h' = [.blk c'] ∧ m = r.length ∧ Z.take m = bytesE r)) :
    Tri P G f args [.blk c] fun v h' => v = isB r ∧ h' = [.blk c'] := by
  refine Tri.up (R := fun v h' => Up v (isB r) ∧ h' = [.blk c']) (Tri.mv t fun v h' hx => ?_) (fun v h' ⟨h1, h2⟩ => ⟨_, ⟨rfl, h2⟩, h1⟩)
  rcases hx with ⟨rfl, rfl, rfl⟩ | ⟨m, Z, id, tl, cap, rfl, rfl, hg, hid, rfl, rfl⟩ | ⟨m, cap, Z, rfl, rfl, rfl, hz⟩
  · exact ⟨[0], [], rfl, ⟨by simp, by simp [sizeH], by simp⟩, Up.nil _, by simp [mvH, getH, mvO, inL, mvL_cl _ _ _ hc']⟩
  · refine ⟨[0], [id], rfl, ⟨by simp, by simp [sizeH], fun i hi => ?_⟩, ?_, ?_⟩
    · simp at hi; subst hi; exact ⟨_, hg, clL_bytes r⟩
    · rw [show mvE (mvG [0] [id]) (mvZ [id] (.blk c' :: tl)) (.sl 1 id 0 r.length cap) = .isl r.length cap (bytesE r) by simp [mvE, mvG, mvZ, inL, hg]]
      exact Up.cap _ _ _
    · simp [mvH, getH, mvO, inL, hid, mvL_cl _ _ _ hc']
  · refine ⟨[0], [], rfl, ⟨by simp, by simp [sizeH], by simp⟩, ?_, by simp [mvH, getH, mvO, inL, mvL_cl _ _ _ hc']⟩
    have : isB r = .isl r.length none (Z.take r.length) := by rw [hz]; rfl
    rw [this]
    exact (Up.cap _ _ _).trans (Up.pre _ _ _ _)
end
end Go.Proofs.YtecephhhjhpcjaaGreatDoor.Em
