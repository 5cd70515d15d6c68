/- Em25: values that say less; own slices of known room, of unknown room. No conditions beyond those written. -/
import Derived.Test.YtplibngmgebigaaEm24
set_option linter.unusedVariables false
set_option linter.unusedSimpArgs false
namespace Go.Proofs.Ytplibngmgebigaa.Em
open Go

/-- v' says no more than v. -/
def Up (v v' : EV) : Prop := ∀ (w : World) (I : Imm) (ρ : Ren) (cv : Value), Rep w I ρ v cv → Rep w I ρ v' cv

theorem Up.refl (v : EV) : Up v v := fun _ _ _ _ h => h
theorem Up.trans {a b c : EV} (h : Up a b) (k : Up b c) : Up a c := fun w I ρ cv x => k w I ρ cv (h w I ρ cv x)
theorem Up.nil (c : List EV) : Up (.lit (.slice none 0 0)) (.isl 0 none c) := fun w I ρ cv h => by cases h; exact .isln _ _
theorem Up.cap (n : Nat) (cap : Option Nat) (c : List EV) : Up (.isl n cap c) (.isl n none c) := fun w I ρ cv h => by
  cases h with
  | isln => exact .isln _ _
  | isl _ _ _ _ a k vs hc hs hf hr => exact .isl _ n none c a k vs ⟨hc.1, fun m hm => by cases hm⟩ hs hf hr
theorem Up.scap (es id off n : Nat) (cap : Option Nat) : Up (.sl es id off n cap) (.sl es id off n none) := fun w I ρ cv h => by
  cases h with
  | sl _ _ _ _ _ _ a k b o hb hc hs hf => exact .sl _ es id off n none a k b o hb ⟨hc.1, fun m hm => by cases hm⟩ hs hf
theorem Up.tup {l m : List EV} (h : l.length = m.length) (k : ∀ (j : Nat) (x y : EV), l[j]? = some x → m[j]? = some y → Up x y) : Up (.tup l) (.tup m) := fun w I ρ cv hr => by
  cases hr with
  | tup _ _ vs hl hc =>
    refine .tup _ m vs (h ▸ hl) fun j e v he hv => ?_
    have hj : j < l.length := by rw [h]; exact (List.getElem?_eq_some_iff.1 he).1
    exact k j l[j] e (List.getElem?_eq_getElem hj) he w I ρ v (hc j l[j] v (List.getElem?_eq_getElem hj) hv)
theorem Up.tup2 {a b a' b' : EV} (h : Up a a') (k : Up b b') : Up (.tup [a, b]) (.tup [a', b']) := Up.tup rfl fun j x y hx hy => by
  match j, hx, hy with
  | 0, hx, hy => simp at hx hy; subst hx; subst hy; exact h
  | 1, hx, hy => simp at hx hy; subst hx; subst hy; exact k
  | j + 2, hx, hy => simp at hx

section
variable {P : Program} {G : List (List EV)} {I0 : Imm} {ρ0 : Ren} {w0 : World} {Q : Exit → Act → World → Prop}

theorem Tri.up {f : FuncId} {args : List EV} {h : EH} {R R' : EV → EH → Prop} (t : Tri P G f args h R) (k : ∀ v h', R v h' → ∃ v', R' v' h' ∧ Up v v') : Tri P G f args h R' :=
  fun I ρ w cargs a b c d => (t I ρ w cargs a b c d).mono fun e w' ⟨v, cv, h', I', ρ1, q1, q2, q3, q4, q5, q6, q7⟩ => by
    obtain ⟨v', k1, k2⟩ := k v h' q2
    exact ⟨v', cv, h', I', ρ1, q1, k1, q3, q4, q5, k2 _ _ _ _ q6, q7⟩

/-- A place of a state says less. -/
theorem OKs.up {k : List KI} {s : St} (i : Nat) (v : EV) (hv : Up (getT s.t i) v) (h : OKs P G I0 ρ0 w0 Q k ⟨setT s.t i v, s.h⟩) : OKs P G I0 ρ0 w0 Q k s :=
  fun Φ hk a w hs => h Φ hk a w (by
    obtain ⟨I, ρ1, h1, h2, h3, h4, h5, h6, h7⟩ := hs
    refine ⟨I, ρ1, h1, h2, h3, ?_, h5, h6, h7⟩
    have key : ∀ {t : List EV} {us : List Value} (i : Nat), RepL w I (ρ0 ++ ρ1) t us → Up (getT t i) v → RepL w I (ρ0 ++ ρ1) (setT t i v) us := by
      intro t
      induction t with
      | nil => intro us i hr _; exact hr
      | cons x t ih =>
        intro us i hr hu
        cases us with
        | nil => exact hr.elim
        | cons u us =>
          cases i with
          | zero => exact ⟨hu _ _ _ _ hr.1, hr.2⟩
          | succ i => exact ⟨hr.1, ih i hr.2 hu⟩
    exact key i h4 hv)

/-- own bytes, frozen -/
def isB (l : List Nat) : EV := .isl l.length none (bytesE l)

theorem clE_isB (l : List Nat) : clE (isB l) = true := rfl

/-- What comes back as own bytes, or none, with another value, comes back frozen. -/
theorem Tri.frozen2 {f : FuncId} {args : List EV} {r : List Nat} {e : EV} (he : clE e = true)
    (t : Tri P G f args [] fun v h => ∃ ov, v = .tup [ov, e] ∧ ((ov = .lit (.slice none 0 0) ∧ r = []) ∨ ∃ id cap, ov = .sl 1 id 0 r.length cap ∧ getH h id = .blk (bytesE r))) :
    Tri P G f args [] fun v h => v = .tup [isB r, e] ∧ h = [] := by
  refine Tri.up (R := fun v h => ∃ ov, v = .tup [ov, e] ∧ Up ov (isB r) ∧ h = []) (Tri.mv t fun v h ⟨ov, hv, hc⟩ => ?_) (fun v h ⟨ov, hv, hu, hh⟩ => ⟨.tup [isB r, e], ⟨rfl, hh⟩, by rw [hv]; exact Up.tup2 hu (Up.refl _)⟩)
  subst hv
  rcases hc with ⟨rfl, rfl⟩ | ⟨id, cap, rfl, hg⟩
  · refine ⟨[], [], rfl, ⟨by simp, by simp, by simp⟩, _, ?_, Up.nil _, rfl⟩
    simp only [mvE, mvL]
    rw [mvE_cl _ _ e he]
  · refine ⟨[], [id], rfl, ⟨by simp, by simp, fun i hi => ?_⟩, .isl r.length cap (bytesE r), ?_, Up.cap _ _ _, rfl⟩
    · simp at hi; subst hi; exact ⟨_, hg, clL_bytes r⟩
    · simp only [mvE, mvL]
      rw [mvE_cl _ _ e he]
      simp [mvG, mvZ, inL, hg]

theorem Tri.frozen1 {f : FuncId} {args : List EV} {r : List Nat}
    (t : Tri P G f args [] fun v h => (v = .lit (.slice none 0 0) ∧ r = []) ∨ ∃ id cap, v = .sl 1 id 0 r.length cap ∧ getH h id = .blk (bytesE r)) :
    Tri P G f args [] fun v h => v = isB r ∧ h = [] := by
  refine Tri.up (R := fun v h => Up v (isB r) ∧ h = []) (Tri.mv t fun v h hc => ?_) (fun v h ⟨hu, hh⟩ => ⟨isB r, ⟨rfl, hh⟩, hu⟩)
  rcases hc with ⟨rfl, rfl⟩ | ⟨id, cap, rfl, hg⟩
  · exact ⟨[], [], rfl, ⟨by simp, by simp, by simp⟩, by simp only [mvE]; exact Up.nil _, rfl⟩
  · refine ⟨[], [id], rfl, ⟨by simp, by simp, fun i hi => ?_⟩, ?_, rfl⟩
    · simp at hi; subst hi; exact ⟨_, hg, clL_bytes r⟩
    · simp only [mvE]
      simp [mvG, mvZ, inL, hg]
      exact Up.cap _ _ _

/-- A call that hands in no own memory and gets none back. -/
theorem Tri.clean {f : FuncId} {args : List EV} {V : EV} (ha : clL args = true) (hV : clE V = true) (t : Tri P G f args [] fun v h => v = V ∧ h = []) (h : EH) :
    Tri P G f args h fun v h' => v = V ∧ h' = h := by
  have t' : Tri P G f (mvL (mvG [] []) (mvZ [] h) args) [] fun v h => v = V ∧ h = [] := by rw [mvL_cl _ _ _ ha]; exact t
  refine (Tri.frame (h := h) [] (by simp) t' (.inl rfl)).mono fun v h' ⟨v0, h0, ⟨e1, e2⟩, e3, e4⟩ => ?_
  subst e1; subst e2; subst e3; subst e4
  exact ⟨mvE_cl _ _ _ hV, rfl⟩

theorem isB_open (l : List Nat) : ∃ n c, isB l = .isl n none c ∧ n = l.length ∧ c = bytesE l := ⟨_, _, rfl, rfl, rfl⟩

theorem Up.sb (b : Bool) : Up (.lit (.bool b)) (.sb b) := fun w I ρ cv h => by cases h; exact .sb _ _

end
end Go.Proofs.Ytplibngmgebigaa.Em
