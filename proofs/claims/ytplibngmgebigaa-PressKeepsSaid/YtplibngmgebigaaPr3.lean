/- Pr3: PressNames. No conditions. -/
import Derived.Test.YtplibngmgebigaaPr2
import Derived.Test.YtplibngmgebigaaEm24
set_option linter.unusedVariables false
namespace Go.Proofs.Ytplibngmgebigaa.Press
open Go Go.Proofs.Ytplibngmgebigaa Go.Proofs.Ytplibngmgebigaa.Em

theorem hd : DrawSound Try.prog [] := draw_sound (by kernel_rfl)

theorem awake_ok : Tri Try.prog [] 11 [] [] fun v h => v = .sb true ∧ h = [] := Tri.closed hd tab_ok awake_run (by simp [clE])

theorem names_ok : Tri Try.prog [] 3 [] [] yesE := by
  refine Tri_of F3_ok fun I0 ρ0 w0 Q hρ hQ => ?_
  obtain ⟨A, hA⟩ : ∃ A, A = stdA := ⟨_, rfl⟩
  refine runS hA hd hQ 100 trivial ?_
  conv => arg 8; cbv
  refine ⟨goodF_of F11_ok, awake_ok.mono fun v h' ⟨hv, hh⟩ => ?_⟩
  subst hv; subst hh
  refine runK hA hd hQ 100 trivial ?_
  conv => arg 8; cbv
  exact ⟨_, rfl, .inr rfl⟩

def names_law_sh : List Sh := []
theorem names_law : ∀ es, HasVs names_law_sh es → Tri Try.prog [] 3 es [] yesE := fun es h => by
  simp only [names_law_sh, HasVs] at h; subst h; exact names_ok

end Go.Proofs.Ytplibngmgebigaa.Press
