/- The Go function PressNames takes no argument and always returns true: the ways and the errors have the numbers that the document gives, and press answers four examples as the document does. No conditions. -/
import Derived.Test.YtplibngmgebigaaRows
import Derived.Test.YtplibngmgebigaaEm24
import Derived.Test.YtplibngmgebigaaPr3
import Derived.WalkKit
import Derived.ProofKit
import Derived.OpenShut
import Derived.ChangeOld
import Derived.Below
namespace Go.Proofs.Ytplibngmgebigaa.pressNames
open Go.ChangeShapes Go.WideShapes Go.ChangeAt Go.RowKit Go.Proofs.Ytplibngmgebigaa.Em Go.Proofs.Ytplibngmgebigaa.Press
set_option linter.unusedVariables false

theorem own : ownKnob Try.prog.godebug = none := by kernel_rfl
theorem laidOut : laidOutB Try.prog = true := by kernel_rfl

set_option maxRecDepth 100000 in
theorem lifted (os : Os) (started : os.Started) (H : Type) (enc : TypeId × Value → H) :
    ReturnsInHanded {} Try.checked os 3 .any (Rows.pressNamesSpec.pre6 enc Try.prog Try.f3 Rows.pressNamesRow.domain false) (Rows.pressNamesSpec.post enc Try.prog Try.f3 false true false false) := by
  refine returnsInHanded_of_change (C := Try.checked) own started (by kernel_rfl) Try.func3
    (ChangeSpec.witness6 (enc := enc) (C := Try.checked) false ⟨#[], #[], []⟩ 8 (by kernel_rfl) (by kernel_rfl) (by kernel_rfl) (by kernel_rfl)) ?_
  intro W base args ds gs before hval hW hcnd _
  have hW' := hW
  obtain ⟨p, q, hA, hV, rfl, hfz, hnd⟩ := hW
  obtain ⟨rfl, rfl⟩ := trodVars_none hV
  have lt0 := trodAll_lt hA
  have hs : Try.f3.params.toList.mapM (shOf Try.prog 10) = some names_law_sh := by kernel_rfl
  refine (law_calls 10 hs (fun j t v hj hv => hval j t v (by rw [← Array.getElem?_toList]; exact hj) hv) hA lt0 (G := []) (fun g c hg => by simp at hg) names_law).mono fun e W' ⟨he, bel⟩ => ?_
  subst he
  have hargs := trodAll_below (P := Try.prog) laidOut bel (by kernel_rfl) hA lt0
  have hn : ∃ d, Rows.pressNamesSpec.fn H (ds ++ []) = { results := [.lit (.bool true)], args := ds } := ⟨(), by
    clear hW' hval lt0 bel
    rw [Try.params3] at hA
    repeat (first | (obtain ⟨_, _, _, _, _, _, _, rfl, rfl, _, hA⟩ := trodAll_cons hA) | (obtain ⟨_, rfl, rfl⟩ := trodAll_nil hA))
    rfl⟩
  obtain ⟨_, hn⟩ := hn
  refine ⟨_, rfl, _, _, _, [], p, [], hW', ?_, ?_, ?_, bel.frame _, fun h => by cases h⟩
  · rw [hn]; exact trodAll_mk1 (shut_bool Try.underlying4 _)
  · rw [hn]; exact hargs
  · rw [hn]; rfl

theorem over : Rows.pressNamesRow.holds Try.pinned (OpenSpec.ofChange Rows.pressNamesSpec) :=
  OpenClaim.holds_of_wide 3 Try.f3 rfl rfl rfl rfl rfl rfl rfl ⟨rfl, rfl, rfl, rfl, rfl⟩ rfl rfl rfl rfl rfl (by kernel_rfl) Try.func3 (by kernel_rfl)
    (of_decide_eq_true (by kernel_rfl)) (by unfold Func.isWrapper; first | (rw [if_pos (by decide +kernel)]; kernel_rfl) | (rw [if_neg (by decide +kernel)]; exact ⟨rfl, rfl⟩))
    (fun os started H enc _ => lifted os started H enc)

/-- ████ THE STATEMENT ████ -/
theorem proved : Rows.PressNamesSaid := over
#print axioms proved
end Go.Proofs.Ytplibngmgebigaa.pressNames
