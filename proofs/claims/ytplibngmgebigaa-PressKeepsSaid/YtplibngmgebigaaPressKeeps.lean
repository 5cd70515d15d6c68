/- The Go function PressKeeps returns true for every way and all lists of bytes: what is handed in stays as it is, each answer is memory of its own, and what is asked again is answered alike. No conditions. -/
import Derived.Test.YtplibngmgebigaaRows
import Derived.Test.YtplibngmgebigaaEm24
import Derived.Test.YtplibngmgebigaaPr33
import Derived.WalkKit
import Derived.ProofKit
import Derived.OpenShut
import Derived.ChangeOld
import Derived.Below
namespace Go.Proofs.Ytplibngmgebigaa.pressKeeps
open Go.ChangeShapes Go.WideShapes Go.ChangeAt Go.RowKit Go.Proofs.Ytplibngmgebigaa.Em Go.Proofs.Ytplibngmgebigaa.Press
set_option linter.unusedVariables false

theorem own : ownKnob Try.prog.godebug = none := by kernel_rfl
theorem laidOut : laidOutB Try.prog = true := by kernel_rfl

set_option maxRecDepth 100000 in
theorem lifted (os : Os) (started : os.Started) (H : Type) (enc : TypeId × Value → H) :
    ReturnsInHanded {} Try.checked os 10 .any (Rows.pressKeepsSpec.pre6 enc Try.prog Try.f10 Rows.pressKeepsRow.domain false) (Rows.pressKeepsSpec.post enc Try.prog Try.f10 false true false false) := by
  refine returnsInHanded_of_change_sized (C := Try.checked) own started (by kernel_rfl) Try.func10
    (ChangeSpec.witness6 (enc := enc) (C := Try.checked) false ⟨#[], #[.agg #[.int .i64 0, .slice none 0 0, .int .i64 0], .slice none 0 0], []⟩ 8 (by kernel_rfl) (by kernel_rfl) (by kernel_rfl) (by kernel_rfl)) ?_
  intro W base args ds gs before hval hW hcnd hwt _
  have hW' := hW
  obtain ⟨p, q, hA, hV, rfl, hfz, hnd⟩ := hW
  obtain ⟨rfl, rfl⟩ := trodVars_none hV
  have lt0 := trodAll_lt hA
  have hwt2 : (DataW.weightsEach Try.prog (Try.f10.params.toList ++ []) (ds ++ [])).all (· ≤ reachBytes) = true := hwt
  rw [List.append_nil, List.append_nil] at hwt2
  have hwt' : ∀ n ∈ DataW.weightsEach Try.prog Try.f10.params.toList ds, n ≤ reachBytes := fun n hn => by
    simpa using List.all_eq_true.1 hwt2 n hn
  have hs : Try.f10.params.toList.mapM (shOf Try.prog 10) = some keep_sh := by kernel_rfl
  refine (law_calls 10 hs (fun j t v hj hv => hval j t v (by rw [← Array.getElem?_toList]; exact hj) hv) hA lt0 hwt' (G := []) (fun g c hg => by simp at hg) keeps_law).mono fun e W' ⟨he, bel⟩ => ?_
  subst he
  have hargs := trodAll_below (P := Try.prog) laidOut bel (by kernel_rfl) hA lt0
  have hn : ∃ d, Rows.pressKeepsSpec.fn H (ds ++ []) = { results := [.lit (.bool true)], args := ds } := ⟨(), by
    clear hW' hval lt0 bel
    rw [Try.params10] at hA
    repeat (first | (obtain ⟨_, _, _, _, _, _, _, rfl, rfl, _, hA⟩ := trodAll_cons hA) | (obtain ⟨_, rfl, rfl⟩ := trodAll_nil hA))
    rfl⟩
  obtain ⟨_, hn⟩ := hn
  refine ⟨_, rfl, _, _, _, [], p, [], hW', ?_, ?_, ?_, bel.frame _, fun h => by cases h⟩
  · rw [hn]; exact trodAll_mk1 (shut_bool Try.underlying4 _)
  · rw [hn]; exact hargs
  · rw [hn]; rfl

theorem over : Rows.pressKeepsRow.holds Try.pinned (OpenSpec.ofChange Rows.pressKeepsSpec) :=
  OpenClaim.holds_of_wide 10 Try.f10 rfl rfl rfl rfl rfl rfl rfl ⟨rfl, rfl, rfl, rfl, rfl⟩ rfl rfl rfl rfl rfl (by kernel_rfl) Try.func10 (by kernel_rfl)
    (of_decide_eq_true (by kernel_rfl)) (by unfold Func.isWrapper; first | (rw [if_pos (by decide +kernel)]; kernel_rfl) | (rw [if_neg (by decide +kernel)]; exact ⟨rfl, rfl⟩))
    (fun os started H enc _ => lifted os started H enc)

/-- ████ THE STATEMENT ████ -/
theorem proved : Rows.PressKeepsSaid := over
#print axioms proved
end Go.Proofs.Ytplibngmgebigaa.pressKeeps
