/- The call of CalcNames answers true, on every schedule, wherever the listed variables hold what the program's text lays. No conditions. -/
import Derived.Test.YtdgfcgadefodfaaGreatDoorRows
import Derived.Test.YtdgfcgadefodfaaGreatDoorTie
import Derived.Test.YtdgfcgadefodfaaGreatDoorCards
import Derived.Test.YtdgfcgadefodfaaGreatDoorEm28
import Derived.Test.YtdgfcgadefodfaaGreatDoorCc2
import Derived.WalkKit
import Derived.ProofKit
import Derived.OpenShut
import Derived.ChangeOld
import Derived.Below
import Derived.LaidMore
import Derived.Lay
import Derived.Handed
import Derived.SevenTiedAt
set_option linter.unusedVariables false
namespace Go.Proofs.YtdgfcgadefodfaaGreatDoor.calcNames
open Go.ChangeShapes Go.WideShapes Go.ChangeAt Go.RowKit Go.Proofs.YtdgfcgadefodfaaGreatDoor.Em Go.Proofs.YtdgfcgadefodfaaGreatDoor.Calc

theorem own : ownKnob Tryz.prog.godebug = none := by kernel_rfl
def laid : List (String × DataW Unit) := Rows.calcNamesRow.laid
def vars : List (Option (String × DataW Unit)) := [none, none, some ("colonnade/kind.says", Rows.laid_colonnade_kind_says), none, some ("unicode/utf8.acceptRanges", Rows.laid_unicode_utf8_acceptRanges)]
theorem gs_eq : gs = varsG vars := by kernel_rfl
theorem vars_ok : okX Tryz.prog 4 0 vars = true := by kernel_rfl
theorem last : Tryz.prog.globalNamed "unicode/utf8.acceptRanges" = some 4 := by kernel_rfl
theorem draws : DrawSound Tryz.prog gs := draw_sound (by kernel_rfl)

theorem vars_in : ∀ (j : Nat) y, vars[j]? = some (some y) → y ∈ laid := fun j y h => by
  match j, h with
  | 0, h => simp [vars] at h
  | 1, h => simp [vars] at h
  | 2, h => simp only [vars, List.getElem?_cons_succ, List.getElem?_cons_zero, Option.some.injEq] at h; subst h; exact .tail _ (.head _)
  | 3, h => simp [vars] at h
  | 4, h => simp only [vars, List.getElem?_cons_succ, List.getElem?_cons_zero, Option.some.injEq] at h; subst h; exact .head _
  | j + 5, h => simp [vars] at h

theorem glob {W : World} (hl : laidMet Tryz.prog laid W) : Glob W (allI Tryz.prog W) gs := by
  have h4 : 4 < W.heap.size := by
    obtain ⟨ps, hv, _⟩ := hl
    obtain ⟨g, t, cs, fuel, p, k1, k2, k3, k4⟩ := laid_at hv "unicode/utf8.acceptRanges" Rows.laid_unicode_utf8_acceptRanges (.head _)
    rw [last] at k1; cases k1
    exact var_lt last k3
  rw [gs_eq]
  exact Glob.ofX hl vars_ok vars_in h4

theorem names_ok : Tri Tryz.prog gs 3 [] [] yesE := (Tri.closed draws tab_ok names_run rfl).2.mono fun v h' hx => .inl hx.1

theorem calls {W : World} (hl : laidMet Tryz.prog laid W) : Calls Tryz.prog 3 #[] W fun e W' => e = .returned (.bool true) ∧ Below W.heap.size W W' :=
  law_calls (H := Unit) (enc := fun _ => ()) (held := true) (ts := []) (ss := []) (ds := []) (ps := []) (base := 0) (G := gs) 1 rfl (fun j t v hj => by simp at hj) rfl (fun p hp => by cases hp) (fun n hn => by cases hn) (glob hl)
    fun es hes => by
      have : es = [] := hes
      subst this
      exact names_ok

set_option maxRecDepth 100000 in
theorem lifted (os : Os) (started : os.Started) (H : Type) (enc : TypeId × Value → H) :
    ReturnsInHanded {} Tryz.checked os 3 .any (fun w args => (Rows.calcNamesSpec.pre enc Tryz.prog Tryz.f3 [] false w args ∧ laidMetH Tryz.prog laid w) ∧ sizedMet enc Tryz.prog Tryz.f3 (OpenSpec.ofChange Rows.calcNamesSpec) false w args)
      (Rows.calcNamesSpec.post enc Tryz.prog Tryz.f3 false true false false) := by
  refine returnsInHanded_of_change_and (C := Tryz.checked) (X := fun w _ => laidMetH Tryz.prog laid w) (fun _ _ _ hh h => h.of_heap hh) own started (by kernel_rfl) Tryz.func3
    (ChangeSpec.witness_shaped (enc := enc) (C := Tryz.checked) (os := os) (X := fun w _ => laidMetH Tryz.prog laid w) false (World.laidAll Tryz.prog os laid) #[] 8 (World.laidAll_os _ _ _)
      (World.shaped_of_ZipB (by kernel_rfl) (by kernel_rfl)) (by kernel_rfl) (by kernel_rfl) (by kernel_rfl)
      (by rw [MakeChecks.laidMetH_plain _ _ _ (by kernel_rfl)]; exact laidMet_laidAll _ (by kernel_rfl) (by kernel_rfl))) ?_
  intro W base args ds gs0 before hval hW _ _ hL _
  have hW' := hW
  obtain ⟨p, q, hA, hV, rfl, _, _⟩ := hW
  obtain ⟨rfl, rfl⟩ := trodVars_none hV
  rw [Tryz.params3] at hA
  obtain ⟨h0, rfl, rfl⟩ := trodAll_nil hA
  obtain rfl : args = #[] := Array.toList_eq_nil_iff.1 h0
  rw [MakeChecks.laidMetH_plain _ _ _ (by kernel_rfl)] at hL
  refine (calls hL).mono fun e W' ⟨he, hb⟩ => ?_
  subst he
  exact ⟨_, rfl, _, _, _, [], [], [], hW', trodAll_mk1 (shut_bool Tryz.underlying4 _), rfl, rfl, hb.frame _, fun h => by cases h⟩

theorem over : Rows.calcNamesRow.holds Tryz.pinned (OpenSpec.ofChange Rows.calcNamesSpec) :=
  OpenClaim.holds_of_wide 3 Tryz.f3 rfl rfl rfl rfl rfl rfl rfl ⟨rfl, rfl, rfl, rfl, rfl⟩ rfl rfl rfl rfl rfl (by kernel_rfl) Tryz.func3 (by kernel_rfl)
    (of_decide_eq_true (by kernel_rfl)) (by unfold Func.isWrapper; first | (rw [if_pos (by decide +kernel)]; kernel_rfl) | (rw [if_neg (by decide +kernel)]; exact ⟨rfl, rfl⟩))
    (fun os started H enc _ => lifted os started H enc)

/-- ████ THE STATEMENT ████ -/
theorem proved : Rows.CalcNamesCardSaid :=
  Claim7.holds_tied_plain_at .later [] [.data, .data, .pinned] true (true, "53933424896eb17dc5325eeac3155a8a52efc851b8d211c6ed98f5d34ef6eea2") true
    over (fun _ h => by cases h) (by kernel_rfl) (fun _ h => by cases h) calcNames_row_tie rfl ⟨rfl, rfl⟩ (by kernel_rfl) rfl
    (fun f fn hf hfn => by
      obtain rfl : f = 3 := Option.some.inj ((show Tryz.prog.funcNamed "colonnade/colonnadelaw17.CalcNames" = some 3 by kernel_rfl).symm.trans hf) |>.symm
      obtain rfl : fn = Tryz.f3 := (Option.some.inj (Tryz.func3.symm.trans hfn)).symm
      exact ⟨by kernel_rfl, fun j t ht => by
        rw [Tryz.params3] at ht
        simp at ht⟩)
    (by kernel_rfl)
#print axioms proved
end Go.Proofs.YtdgfcgadefodfaaGreatDoor.calcNames
