/- What operations make of fields: the call of CalcTypes answers true, on every schedule, wherever the listed variables hold what the program's text lays; the arguments read as they read before. No conditions. -/
import Derived.Test.YtmckingimnhoaaaGreatDoorRows
import Derived.Test.YtmckingimnhoaaaGreatDoorTie
import Derived.Test.YtmckingimnhoaaaGreatDoorCards
import Derived.Test.YtmckingimnhoaaaGreatDoorX28
import Derived.Test.YtmckingimnhoaaaGreatDoorMh
import Derived.WalkKit
import Derived.ProofKit
import Derived.OpenShut
import Derived.ChangeOld
import Derived.Below
import Derived.LaidMore
import Derived.Lay
import Derived.Handed
import Derived.SevenTiedAt
set_option linter.unusedVariables false
namespace Go.Proofs.YtmckingimnhoaaaGreatDoor.calcTypes
open Go.ChangeShapes Go.WideShapes Go.ChangeAt Go.RowKit Go.Proofs.YtmckingimnhoaaaGreatDoor.Em Go.Proofs.YtmckingimnhoaaaGreatDoor.Stats
theorem own : ownKnob Tryz.prog.godebug = none := by kernel_rfl
theorem laidOut : laidOutB Tryz.prog = true := by kernel_rfl
def laid : List (String × DataW Unit) := Rows.calcTypesRow.laid
def vars : List (Option (String × DataW Unit)) := [none, some ("colonnade/kind.says", Rows.laid_colonnade_kind_says), none, none, some ("unicode/utf8.acceptRanges", Rows.laid_unicode_utf8_acceptRanges)]
theorem gs_eq : gs = varsG vars := by kernel_rfl
theorem vars_ok : okX Tryz.prog 4 0 vars = true := by kernel_rfl
theorem last : Tryz.prog.globalNamed "unicode/utf8.acceptRanges" = some 4 := by kernel_rfl
theorem vars_in : ∀ (j : Nat) y, vars[j]? = some (some y) → y ∈ laid := fun j y h => by
  match j, h with
  | 0, h => simp [vars] at h
  | 1, h => simp only [vars, List.getElem?_cons_succ, List.getElem?_cons_zero, Option.some.injEq] at h; subst h; exact .tail _ (.head _)
  | 2, h => simp [vars] at h
  | 3, h => simp [vars] at h
  | 4, h => simp only [vars, List.getElem?_cons_succ, List.getElem?_cons_zero, Option.some.injEq] at h; subst h; exact .head _
  | j + 5, h => simp [vars] at h
theorem glob {W : World} (hl : laidMet Tryz.prog laid W) : Glob W (allI Tryz.prog W) gs := by
  have h4 : 4 < W.heap.size := by
    obtain ⟨ps, hv, _⟩ := hl
    obtain ⟨g, t, cs, fuel, p, k1, k2, k3, k4⟩ := laid_at hv "unicode/utf8.acceptRanges" Rows.laid_unicode_utf8_acceptRanges (.head _)
    rw [last] at k1; cases k1
    exact var_lt last k3
  rw [gs_eq]
  exact Glob.ofX hl vars_ok vars_in h4
theorem law : ∀ es, HasAs Tryz.prog [3, 22] es → Tri Tryz.prog gs 3 es [] yesE := by
  rintro es ⟨x, _, rfl, ⟨m1, c1, t1, _, s1⟩, y, _, rfl, ⟨m2, c2, t2, _, s2⟩, rfl⟩
  have e1 := s1 (fun fs h => by rw [Tryz.underlying3] at h; cases h)
  have e2 := s2 (fun fs h => by rw [Tryz.underlying22] at h; cases h)
  subst e1; subst e2
  obtain ⟨op, e3, q1⟩ := HasT.int Tryz.underlying3 t1
  obtain ⟨m3, len, l, rfl, e4, q3, hl, hk⟩ := HasT.slice Tryz.underlying22 cells_field t2
  obtain ⟨fs, k1, k2, k3⟩ := pieces_of (n := 7) (cells := cellsF) (cellss := cellsFs) (ok := okF) (oks := okFs) rfl (fun _ _ => rfl) trivial (fun _ _ a b => ⟨a, b⟩) len l hl (fun i hi => hasFld _ _ (hk i hi))
  obtain rfl : x = _ := by simpa using e3
  obtain rfl : y = _ := by simpa using e4
  have hop : i64r op := q1
  refine Tri.mono (R := fun v h' => IsP True v ∧ h' = []) (by rw [← k1, k2]; exact types_ok op hop fs (by omega) k3 []) fun v h' hx => ?_
  obtain ⟨⟨b, hv, hb⟩, _⟩ := hx
  exact .inr (by rw [hv, hb.2 trivial])
set_option maxRecDepth 100000 in
theorem lifted (os : Os) (started : os.Started) (H : Type) (enc : TypeId × Value → H) :
    ReturnsInHanded {} Tryz.checked os 3 .any (fun w args => (Rows.calcTypesSpec.pre enc Tryz.prog Tryz.f3 [] false w args ∧ laidMetH Tryz.prog laid w) ∧ sizedMet enc Tryz.prog Tryz.f3 (OpenSpec.ofChange Rows.calcTypesSpec) false w args)
      (Rows.calcTypesSpec.post enc Tryz.prog Tryz.f3 false true false false) := by
  refine returnsInHanded_of_change_and (C := Tryz.checked) (X := fun w _ => laidMetH Tryz.prog laid w) (fun _ _ _ hh h => h.of_heap hh) own started (by kernel_rfl) Tryz.func3
    (ChangeSpec.witness_shaped (enc := enc) (C := Tryz.checked) (os := os) (X := fun w _ => laidMetH Tryz.prog laid w) false (World.laidAll Tryz.prog os laid)
      #[.int .i64 0, .slice none 0 0] 8 (World.laidAll_os _ _ _)
      (World.shaped_of_ZipB (by kernel_rfl) (by kernel_rfl)) (by kernel_rfl) (by kernel_rfl) (by kernel_rfl)
      (by rw [MakeChecks.laidMetH_plain _ _ _ (by kernel_rfl)]; exact laidMet_laidAll _ (by kernel_rfl) (by kernel_rfl))) ?_
  intro W base args ds gs0 before hval hW hcnd hwt hL _
  have hW' := hW
  obtain ⟨p, q, hA, hV, rfl, _, _⟩ := hW
  obtain ⟨rfl, rfl⟩ := trodVars_none hV
  have lt0 := trodAll_lt hA
  have hwt2 : (DataW.weightsEach Tryz.prog (Tryz.f3.params.toList ++ []) (ds ++ [])).all (· ≤ reachBytes) = true := hwt
  rw [List.append_nil, List.append_nil] at hwt2
  have hwt' : ∀ n ∈ DataW.weightsEach Tryz.prog Tryz.f3.params.toList ds, n ≤ reachBytes := fun n hn => by
    simpa using List.all_eq_true.1 hwt2 n hn
  rw [MakeChecks.laidMetH_plain _ _ _ (by kernel_rfl)] at hL
  have hps : Tryz.f3.params.toList = [3, 22] := by kernel_rfl
  refine (lawT_calls tys_ok (ts := Tryz.f3.params.toList) (fun t ht => by
      rw [hps] at ht
      have : [3, 22].all (tys.contains ·) = true := by kernel_rfl
      simpa using List.all_eq_true.1 this t ht) (fun j t v hj hv => hval j t v (by rw [← Array.getElem?_toList]; exact hj) hv) hA lt0 hwt' (glob hL) (by rw [hps]; exact law)).mono fun e W' ⟨he, bel⟩ => ?_
  subst he
  have hargs := trodAll_below (P := Tryz.prog) laidOut bel (by kernel_rfl) hA lt0
  have hn : ∃ d, Rows.calcTypesSpec.fn H (ds ++ []) = { results := [.lit (.bool true)], args := ds } := ⟨(), by
    clear hW' hval lt0 bel
    rw [hps] at hA
    repeat (first | (obtain ⟨_, _, _, _, _, _, _, rfl, rfl, _, hA⟩ := trodAll_cons hA) | (obtain ⟨_, rfl, rfl⟩ := trodAll_nil hA))
    rfl⟩
  obtain ⟨_, hn⟩ := hn
  refine ⟨_, rfl, _, _, _, [], p, [], hW', ?_, ?_, ?_, bel.frame _, fun h => by cases h⟩
  · rw [hn]; exact trodAll_mk1 (shut_bool Tryz.underlying4 _)
  · rw [hn]; exact hargs
  · rw [hn]; rfl
theorem over : Rows.calcTypesRow.holds Tryz.pinned (OpenSpec.ofChange Rows.calcTypesSpec) :=
  OpenClaim.holds_of_wide 3 Tryz.f3 rfl rfl rfl rfl rfl rfl rfl ⟨rfl, rfl, rfl, rfl, rfl⟩ rfl rfl rfl rfl rfl (by kernel_rfl) Tryz.func3 (by kernel_rfl)
    (of_decide_eq_true (by kernel_rfl)) (by unfold Func.isWrapper; first | (rw [if_pos (by decide +kernel)]; kernel_rfl) | (rw [if_neg (by decide +kernel)]; exact ⟨rfl, rfl⟩))
    (fun os started H enc _ => lifted os started H enc)
/-- ████ THE STATEMENT ████ -/
theorem proved : Rows.CalcTypesCardSaid :=
  Claim7.holds_tied_plain_at .later [] [.data, .data, .pinned] true (true, "3265d9d242d4e3056b65537116885602c142b6430d5009f0635d226d2f725c1e") true
    over (fun _ h => by cases h) (by kernel_rfl) (fun _ h => by cases h) calcTypes_row_tie rfl ⟨rfl, rfl⟩ (by kernel_rfl) rfl
    (fun f fn hf hfn => by
      obtain rfl : f = 3 := Option.some.inj ((show Tryz.prog.funcNamed "colonnade/colonnadelaw17.CalcTypes" = some 3 by kernel_rfl).symm.trans hf) |>.symm
      obtain rfl : fn = Tryz.f3 := (Option.some.inj (Tryz.func3.symm.trans hfn)).symm
      exact ⟨by kernel_rfl, fun j t ht => by
        rw [Tryz.params3] at ht
        have hall : [3, 22].all (fun t => !Tryz.prog.wantsStandIn t) = true := by kernel_rfl
        have hm : t ∈ [3, 22] := List.mem_of_getElem? (i := j) (by rw [← ht]; simp)
        show Tryz.prog.wantsStandIn t = false
        simpa using List.all_eq_true.1 hall t hm⟩)
    (by kernel_rfl)
#print axioms proved
end Go.Proofs.YtmckingimnhoaaaGreatDoor.calcTypes
