/- What is known of an array holds of each of its values, and of two arrays' values together: the call of StatsHold answers true, on every schedule, wherever the listed variables hold what the program's text lays; the arguments read as they read before. No conditions. -/
import Derived.Test.YtehgpabfgjofhaaGreatDoorRows
import Derived.Test.YtehgpabfgjofhaaGreatDoorTie
import Derived.Test.YtehgpabfgjofhaaGreatDoorCards
import Derived.Test.YtehgpabfgjofhaaGreatDoorX28
import Derived.Test.YtehgpabfgjofhaaGreatDoorMg
import Derived.WalkKit
import Derived.ProofKit
import Derived.OpenShut
import Derived.ChangeOld
import Derived.Below
import Derived.LaidMore
import Derived.Lay
import Derived.Handed
import Derived.SevenTiedAt
set_option linter.unusedVariables false
namespace Go.Proofs.YtehgpabfgjofhaaGreatDoor.statsHold
open Go.ChangeShapes Go.WideShapes Go.ChangeAt Go.RowKit Go.Proofs.YtehgpabfgjofhaaGreatDoor.Em Go.Proofs.YtehgpabfgjofhaaGreatDoor.Stats
theorem own : ownKnob Tryz.prog.godebug = none := by kernel_rfl
theorem laidOut : laidOutB Tryz.prog = true := by kernel_rfl
def laid : List (String × DataW Unit) := Rows.statsHoldRow.laid
def vars : List (Option (String × DataW Unit)) := [none, some ("colonnade/kind.says", Rows.laid_colonnade_kind_says), some ("unicode/utf8.first", Rows.laid_unicode_utf8_first), some ("unicode/utf8.acceptRanges", Rows.laid_unicode_utf8_acceptRanges)]
theorem gs_eq : gs = N3 vars := by kernel_rfl
theorem vars_ok : okX Tryz.prog 3 0 vars = true := by kernel_rfl
theorem last : Tryz.prog.globalNamed "unicode/utf8.acceptRanges" = some 3 := by kernel_rfl
theorem vars_in : ∀ (j : Nat) y, vars[j]? = some (some y) → y ∈ laid := fun j y h => by
  match j, h with
  | 0, h => simp [vars] at h
  | 1, h => simp only [vars, List.getElem?_cons_succ, List.getElem?_cons_zero, Option.some.injEq] at h; subst h; exact .tail _ (.head _)
  | 2, h => simp only [vars, List.getElem?_cons_succ, List.getElem?_cons_zero, Option.some.injEq] at h; subst h; exact .tail _ (.tail _ (.head _))
  | 3, h => simp only [vars, List.getElem?_cons_succ, List.getElem?_cons_zero, Option.some.injEq] at h; subst h; exact .head _
  | j + 4, h => simp [vars] at h
theorem glob {W : World} (hl : laidMet Tryz.prog laid W) : Glob W (IP Tryz.prog W) gs := by
  have h4 : 3 < W.heap.size := by
    obtain ⟨ps, hv, _⟩ := hl
    obtain ⟨g, t, cs, fuel, p, k1, k2, k3, k4⟩ := Pq hv "unicode/utf8.acceptRanges" Rows.laid_unicode_utf8_acceptRanges (.head _)
    rw [last] at k1; cases k1
    exact Yc last k3
  rw [gs_eq]
  exact Glob.ofX hl vars_ok vars_in h4
theorem law : ∀ es, Lr Tryz.prog [26, 30, 30] es → Tri Tryz.prog gs 3 es [] Ul := by
  rintro es ⟨x, _, rfl, ⟨m1, c1, t1, s1, _⟩, y, _, rfl, ⟨m2, c2, t2, s2, _⟩, z, _, rfl, ⟨m3, c3, t3, s3, _⟩, rfl⟩
  obtain rfl := s1 ⟨_, Tryz.underlying26⟩
  obtain rfl := s2 ⟨_, Tryz.underlying30⟩
  obtain rfl := s3 ⟨_, Tryz.underlying30⟩
  obtain ⟨f, rfl, hf⟩ := zCk _ _ t1
  obtain ⟨a, rfl, ha⟩ := Uo _ _ t2
  obtain ⟨b, rfl, hb⟩ := Uo _ _ t3
  exact YT f a b hf ha hb
set_option maxRecDepth 100000 in
theorem lifted (os : Os) (started : os.Started) (H : Type) (enc : TypeId × Value → H) :
    ReturnsInHanded {} Tryz.checked os 3 .any (fun w args => (Rows.statsHoldSpec.pre enc Tryz.prog Tryz.f3 [] false w args ∧ laidMetH Tryz.prog laid w) ∧ sizedMet enc Tryz.prog Tryz.f3 (OpenSpec.ofChange Rows.statsHoldSpec) false w args)
      (Rows.statsHoldSpec.post enc Tryz.prog Tryz.f3 false true false false) := by
  refine returnsInHanded_of_change_and (C := Tryz.checked) (X := fun w _ => laidMetH Tryz.prog laid w) (fun _ _ _ hh h => h.of_heap hh) own started (by kernel_rfl) Tryz.func3
    (ChangeSpec.witness_shaped (enc := enc) (C := Tryz.checked) (os := os) (X := fun w _ => laidMetH Tryz.prog laid w) false (World.laidAll Tryz.prog os laid)
      #[.agg #[.string ⟨#[]⟩, .bool false, .int .i64 0, .int .i64 0, .int .i64 0, .int .i64 0, .slice none 0 0],
        .agg #[.int .i64 0, .int .i64 0, .int .i64 0, .slice none 0 0, .slice none 0 0, .slice none 0 0],
        .agg #[.int .i64 0, .int .i64 0, .int .i64 0, .slice none 0 0, .slice none 0 0, .slice none 0 0]] 8 (World.laidAll_os _ _ _)
      (World.shaped_of_ZipB (by kernel_rfl) (by kernel_rfl)) (by kernel_rfl) (by kernel_rfl) (by kernel_rfl)
      (by rw [MakeChecks.laidMetH_plain _ _ _ (by kernel_rfl)]; exact laidMet_laidAll _ (by kernel_rfl) (by kernel_rfl))) ?_
  intro W base args ds gs0 before hval hW hcnd hwt hL _
  have hW' := hW
  obtain ⟨p, q, hA, hV, rfl, _, _⟩ := hW
  obtain ⟨rfl, rfl⟩ := trodVars_none hV
  have lt0 := VT hA
  have hwt2 : (DataW.weightsEach Tryz.prog (Tryz.f3.params.toList ++ []) (ds ++ [])).all (· ≤ reachBytes) = true := hwt
  rw [List.append_nil, List.append_nil] at hwt2
  have hwt' : ∀ n ∈ DataW.weightsEach Tryz.prog Tryz.f3.params.toList ds, n ≤ reachBytes := fun n hn => by
    simpa using List.all_eq_true.1 hwt2 n hn
  rw [MakeChecks.laidMetH_plain _ _ _ (by kernel_rfl)] at hL
  have hps : Tryz.f3.params.toList = [26, 30, 30] := by kernel_rfl
  refine (zA8 zCP (ts := Tryz.f3.params.toList) (fun t ht => by
      rw [hps] at ht
      have : [26, 30, 30].all (tysD.contains ·) = true := by kernel_rfl
      simpa using List.all_eq_true.1 this t ht) (fun j t v hj hv => hval j t v (by rw [← Array.getElem?_toList]; exact hj) hv) hA lt0 hwt' (glob hL) (by rw [hps]; exact law)).mono fun e W' ⟨he, bel⟩ => ?_
  subst he
  have hargs := Th (P := Tryz.prog) laidOut bel (by kernel_rfl) hA lt0
  have hn : ∃ d, Rows.statsHoldSpec.fn H (ds ++ []) = { results := [.lit (.bool true)], args := ds } := ⟨(), by
    clear hW' hval lt0 bel
    rw [hps] at hA
    repeat (first | (obtain ⟨_, _, _, _, _, _, _, rfl, rfl, _, hA⟩ := trodAll_cons hA) | (obtain ⟨_, rfl, rfl⟩ := trodAll_nil hA))
    rfl⟩
  obtain ⟨_, hn⟩ := hn
  refine ⟨_, rfl, _, _, _, [], p, [], hW', ?_, ?_, ?_, bel.frame _, fun h => by cases h⟩
  · rw [hn]; exact trodAll_mk1 (shut_bool Tryz.underlying4 _)
  · rw [hn]; exact hargs
  · rw [hn]; rfl
theorem over : Rows.statsHoldRow.holds Tryz.pinned (OpenSpec.ofChange Rows.statsHoldSpec) :=
  OpenClaim.holds_of_wide 3 Tryz.f3 rfl rfl rfl rfl rfl rfl rfl ⟨rfl, rfl, rfl, rfl, rfl⟩ rfl rfl rfl rfl rfl (by kernel_rfl) Tryz.func3 (by kernel_rfl)
    (of_decide_eq_true (by kernel_rfl)) (by unfold Func.isWrapper; first | (rw [if_pos (by decide +kernel)]; kernel_rfl) | (rw [if_neg (by decide +kernel)]; exact ⟨rfl, rfl⟩))
    (fun os started H enc _ => lifted os started H enc)
/-- ████ THE STATEMENT ████ -/
theorem proved : Rows.StatsHoldCardSaid :=
  Claim7.holds_tied_plain_at .later [] [.data, .data, .pinned] true (true, "76f6e364e5236b8dbf429bf5116cb7e11dbb24eafaeae42365553079a4d56085") true
    over (fun _ h => by cases h) (by kernel_rfl) (fun _ h => by cases h) statsHold_row_tie rfl ⟨rfl, rfl⟩ (by kernel_rfl) rfl
    (fun f fn hf hfn => by
      obtain rfl : f = 3 := Option.some.inj ((show Tryz.prog.funcNamed "colonnade/colonnadelaw23.StatsHold" = some 3 by kernel_rfl).symm.trans hf) |>.symm
      obtain rfl : fn = Tryz.f3 := (Option.some.inj (Tryz.func3.symm.trans hfn)).symm
      exact ⟨by kernel_rfl, fun j t ht => by
        rw [Tryz.params3] at ht
        have hall : [26, 30, 30].all (fun t => !Tryz.prog.wantsStandIn t) = true := by kernel_rfl
        have hm : t ∈ [26, 30, 30] := List.mem_of_getElem? (i := j) (by rw [← ht]; simp)
        show Tryz.prog.wantsStandIn t = false
        simpa using List.all_eq_true.1 hall t hm⟩)
    (by kernel_rfl)
#print axioms proved
end Go.Proofs.YtehgpabfgjofhaaGreatDoor.statsHold
