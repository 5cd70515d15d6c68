/- Floating-point numbers are reckoned to the last bit: the call of CalcFloats answers true, on every schedule, wherever the listed variables hold what the program's text lays; the arguments read as they read before. No conditions. -/
import Derived.Test.YtkjhfefbklcciaaGreatDoorRows
import Derived.Test.YtkjhfefbklcciaaGreatDoorTie
import Derived.Test.YtkjhfefbklcciaaGreatDoorCards
import Derived.Test.YtkjhfefbklcciaaGreatDoorX28
import Derived.Test.YtkjhfefbklcciaaGreatDoorMd
import Derived.WalkKit
import Derived.ProofKit
import Derived.OpenShut
import Derived.ChangeOld
import Derived.Below
import Derived.LaidMore
import Derived.Lay
import Derived.Handed
import Derived.SevenTiedAt
set_option linter.unusedVariables false
namespace Go.Proofs.YtkjhfefbklcciaaGreatDoor.calcFloats
open Go.ChangeShapes Go.WideShapes Go.ChangeAt Go.RowKit Go.Proofs.YtkjhfefbklcciaaGreatDoor.Em Go.Proofs.YtkjhfefbklcciaaGreatDoor.Stats
theorem own : ownKnob Tryz.prog.godebug = none := by kernel_rfl
theorem laidOut : laidOutB Tryz.prog = true := by kernel_rfl
def laid : List (String × DataW Unit) := Rows.calcFloatsRow.laid
def vars : List (Option (String × DataW Unit)) := [none, none, some ("colonnade/kind.says", Rows.laid_colonnade_kind_says), some ("unicode/utf8.first", Rows.laid_unicode_utf8_first), some ("unicode/utf8.acceptRanges", Rows.laid_unicode_utf8_acceptRanges)]
theorem gs_eq : gs = K2 vars := by kernel_rfl
theorem vars_ok : okX Tryz.prog 4 0 vars = true := by kernel_rfl
theorem last : Tryz.prog.globalNamed "unicode/utf8.acceptRanges" = some 4 := by kernel_rfl
theorem vars_in : ∀ (j : Nat) y, vars[j]? = some (some y) → y ∈ laid := fun j y h => by
  match j, h with
  | 0, h => simp [vars] at h
  | 1, h => simp [vars] at h
  | 2, h => simp only [vars, List.getElem?_cons_succ, List.getElem?_cons_zero, Option.some.injEq] at h; subst h; exact .tail _ (.head _)
  | 3, h => simp only [vars, List.getElem?_cons_succ, List.getElem?_cons_zero, Option.some.injEq] at h; subst h; exact .tail _ (.tail _ (.head _))
  | 4, h => simp only [vars, List.getElem?_cons_succ, List.getElem?_cons_zero, Option.some.injEq] at h; subst h; exact .head _
  | j + 5, h => simp [vars] at h
theorem glob {W : World} (hl : laidMet Tryz.prog laid W) : Glob W (Gf Tryz.prog W) gs := by
  have h4 : 4 < W.heap.size := by
    obtain ⟨ps, hv, _⟩ := hl
    obtain ⟨g, t, cs, fuel, p, k1, k2, k3, k4⟩ := HJ hv "unicode/utf8.acceptRanges" Rows.laid_unicode_utf8_acceptRanges (.head _)
    rw [last] at k1; cases k1
    exact V1 last k3
  rw [gs_eq]
  exact Glob.ofX hl vars_ok vars_in h4
theorem words_of : ∀ l : List EV, (∀ i, i < l.length → ∃ n : Int, (l.drop i).take 1 = [.lit (.int .u64 n)]) → ∃ ws : List Int, l = CD ws
  | [], _ => ⟨[], rfl⟩
  | x :: l, h => by
    obtain ⟨n, hn⟩ := h 0 (by simp)
    obtain ⟨ws, hw⟩ := words_of l fun i hi => by
      have := h (i + 1) (by simpa using hi)
      simpa using this
    refine ⟨n :: ws, ?_⟩
    simp at hn
    rw [hw, hn]; rfl
theorem words_arg {e : EV} (h : IH (.slice 1 (.int .u64)) e) : ∃ ws : List Int, e = .isl ws.length none (CD ws) ∧ ws.length ≤ 140737488351232 := by
  obtain ⟨len, l, he, h1, h2, h3⟩ := h
  cases he
  obtain ⟨ws, rfl⟩ := words_of l fun i hi => by
    obtain ⟨n, hn, _⟩ := h3 i (by omega)
    rw [Nat.mul_one] at hn
    exact ⟨n, hn⟩
  rw [NZ, Nat.mul_one] at h2
  subst h2
  exact ⟨ws, rfl, h1⟩
theorem law : ∀ es, Iw [.slice 1 (.int .u64), .slice 1 (.int .u64)] es → Tri Tryz.prog gs 3 es [] Kn := by
  rintro es ⟨x, _, rfl, h1, y, _, rfl, h2, rfl⟩
  obtain ⟨wa, rfl, ha⟩ := words_arg h1
  obtain ⟨wb, rfl, hb⟩ := words_arg h2
  exact Tv wa wb (by omega) (by omega)
set_option maxRecDepth 100000 in
theorem lifted (os : Os) (started : os.Started) (H : Type) (enc : TypeId × Value → H) :
    ReturnsInHanded {} Tryz.checked os 3 .any (fun w args => (Rows.calcFloatsSpec.pre enc Tryz.prog Tryz.f3 [] false w args ∧ laidMetH Tryz.prog laid w) ∧ sizedMet enc Tryz.prog Tryz.f3 (OpenSpec.ofChange Rows.calcFloatsSpec) false w args)
      (Rows.calcFloatsSpec.post enc Tryz.prog Tryz.f3 false true false false) := by
  refine returnsInHanded_of_change_and (C := Tryz.checked) (X := fun w _ => laidMetH Tryz.prog laid w) (fun _ _ _ hh h => h.of_heap hh) own started (by kernel_rfl) Tryz.func3
    (ChangeSpec.witness_shaped (enc := enc) (C := Tryz.checked) (os := os) (X := fun w _ => laidMetH Tryz.prog laid w) false (World.laidAll Tryz.prog os laid)
      #[.slice none 0 0, .slice none 0 0] 8 (World.laidAll_os _ _ _)
      (World.shaped_of_ZipB (by kernel_rfl) (by kernel_rfl)) (by kernel_rfl) (by kernel_rfl) (by kernel_rfl)
      (by rw [MakeChecks.laidMetH_plain _ _ _ (by kernel_rfl)]; exact laidMet_laidAll _ (by kernel_rfl) (by kernel_rfl))) ?_
  intro W base args ds gs0 before hval hW hcnd hwt hL _
  have hW' := hW
  obtain ⟨p, q, hA, hV, rfl, _, _⟩ := hW
  obtain ⟨rfl, rfl⟩ := trodVars_none hV
  have lt0 := Pe hA
  have hwt2 : (DataW.weightsEach Tryz.prog (Tryz.f3.params.toList ++ []) (ds ++ [])).all (· ≤ reachBytes) = true := hwt
  rw [List.append_nil, List.append_nil] at hwt2
  have hwt' : ∀ n ∈ DataW.weightsEach Tryz.prog Tryz.f3.params.toList ds, n ≤ reachBytes := fun n hn => by
    simpa using List.all_eq_true.1 hwt2 n hn
  rw [MakeChecks.laidMetH_plain _ _ _ (by kernel_rfl)] at hL
  have hps : Tryz.f3.params.toList = [22, 22] := by kernel_rfl
  have hs : Tryz.f3.params.toList.mapM (Cu Tryz.prog 10) = some [.slice 1 (.int .u64), .slice 1 (.int .u64)] := by kernel_rfl
  refine (R0 10 hs (fun j t v hj hv => hval j t v (by rw [← Array.getElem?_toList]; exact hj) hv) hA lt0 hwt' (glob hL) law).mono fun e W' ⟨he, bel⟩ => ?_
  subst he
  have hargs := PA (P := Tryz.prog) laidOut bel (by kernel_rfl) hA lt0
  have hn : ∃ d, Rows.calcFloatsSpec.fn H (ds ++ []) = { results := [.lit (.bool true)], args := ds } := ⟨(), by
    clear hW' hval lt0 bel
    rw [hps] at hA
    repeat (first | (obtain ⟨_, _, _, _, _, _, _, rfl, rfl, _, hA⟩ := trodAll_cons hA) | (obtain ⟨_, rfl, rfl⟩ := trodAll_nil hA))
    rfl⟩
  obtain ⟨_, hn⟩ := hn
  refine ⟨_, rfl, _, _, _, [], p, [], hW', ?_, ?_, ?_, bel.frame _, fun h => by cases h⟩
  · rw [hn]; exact trodAll_mk1 (shut_bool Tryz.underlying4 _)
  · rw [hn]; exact hargs
  · rw [hn]; rfl
/-! what the row tells of the program, fact by fact -/
theorem c_lo : laidOutB Tryz.pinned.checked.prog = true := laidOut
theorem c_mr : mapsRowed Tryz.pinned.checked.prog = true := by kernel_rfl
theorem c_inp : (Rows.calcFloatsRow.inPlace == Tryz.pinned.checked.prog.inPlace 3) = true := by kernel_rfl
theorem c_unf : (Rows.calcFloatsRow.unfollowed == Tryz.pinned.checked.prog.unfollowed 3) = true := by kernel_rfl
theorem c_rec : (Rows.calcFloatsRow.recurses == Tryz.pinned.checked.prog.recurses 3) = true := by kernel_rfl
theorem c_nam : (Rows.calcFloatsRow.named == Tryz.pinned.checked.prog.varsNamed 3) = true := by kernel_rfl
theorem c_sh : Tryz.pinned.checked.prog.stopsHeard = true := by kernel_rfl
theorem c_me : Tryz.pinned.checked.prog.mayEnter = true := by kernel_rfl
theorem c_pk : (Rows.calcFloatsRow.plainKeys == Tryz.pinned.checked.prog.plainKeys) = true := by kernel_rfl
theorem closed : joinedFacts Tryz.pinned.checked.prog 3 Tryz.f3 Rows.calcFloatsSpec Rows.calcFloatsRow = true := by
  unfold joinedFacts
  simp only [Bool.and_eq_true]
  refine ⟨⟨⟨⟨⟨⟨⟨⟨⟨⟨⟨⟨⟨⟨⟨⟨⟨⟨⟨⟨⟨⟨⟨⟨⟨⟨⟨⟨⟨⟨⟨?_, c_lo⟩, c_mr⟩, ?_⟩, ?_⟩, ?_⟩, ?_⟩, ?_⟩, ?_⟩, c_inp⟩, c_unf⟩, c_rec⟩, c_nam⟩, ?_⟩, ?_⟩, ?_⟩, ?_⟩, ?_⟩, ?_⟩, ?_⟩, ?_⟩, ?_⟩, c_pk⟩, ?_⟩, c_sh⟩, c_me⟩, ?_⟩, ?_⟩, ?_⟩, ?_⟩, ?_⟩, ?_⟩
  all_goals kernel_rfl
theorem o_fn : Tryz.pinned.checked.prog.funcNamed Rows.calcFloatsRow.func = some 3 := by kernel_rfl
theorem o_inst : Tryz.f3.isInstance Tryz.pinned.checked.prog Rows.calcFloatsRow.origin Rows.calcFloatsRow.targs := of_decide_eq_true (by kernel_rfl)
theorem o_wrap : Tryz.f3.isWrapper Tryz.pinned.checked.prog Rows.calcFloatsRow.wrapper Rows.calcFloatsRow.mainSum := by unfold Func.isWrapper; first | (rw [if_pos (by decide +kernel)]; kernel_rfl) | (rw [if_neg (by decide +kernel)]; exact ⟨rfl, rfl⟩)
theorem over : Rows.calcFloatsRow.holds Tryz.pinned (OpenSpec.ofChange Rows.calcFloatsSpec) :=
  OpenClaim.holds_of_wide 3 Tryz.f3 rfl rfl rfl rfl rfl rfl rfl ⟨rfl, rfl, rfl, rfl, rfl⟩ rfl rfl rfl rfl rfl o_fn Tryz.func3 closed o_inst o_wrap
    (fun os started H enc _ => lifted os started H enc)
theorem p_main : Tryz.pinned.checked.prog.mainIs = some ((true, "e2b980e5c0d6eb395f4bdde945741bd5c4d744e8bff0967dee22bf5e8b2d70ac").1, (true, "e2b980e5c0d6eb395f4bdde945741bd5c4d744e8bff0967dee22bf5e8b2d70ac").2.toList) := by kernel_rfl
theorem p_wf : Rows.calcFloatsRow.wfByText (OpenSpec.ofChange Rows.calcFloatsSpec) = true := by kernel_rfl
theorem p_looks : true = Tryz.pinned.checked.prog.looks [] := by kernel_rfl
theorem p_goes : false = Rows.calcFloatsRow.goesBy Tryz.pinned.checked.prog := by kernel_rfl
theorem p_fn : Tryz.pinned.checked.prog.funcNamed "colonnade/colonnadelaw17.CalcFloats" = some 3 := by kernel_rfl
theorem p_stand : [22, 22].all (fun t => !Tryz.pinned.checked.prog.wantsStandIn t) = true := by kernel_rfl
/-- ████ THE STATEMENT ████ -/
theorem proved : Rows.CalcFloatsCardSaid :=
  Claim7.holds_tied_plain_at .later [] [.data, .data, .pinned] true (true, "e2b980e5c0d6eb395f4bdde945741bd5c4d744e8bff0967dee22bf5e8b2d70ac") true
    over (fun _ h => by cases h) p_wf (fun _ h => by cases h) calcFloats_row_tie rfl ⟨rfl, rfl⟩ p_main rfl
    (fun f fn hf hfn => by
      obtain rfl : f = 3 := Option.some.inj (p_fn.symm.trans hf) |>.symm
      obtain rfl : fn = Tryz.f3 := (Option.some.inj (Tryz.func3.symm.trans hfn)).symm
      exact ⟨p_looks, fun j t ht => by
        rw [Tryz.params3] at ht
        have hm : t ∈ [22, 22] := List.mem_of_getElem? (i := j) (by rw [← ht]; simp)
        show Tryz.pinned.checked.prog.wantsStandIn t = false
        simpa using List.all_eq_true.1 p_stand t hm⟩)
    p_goes
#print axioms proved
end Go.Proofs.YtkjhfefbklcciaaGreatDoor.calcFloats
