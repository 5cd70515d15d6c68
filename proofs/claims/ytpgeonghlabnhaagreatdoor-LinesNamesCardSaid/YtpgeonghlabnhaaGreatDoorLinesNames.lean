/- The call of LinesNames answers true, on every schedule, wherever the listed variables hold what the program's text lays. No conditions. -/
import Derived.Test.YtpgeonghlabnhaaGreatDoorRows
import Derived.Test.YtpgeonghlabnhaaGreatDoorTie
import Derived.Test.YtpgeonghlabnhaaGreatDoorCards
import Derived.Test.YtpgeonghlabnhaaGreatDoorEm52
import Derived.Test.YtpgeonghlabnhaaGreatDoorLc7
import Derived.WalkKit
import Derived.ProofKit
import Derived.OpenShut
import Derived.ChangeOld
import Derived.Below
import Derived.LaidMore
import Derived.Lay
import Derived.Handed
import Derived.SevenTiedAt
set_option linter.unusedVariables false
namespace Go.Proofs.YtpgeonghlabnhaaGreatDoor.linesNames
open Go.ChangeShapes Go.WideShapes Go.ChangeAt Go.RowKit Go.Proofs.YtpgeonghlabnhaaGreatDoor.Em Go.Proofs.YtpgeonghlabnhaaGreatDoor.Lin
theorem own : ownKnob Tryz.prog.godebug = none := by kernel_rfl
theorem laidOut : laidOutB Tryz.prog = true := by kernel_rfl
def laid : List (String × DataW Unit) := Rows.linesNamesRow.laid
def errD (l : List UInt8) : DataW Unit := .ptr (.agg [.lit (.string l)])
def vars : List VG := [.flat ("unicode/utf8.first", Rows.laid_unicode_utf8_first), .flat ("unicode/utf8.acceptRanges", Rows.laid_unicode_utf8_acceptRanges), .flat ("colonnade/kind.says", Rows.laid_colonnade_kind_says), .no,
  .flat ("internal/strconv.uint64pow10", Rows.laid_internal_strconv_uint64pow10), .sent "strconv.ErrSyntax" "errors.errorString" 386 (errD [105, 110, 118, 97, 108, 105, 100, 32, 115, 121, 110, 116, 97, 120]),
  .sent "strconv.ErrRange" "errors.errorString" 386 (errD [118, 97, 108, 117, 101, 32, 111, 117, 116, 32, 111, 102, 32, 114, 97, 110, 103, 101]),
  .flat ("math/bits.deBruijn32tab", Rows.laid_math_bits_deBruijn32tab), .flat ("math/bits.deBruijn64tab", Rows.laid_math_bits_deBruijn64tab)]
theorem gs_eq : gs = vars.map VG.g := by kernel_rfl
theorem vars_ok : okS Tryz.prog 4 0 vars = true := by kernel_rfl
theorem last : Tryz.prog.globalNamed "math/bits.deBruijn64tab" = some 8 := by kernel_rfl
theorem laid_eq : laid = [("math/bits.deBruijn32tab", Rows.laid_math_bits_deBruijn32tab), ("math/bits.deBruijn64tab", Rows.laid_math_bits_deBruijn64tab), ("internal/strconv.uint64pow10", Rows.laid_internal_strconv_uint64pow10),
  ("unicode/utf8.acceptRanges", Rows.laid_unicode_utf8_acceptRanges), ("strconv.ErrRange", Rows.laid_strconv_ErrRange), ("strconv.ErrSyntax", Rows.laid_strconv_ErrSyntax), ("colonnade/kind.says", Rows.laid_colonnade_kind_says), ("unicode/utf8.first", Rows.laid_unicode_utf8_first)] := rfl
theorem star : "*" ++ "errors.errorString" = "*errors.errorString" := by decide
theorem e_syn : (("strconv.ErrSyntax", DataW.iface ("*" ++ "errors.errorString") (errD [105, 110, 118, 97, 108, 105, 100, 32, 115, 121, 110, 116, 97, 120])) : String × DataW Unit) = ("strconv.ErrSyntax", Rows.laid_strconv_ErrSyntax) := by rw [star]; rfl
theorem e_rng : (("strconv.ErrRange", DataW.iface ("*" ++ "errors.errorString") (errD [118, 97, 108, 117, 101, 32, 111, 117, 116, 32, 111, 102, 32, 114, 97, 110, 103, 101])) : String × DataW Unit) = ("strconv.ErrRange", Rows.laid_strconv_ErrRange) := by rw [star]; rfl
theorem vars_in : ∀ (j : Nat) x y, vars[j]? = some x → x.y = some y → y ∈ laid := fun j x y h hy => by
  have hm : x ∈ vars := List.mem_of_getElem? h
  have all : ∀ x ∈ vars, ∀ y, x.y = some y → y ∈ laid := by
    rw [laid_eq]
    unfold vars
    intro x hx y hy
    simp only [List.mem_cons, List.not_mem_nil, or_false] at hx
    rcases hx with rfl | rfl | rfl | rfl | rfl | rfl | rfl | rfl | rfl
    all_goals (simp only [VG.y, Option.some.injEq, reduceCtorEq] at hy)
    · subst hy; exact .tail _ (.tail _ (.tail _ (.tail _ (.tail _ (.tail _ (.tail _ (.head _)))))))
    · subst hy; exact .tail _ (.tail _ (.tail _ (.head _)))
    · subst hy; exact .tail _ (.tail _ (.tail _ (.tail _ (.tail _ (.tail _ (.head _))))))
    · subst hy; exact .tail _ (.tail _ (.head _))
    · subst hy; rw [e_syn]; exact .tail _ (.tail _ (.tail _ (.tail _ (.tail _ (.head _)))))
    · subst hy; rw [e_rng]; exact .tail _ (.tail _ (.tail _ (.tail _ (.head _))))
    · subst hy; exact .head _
    · subst hy; exact .tail _ (.head _)
  exact all x hm y hy
theorem glob {W : World} (hl : laidMet Tryz.prog laid W) : Glob W (allI Tryz.prog W) gs := by
  have h8 : 8 < W.heap.size := by
    obtain ⟨ps, hv, _⟩ := hl
    obtain ⟨g, t, cs, fuel, p, k1, k2, k3, k4⟩ := laid_at hv "math/bits.deBruijn64tab" Rows.laid_math_bits_deBruijn64tab (.tail _ (.head _))
    rw [last] at k1; cases k1
    exact var_lt last k3
  rw [gs_eq]
  exact Glob.ofS hl vars_ok vars_in h8
theorem names_ok : Tri Tryz.prog gs 3 [] [] yesE := names_run.mono fun v h' hx => .inr hx.1
theorem calls {W : World} (hl : laidMet Tryz.prog laid W) : Calls Tryz.prog 3 #[] W fun e W' => e = .returned (.bool true) ∧ Below W.heap.size W W' :=
  law_calls (H := Unit) (enc := fun _ => ()) (held := true) (ts := []) (ss := []) (ds := []) (ps := []) (base := 0) (G := gs) 1 rfl (fun j t v hj => by simp at hj) rfl (fun p hp => by cases hp) (fun n hn => by cases hn) (glob hl)
    fun es hes => by
      have : es = [] := hes
      subst this
      exact names_ok
set_option maxRecDepth 100000 in
theorem lifted (os : Os) (started : os.Started) (H : Type) (enc : TypeId × Value → H) :
    ReturnsInHanded {} Tryz.checked os 3 .any (fun w args => (Rows.linesNamesSpec.pre enc Tryz.prog Tryz.f3 [] false w args ∧ laidMetH Tryz.prog laid w) ∧ sizedMet enc Tryz.prog Tryz.f3 (OpenSpec.ofChange Rows.linesNamesSpec) false w args)
      (Rows.linesNamesSpec.post enc Tryz.prog Tryz.f3 false true false false) := by
  refine returnsInHanded_of_change_and (C := Tryz.checked) (X := fun w _ => laidMetH Tryz.prog laid w) (fun _ _ _ hh h => h.of_heap hh) own started (by kernel_rfl) Tryz.func3
    (ChangeSpec.witness_shaped (enc := enc) (C := Tryz.checked) (os := os) (X := fun w _ => laidMetH Tryz.prog laid w) false (World.laidAll Tryz.prog os laid) #[] 8 (World.laidAll_os _ _ _)
      (World.shaped_of_ZipB (by kernel_rfl) (by kernel_rfl)) (by kernel_rfl) (by kernel_rfl) (by kernel_rfl)
      (by rw [MakeChecks.laidMetH_plain _ _ _ (by kernel_rfl)]; exact laidMet_laidAll _ (by kernel_rfl) (by kernel_rfl))) ?_
  intro W base args ds gs0 before hval hW _ _ hL _
  have hW' := hW
  obtain ⟨p, q, hA, hV, rfl, _, _⟩ := hW
  obtain ⟨rfl, rfl⟩ := trodVars_none hV
  rw [Tryz.params3] at hA
  obtain ⟨h0, rfl, rfl⟩ := trodAll_nil hA
  obtain rfl : args = #[] := Array.toList_eq_nil_iff.1 h0
  rw [MakeChecks.laidMetH_plain _ _ _ (by kernel_rfl)] at hL
  refine (calls hL).mono fun e W' ⟨he, hb⟩ => ?_
  subst he
  exact ⟨_, rfl, _, _, _, [], [], [], hW', trodAll_mk1 (shut_bool Tryz.underlying4 _), rfl, rfl, hb.frame _, fun h => by cases h⟩
/-! what the row tells of the program, fact by fact -/
theorem c_lo : laidOutB Tryz.pinned.checked.prog = true := laidOut
theorem c_mr : mapsRowed Tryz.pinned.checked.prog = true := by kernel_rfl
theorem c_inp : (Rows.linesNamesRow.inPlace == Tryz.pinned.checked.prog.inPlace 3) = true := by kernel_rfl
theorem c_unf : (Rows.linesNamesRow.unfollowed == Tryz.pinned.checked.prog.unfollowed 3) = true := by kernel_rfl
theorem c_rec : (Rows.linesNamesRow.recurses == Tryz.pinned.checked.prog.recurses 3) = true := by kernel_rfl
theorem c_nam : (Rows.linesNamesRow.named == Tryz.pinned.checked.prog.varsNamed 3) = true := by kernel_rfl
theorem c_sh : Tryz.pinned.checked.prog.stopsHeard = true := by kernel_rfl
theorem c_me : Tryz.pinned.checked.prog.mayEnter = true := by kernel_rfl
theorem c_pk : (Rows.linesNamesRow.plainKeys == Tryz.pinned.checked.prog.plainKeys) = true := by kernel_rfl
theorem closed : joinedFacts Tryz.pinned.checked.prog 3 Tryz.f3 Rows.linesNamesSpec Rows.linesNamesRow = true := by
  unfold joinedFacts
  simp only [Bool.and_eq_true]
  refine ⟨⟨⟨⟨⟨⟨⟨⟨⟨⟨⟨⟨⟨⟨⟨⟨⟨⟨⟨⟨⟨⟨⟨⟨⟨⟨⟨⟨⟨⟨⟨?_, c_lo⟩, c_mr⟩, ?_⟩, ?_⟩, ?_⟩, ?_⟩, ?_⟩, ?_⟩, c_inp⟩, c_unf⟩, c_rec⟩, c_nam⟩, ?_⟩, ?_⟩, ?_⟩, ?_⟩, ?_⟩, ?_⟩, ?_⟩, ?_⟩, ?_⟩, c_pk⟩, ?_⟩, c_sh⟩, c_me⟩, ?_⟩, ?_⟩, ?_⟩, ?_⟩, ?_⟩, ?_⟩
  all_goals kernel_rfl
theorem o_fn : Tryz.pinned.checked.prog.funcNamed Rows.linesNamesRow.func = some 3 := by kernel_rfl
theorem o_inst : Tryz.f3.isInstance Tryz.pinned.checked.prog Rows.linesNamesRow.origin Rows.linesNamesRow.targs := of_decide_eq_true (by kernel_rfl)
theorem o_wrap : Tryz.f3.isWrapper Tryz.pinned.checked.prog Rows.linesNamesRow.wrapper Rows.linesNamesRow.mainSum := by unfold Func.isWrapper; first | (rw [if_pos (by decide +kernel)]; kernel_rfl) | (rw [if_neg (by decide +kernel)]; exact ⟨rfl, rfl⟩)
theorem over : Rows.linesNamesRow.holds Tryz.pinned (OpenSpec.ofChange Rows.linesNamesSpec) :=
  OpenClaim.holds_of_wide 3 Tryz.f3 rfl rfl rfl rfl rfl rfl rfl ⟨rfl, rfl, rfl, rfl, rfl⟩ rfl rfl rfl rfl rfl o_fn Tryz.func3 closed o_inst o_wrap
    (fun os started H enc _ => lifted os started H enc)
theorem p_main : Tryz.pinned.checked.prog.mainIs = some ((true, "72b2633ca2620e9c80c3aa366ccb4a0475b851ebff3de738a76c62b3597623ec").1, (true, "72b2633ca2620e9c80c3aa366ccb4a0475b851ebff3de738a76c62b3597623ec").2.toList) := by kernel_rfl
theorem p_wf : Rows.linesNamesRow.wfByText (OpenSpec.ofChange Rows.linesNamesSpec) = true := by kernel_rfl
theorem p_looks : true = Tryz.pinned.checked.prog.looks [] := by kernel_rfl
theorem p_goes : false = Rows.linesNamesRow.goesBy Tryz.pinned.checked.prog := by kernel_rfl
theorem p_fn : Tryz.pinned.checked.prog.funcNamed "colonnade/colonnadelaw25.LinesNames" = some 3 := by kernel_rfl
/-- ████ THE STATEMENT ████ -/
theorem proved : Rows.LinesNamesCardSaid :=
  Claim7.holds_tied_plain_at .later [] [.data, .data, .data, .data, .sentinel, .sentinel, .data, .pinned] true (true, "72b2633ca2620e9c80c3aa366ccb4a0475b851ebff3de738a76c62b3597623ec") true
    over (fun _ h => by cases h) p_wf (fun _ h => by cases h) linesNames_row_tie rfl ⟨rfl, rfl⟩ p_main rfl
    (fun f fn hf hfn => by
      obtain rfl : f = 3 := Option.some.inj (p_fn.symm.trans hf) |>.symm
      obtain rfl : fn = Tryz.f3 := (Option.some.inj (Tryz.func3.symm.trans hfn)).symm
      exact ⟨p_looks, fun j t ht => by
        rw [Tryz.params3] at ht
        simp at ht⟩)
    p_goes
#print axioms proved
end Go.Proofs.YtpgeonghlabnhaaGreatDoor.linesNames
