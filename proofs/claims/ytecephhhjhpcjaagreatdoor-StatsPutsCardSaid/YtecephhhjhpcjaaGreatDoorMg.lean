/- YtecephhhjhpcjaaGreatDoorMg: the texts St21, St22, St23, St24, St25, Sb2, St26, St27, St28, Sh1, brought together. No conditions. -/
import Derived.Test.YtecephhhjhpcjaaGreatDoorMf
section
set_option linter.unusedVariables false
set_option linter.unusedSimpArgs false
-- emaX: s_bat
namespace Go.Proofs.YtecephhhjhpcjaaGreatDoor.Stats
open Go Go.Proofs.YtecephhhjhpcjaaGreatDoor Go.Proofs.YtecephhhjhpcjaaGreatDoor.Em
set_option maxRecDepth 100000 in
set_option maxHeartbeats 8000000 in
theorem isR_ok (f g : Fld) (hall : allF f) (hcore : Core f g) (hg : allF g) (rows nulls : Int) (has : Bool) (l m : VP) (hlo : l.ok) (hmo : m.ok) (h : EH) :
    Tri Tryz.prog gs 20 [.agg (cellsF f), .agg ([.lit (.int .i64 rows), .lit (.int .i64 nulls), .lit (.bool has)] ++ l.cells ++ m.cells)] h fun v h' => IsP (statP g.kind rows nulls has l m) v ∧ h' = h := by
  refine Tri.boolC (by rw [cellsF_eq]; rfl) (Tri_of F20_ok fun I0 ρ0 w0 Q hρ hQ => ?_) h
  obtain ⟨A, hA⟩ : ∃ A, A = stdA := ⟨_, rfl⟩
  have hpl := kindOf_ok f g hall hcore
  have hnl := zeroR_ok l.b l.n l.t l.ln l.c
  have hnm := zeroR_ok m.b m.n m.t m.ln m.c
  have hbl := fun (hk : 2 ≤ g.kind ∧ g.kind ≤ 14) => boundV_ok g.kind hk l hlo
  have hbm := fun (hk : 2 ≤ g.kind ∧ g.kind ≤ 14) => boundV_ok g.kind hk m hmo
  have hor := fun (hk : 2 ≤ g.kind ∧ g.kind ≤ 14) (h1 : l.bnd g.kind) (h2 : m.bnd g.kind) => orderRB_ok g.kind hk l m hlo hmo h1 h2
  unfold VP.cells at *
  unfold VP.bnd at hbl hbm
  rw [cellsF_eq] at *
  simp only [List.cons_append, List.nil_append, List.append_assoc]
  obtain ⟨lb, ln, lt, ll, lc⟩ := l
  obtain ⟨mb, mn, mt, ml, mc⟩ := m
  simp only at *
  generalize cellsFs f.kids = kc, f.kids.length = kn, f.nm = nm, f.nul = nul, f.kind = k, f.width = w, f.id = i, f.idx = x at *
  generalize g.kind = gk at *
  cases has
  · skip
    with_reducible refine runS hA hd hQ 200 ?hk ?_
    case hk => exact trivial
    conv => arg 9; cbv
    try simp only [OK]
    repeat' first
      | (with_reducible refine OKK.loop ?_)
      | (with_reducible refine OKK.again ?_)
      | ((with_reducible refine opt_of (fun hop => ?_) (fun xop hop => ?_)) <;> (try simp (disch := omega) only [hA, OK, emaU, Int.reduceToNat, s_bat] at hop))
      | ((with_reducible refine ⟨fun hbr => ?_, fun hbr => ?_⟩) <;> (try simp (disch := omega) only [hA, OK, emaU, Int.reduceToNat, s_bat, reduceCtorEq] at hbr) <;> (try ((with_reducible exfalso); omega)))
      | ((with_reducible refine runK hA hd hQ 200 ?hk ?_); (case hk => exact trivial); (conv => arg 9; cbv); (try simp only [OK]))
      | ((with_reducible refine need_of ?hn ?_); (case hn => ((simp (disch := omega) only [hA, OK, emaU, Int.reduceToNat, s_bat]) <;> omega)))
      | (refine CallOK.of (goodF_of F44_ok) (Tri.mono (hnl _) fun v hh hx => ?_); (obtain ⟨⟨b, hv, hb⟩, he⟩ := hx; subst hv; subst he; cases b <;> simp (disch := omega) only [hA, OK, emaU, Int.reduceToNat, s_bat, Bool.false_eq_true, true_iff, false_iff, eq_self, reduceCtorEq] at hb) <;> (try ((with_reducible exfalso); omega)))
      | (refine CallOK.of (goodF_of F44_ok) (Tri.mono (hnm _) fun v hh hx => ?_); (obtain ⟨⟨b, hv, hb⟩, he⟩ := hx; subst hv; subst he; cases b <;> simp (disch := omega) only [hA, OK, emaU, Int.reduceToNat, s_bat, Bool.false_eq_true, true_iff, false_iff, eq_self, reduceCtorEq] at hb) <;> (try ((with_reducible exfalso); omega)))
      | fail
    all_goals (try (with_reducible refine FinR.self ?_; first | refine FinR.bl rfl ?_ | refine FinR.bs rfl ?_ | refine FinR.blh rfl ?_ rfl | refine FinR.bsh rfl ?_ rfl))
    all_goals (try simp (disch := omega) only [hA, OK, emaU, Int.reduceToNat, s_bat, Bool.false_eq_true, true_iff, false_iff, eq_self, iff_true, iff_false])
    all_goals first
      | exact fun h => by have h1 := h.1; have h2 := h.2.1; have h3 := h.2.2.1; have h4 := h.2.2.2.1; omega
      | exact fun h => absurd (h.2.2.2.2.1 rfl).1 (by assumption : ¬ noneP lb ln lt ll)
      | exact fun h => absurd (h.2.2.2.2.1 rfl).2 (by assumption : ¬ noneP mb mn mt ml)
      | exact ⟨by omega, by omega, by omega, by omega, fun _ => ⟨(by assumption : noneP lb ln lt ll), (by assumption : noneP mb mn mt ml)⟩, fun h => (nomatch h)⟩
  · skip
    with_reducible refine runS hA hd hQ 200 ?hk ?_
    case hk => exact trivial
    conv => arg 9; cbv
    try simp only [OK]
    repeat' first
      | (with_reducible refine OKK.loop ?_)
      | (with_reducible refine OKK.again ?_)
      | ((with_reducible refine opt_of (fun hop => ?_) (fun xop hop => ?_)) <;> (try simp (disch := omega) only [hA, OK, emaU, Int.reduceToNat, s_bat] at hop))
      | ((with_reducible refine ⟨fun hbr => ?_, fun hbr => ?_⟩) <;> (try simp (disch := omega) only [hA, OK, emaU, Int.reduceToNat, s_bat, reduceCtorEq] at hbr) <;> (try ((with_reducible exfalso); omega)))
      | ((with_reducible refine runK hA hd hQ 200 ?hk ?_); (case hk => exact trivial); (conv => arg 9; cbv); (try simp only [OK]))
      | ((with_reducible refine need_of ?hn ?_); (case hn => ((simp (disch := omega) only [hA, OK, emaU, Int.reduceToNat, s_bat]) <;> omega)))
      | fail
    rotate_right
    · refine CallOK.of (goodF_of F21_ok) (Tri.mono (hpl _) fun v hh hx => ?_)
      obtain ⟨hv, hh'⟩ := hx
      subst hv; subst hh'
      with_reducible refine runK hA hd hQ 1 ?hk ?_
      case hk => exact trivial
      conv => arg 9; cbv
      try simp only [OK]
      repeat' first
        | (with_reducible refine OKK.loop ?_)
        | (with_reducible refine OKK.again ?_)
        | ((with_reducible refine opt_of (fun hop => ?_) (fun xop hop => ?_)) <;> (try simp (disch := omega) only [hA, OK, emaU, Int.reduceToNat, s_bat] at hop))
        | ((with_reducible refine ⟨fun hbr => ?_, fun hbr => ?_⟩) <;> (try simp (disch := omega) only [hA, OK, emaU, Int.reduceToNat, s_bat, reduceCtorEq] at hbr) <;> (try ((with_reducible exfalso); omega)))
        | ((with_reducible refine runK hA hd hQ 200 ?hk ?_); (case hk => exact trivial); (conv => arg 9; cbv); (try simp only [OK]))
        | ((with_reducible refine need_of ?hn ?_); (case hn => ((simp (disch := omega) only [hA, OK, emaU, Int.reduceToNat, s_bat]) <;> omega)))
        | (refine CallOK.of (goodF_of F45_ok) (Tri.mono (bounded_ok _ _) fun v hh hx => ?_); (obtain ⟨⟨b, hv, hb⟩, he⟩ := hx; subst hv; subst he; cases b <;> simp (disch := omega) only [hA, OK, emaU, Int.reduceToNat, s_bat, Bool.false_eq_true, true_iff, false_iff, eq_self, reduceCtorEq] at hb) <;> (try ((with_reducible exfalso); omega)))
        | (refine CallOK.of (goodF_of F46_ok) (Tri.mono (hbl (by assumption) _) fun v hh hx => ?_); (obtain ⟨⟨b, hv, hb⟩, he⟩ := hx; subst hv; subst he; cases b <;> simp (disch := omega) only [hA, OK, emaU, Int.reduceToNat, s_bat, Bool.false_eq_true, true_iff, false_iff, eq_self, reduceCtorEq] at hb) <;> (try ((with_reducible exfalso); omega)))
        | (refine CallOK.of (goodF_of F46_ok) (Tri.mono (hbm (by assumption) _) fun v hh hx => ?_); (obtain ⟨⟨b, hv, hb⟩, he⟩ := hx; subst hv; subst he; cases b <;> simp (disch := omega) only [hA, OK, emaU, Int.reduceToNat, s_bat, Bool.false_eq_true, true_iff, false_iff, eq_self, reduceCtorEq] at hb) <;> (try ((with_reducible exfalso); omega)))
        | (refine CallOK.of (goodF_of F22_ok) (Tri.mono (hor (by assumption) (by assumption : bndP gk lb ln lt ll) (by assumption : bndP gk mb mn mt ml) _) fun v hh hx => ?_); (obtain ⟨⟨z, hv, hz⟩, he⟩ := hx; subst hv; subst he))
        | fail
      all_goals (try (with_reducible refine FinR.self ?_; first | refine FinR.bl rfl ?_ | refine FinR.bs rfl ?_ | refine FinR.blh rfl ?_ rfl | refine FinR.bsh rfl ?_ rfl))
      all_goals (try simp (disch := omega) only [hA, OK, emaU, Int.reduceToNat, s_bat, Bool.false_eq_true, true_iff, false_iff, eq_self, iff_true, iff_false])
      all_goals first
        | exact fun h => absurd (h.2.2.2.2.2 rfl).1 (by assumption)
        | exact fun h => absurd (by assumption) (h.2.2.2.2.2 rfl).2.1
        | exact fun h => absurd (h.2.2.2.2.2 rfl).2.2.1 (by assumption : ¬ bndP gk lb ln lt ll)
        | exact fun h => absurd (h.2.2.2.2.2 rfl).2.2.2.1 (by assumption : ¬ bndP gk mb mn mt ml)
        | (subst hz; refine ⟨fun h => ⟨by omega, by omega, by omega, by omega, fun h => (nomatch h), fun _ => ⟨?_, ?_, ?_, ?_, h⟩⟩, fun h => (h.2.2.2.2.2 rfl).2.2.2.2⟩ <;> assumption)
    all_goals (try (with_reducible refine FinR.self ?_; first | refine FinR.bl rfl ?_ | refine FinR.bs rfl ?_ | refine FinR.blh rfl ?_ rfl | refine FinR.bsh rfl ?_ rfl))
    all_goals (try simp (disch := omega) only [hA, OK, emaU, Int.reduceToNat, s_bat, Bool.false_eq_true, true_iff, false_iff, eq_self, iff_true, iff_false])
    all_goals exact fun h => by have h1 := h.1; have h2 := h.2.1; have h3 := h.2.2.1; have h4 := h.2.2.2.1; omega
end Go.Proofs.YtecephhhjhpcjaaGreatDoor.Stats
end
section
set_option linter.unusedVariables false
set_option linter.unusedSimpArgs false
-- emaX: s_bat
namespace Go.Proofs.YtecephhhjhpcjaaGreatDoor.Stats
open Go Go.Proofs.YtecephhhjhpcjaaGreatDoor Go.Proofs.YtecephhhjhpcjaaGreatDoor.Em
/-- a stat's parts -/
structure StP where
  rows : Int
  nulls : Int
  has : Bool
  l : VP
  m : VP
def StP.cells (s : StP) : List EV := [.lit (.int .i64 s.rows), .lit (.int .i64 s.nulls), .lit (.bool s.has)] ++ s.l.cells ++ s.m.cells
def StP.ok (s : StP) : Prop := i64r s.rows ∧ i64r s.nulls ∧ s.l.ok ∧ s.m.ok
def StP.may (k : Int) (s : StP) : Prop := statP k s.rows s.nulls s.has s.l s.m
def vp0 : VP := ⟨false, 0, ⟨#[]⟩, 0, []⟩
def st0 : StP := ⟨0, 0, false, vp0, vp0⟩
/-- the plain kind of a field -/
noncomputable def ck (f : Fld) : Int := open Classical in if h : ∃ g, Core f g then (Classical.choose h).kind else 0
theorem ck_eq {f g : Fld} (h : Core f g) : ck f = g.kind := by
  have hx : ∃ g, Core f g := ⟨g, h⟩
  rw [ck, dif_pos hx, (Classical.choose_spec hx).det h]
end Go.Proofs.YtecephhhjhpcjaaGreatDoor.Stats
end
section
set_option linter.unusedVariables false
set_option linter.unusedSimpArgs false
-- emaX: s_bat
namespace Go.Proofs.YtecephhhjhpcjaaGreatDoor.Stats
open Go Go.Proofs.YtecephhhjhpcjaaGreatDoor Go.Proofs.YtecephhhjhpcjaaGreatDoor.Em
end Go.Proofs.YtecephhhjhpcjaaGreatDoor.Stats
end
section
set_option linter.unusedVariables false
namespace Go.Proofs.YtecephhhjhpcjaaGreatDoor.Stats
open Go Go.Proofs.YtecephhhjhpcjaaGreatDoor Go.Proofs.YtecephhhjhpcjaaGreatDoor.Em
/-- a bound's bytes -/
def bndB (k : Int) (v : VP) : List Nat := if 12 ≤ k ∧ k ≤ 14 then v.t.size % 256 :: natsT v.t else leB v.n 8
/-- a stat's -/
def putS (k : Int) (s : StP) : List Nat := leB s.rows 4 ++ leB s.nulls 4 ++ (if s.has then 1 :: (bndB k s.l ++ bndB k s.m) else [0])
/-- those of the first stats -/
noncomputable def putN (fs : List Fld) (l : List StP) : Nat → List Nat
  | 0 => []
  | i + 1 => putN fs l i ++ putS (ck (fs.getD i fld0)) (l.getD i st0)
theorem bndB_all (k : Int) (v : VP) : AllB (bndB k v) := by
  unfold bndB
  split
  · exact fun x hx => by
      rcases List.mem_cons.1 hx with rfl | hx
      · omega
      · exact natsT_all _ x hx
  · exact leB_all _ _
theorem putS_all (k : Int) (s : StP) : AllB (putS k s) := by
  unfold putS
  refine ((leB_all _ _).app (leB_all _ _)).app ?_
  split
  · exact fun x hx => by
      rcases List.mem_cons.1 hx with rfl | hx
      · omega
      · exact ((bndB_all k _).app (bndB_all k _)) x hx
  · exact AllB.one (by omega)
theorem putN_all (fs l) : ∀ i, AllB (putN fs l i)
  | 0 => AllB.nil
  | i + 1 => (putN_all fs l i).app (putS_all _ _)
theorem bndB_len {k : Int} {v : VP} (h : v.bnd k) : (bndB k v).length ≤ 17 := by
  unfold bndB
  split
  · rename_i hk
    have := h.2.2
    rw [if_pos hk.1] at this
    simp only [List.length_cons, natsT_length]; omega
  · rw [leB_length]; omega
theorem putS_len {k : Int} {s : StP} (h : s.may k) : (putS k s).length ≤ 43 := by
  unfold putS
  simp only [List.length_append, leB_length]
  split
  · rename_i hs
    obtain ⟨_, _, h1, h2, _⟩ := h.2.2.2.2.2 hs
    have := bndB_len h1
    have := bndB_len h2
    simp only [List.length_cons, List.length_append]; omega
  · simp
theorem putN_len (fs l) : ∀ i, (∀ j, j < i → (l.getD j st0).may (ck (fs.getD j fld0))) → (putN fs l i).length ≤ 43 * i
  | 0, _ => by simp [putN]
  | i + 1, h => by
    have := putN_len fs l i fun j hj => h j (by omega)
    have := putS_len (h i (by omega))
    simp only [putN, List.length_append]; omega
open Classical in
/-- what is wrong with the stats of a schema's fields -/
noncomputable def fitE (fs : List Fld) (ns : List Nt) (l : List StP) : Int :=
  if ¬ mayS fs ns then 5 else if l.length ≠ fs.length then 6 else if ∀ i, i < l.length → (l.getD i st0).may (ck (fs.getD i fld0)) then 0 else 7
/-- the stats' bytes, or none -/
noncomputable def putB (fs : List Fld) (ns : List Nt) (l : List StP) : List Nat := if fitE fs ns l = 0 then putN fs l l.length else []
theorem putB_all (fs ns l) : AllB (putB fs ns l) := by
  unfold putB
  split
  · exact putN_all _ _ _
  · exact AllB.nil
theorem fitE_no {fs ns l} (h : ¬ mayS fs ns) : fitE fs ns l = 5 := if_pos h
theorem fitE_no2 {fs ns l} (h : mayS fs ns) (hl : l.length ≠ fs.length) : fitE fs ns l = 6 := by unfold fitE; rw [if_neg (not_not_intro h), if_pos hl]
theorem fitE_no3 {fs ns l} (h : mayS fs ns) (hl : l.length = fs.length) {i : Nat} (hi : i < l.length) (hn : ¬ (l.getD i st0).may (ck (fs.getD i fld0))) : fitE fs ns l = 7 := by
  unfold fitE; rw [if_neg (not_not_intro h), if_neg (not_not_intro hl), if_neg fun ha => hn (ha i hi)]
theorem fitE_ok {fs ns l} (h : mayS fs ns) (hl : l.length = fs.length) (hn : ∀ i, i < l.length → (l.getD i st0).may (ck (fs.getD i fld0))) : fitE fs ns l = 0 := by
  unfold fitE; rw [if_neg (not_not_intro h), if_neg (not_not_intro hl), if_pos hn]
theorem fitE_inv {fs ns l} (h : fitE fs ns l = 0) : mayS fs ns ∧ l.length = fs.length ∧ ∀ i, i < l.length → (l.getD i st0).may (ck (fs.getD i fld0)) := by
  unfold fitE at h
  split at h
  · omega
  · rename_i h1
    split at h
    · omega
    · rename_i h2
      split at h
      · rename_i h3; exact ⟨Classical.not_not.1 h1, by omega, h3⟩
      · omega
theorem bnd_ts {k : Int} {s : StP} (h : s.may k) (hh : s.has = true) : (12 ≤ k ∧ k ≤ 14 → s.l.t.size ≤ 16) ∧ (12 ≤ k ∧ k ≤ 14 → s.m.t.size ≤ 16) ∧ (bndB k s.l).length ≤ 17 ∧ (bndB k s.m).length ≤ 17 := by
  obtain ⟨_, _, h1, h2, _⟩ := h.2.2.2.2.2 hh
  have g1 := h1.2.2
  have g2 := h2.2.2
  exact ⟨fun hk => by rw [if_pos hk.1] at g1; exact g1.2, fun hk => by rw [if_pos hk.1] at g2; exact g2.2, bndB_len h1, bndB_len h2⟩
/-- stats in a list -/
def cellsSs : List StP → List EV
  | [] => []
  | s :: l => s.cells ++ cellsSs l
def okSs : List StP → Prop
  | [] => True
  | s :: l => s.ok ∧ okSs l
theorem cellsS_length (s : StP) : s.cells.length = 11 := rfl
theorem st_get : ∀ (l : List StP) (i : Nat), i < l.length → ((cellsSs l).drop (i * 11)).take 11 = (l.getD i st0).cells
  | [], i, h => by simp at h
  | s :: l, 0, _ => by
    simp only [cellsSs, Nat.zero_mul, List.drop_zero, List.getD_cons_zero]
    rw [List.take_append_of_le_length (by rw [cellsS_length]; omega), List.take_of_length_le (by rw [cellsS_length]; omega)]
  | s :: l, i + 1, h => by
    have ih := st_get l i (by simpa using h)
    rw [cellsSs, List.drop_append, List.drop_eq_nil_of_le (by rw [cellsS_length]; omega), cellsS_length, List.nil_append, show (i + 1) * 11 - 11 = i * 11 by omega, ih]
    rfl
theorem okSs_get : ∀ (l : List StP) (i : Nat), okSs l → i < l.length → (l.getD i st0).ok
  | [], i, _, h => by simp at h
  | s :: l, 0, ho, _ => ho.1
  | s :: l, i + 1, ho, h => okSs_get l i ho.2 (by simpa using h)
theorem allFs_get : ∀ (l : List Fld) (i : Nat), allFs l → i < l.length → allF (l.getD i fld0)
  | [], i, _, h => by simp at h
  | s :: l, 0, ho, _ => ho.1
  | s :: l, i + 1, ho, h => allFs_get l i ho.2 (by simpa using h)
theorem mayS_all {fs ns} (h : mayS fs ns) : allFs fs := allN_allFs fs [] [] false [] (by simp) h.2.2.2
end Go.Proofs.YtecephhhjhpcjaaGreatDoor.Stats
end
section
set_option linter.unusedVariables false
set_option linter.unusedSimpArgs false
-- emaX: s_bat
namespace Go.Proofs.YtecephhhjhpcjaaGreatDoor.Stats
open Go Go.Proofs.YtecephhhjhpcjaaGreatDoor Go.Proofs.YtecephhhjhpcjaaGreatDoor.Em
theorem isStat_ck (f : Fld) (hall : allF f) (s : StP) (hs : s.ok) (h : EH) : Tri Tryz.prog gs 16 [.agg (cellsF f), .agg s.cells] h fun v h' => IsP (s.may (ck f)) v ∧ h' = h := by
  obtain ⟨g, hc, hg, _⟩ := core_ex _ f (Nat.le_refl _) hall
  rw [ck_eq hc]
  exact isStat_ok f g hall hc hg s.rows s.nulls s.has s.l s.m hs.2.2.1 hs.2.2.2 h
theorem isR_ck (f : Fld) (hall : allF f) (s : StP) (hs : s.ok) (h : EH) : Tri Tryz.prog gs 20 [.agg (cellsF f), .agg s.cells] h fun v h' => IsP (s.may (ck f)) v ∧ h' = h := by
  obtain ⟨g, hc, hg, _⟩ := core_ex _ f (Nat.le_refl _) hall
  rw [ck_eq hc]
  exact isR_ok f g hall hc hg s.rows s.nulls s.has s.l s.m hs.2.2.1 hs.2.2.2 h
theorem plain_ck (f : Fld) (hall : allF f) (h : EH) : Tri Tryz.prog gs 17 [.agg (cellsF f)] h fun v h' => (∃ nm nul k w i x kn kc, v = .agg [.lit (.string nm), .lit (.bool nul), .lit (.int .i64 k), .lit (.int .i64 w), .lit (.int .i64 i), .lit (.int .i64 x), .isl kn none kc] ∧ k = ck f) ∧ h' = h := by
  obtain ⟨g, hc, hg, _⟩ := core_ex _ f (Nat.le_refl _) hall
  exact (plain_ok f g hall hc h).mono fun v h' ⟨⟨nm, nul, h1⟩, h2⟩ => ⟨⟨_, _, _, _, _, _, _, _, h1, (ck_eq hc).symm⟩, h2⟩
theorem kindOf_ck (f : Fld) (hall : allF f) (h : EH) : Tri Tryz.prog gs 21 [.agg (cellsF f)] h fun v h' => IsN .i64 (fun n => n = ck f) v ∧ h' = h := by
  obtain ⟨g, hc, hg, _⟩ := core_ex _ f (Nat.le_refl _) hall
  exact (kindOf_ok f g hall hc h).mono fun v h' ⟨h1, h2⟩ => ⟨⟨_, h1, (ck_eq hc).symm⟩, h2⟩
set_option maxRecDepth 100000 in
set_option maxHeartbeats 4000000 in
theorem fit_ok (fs : List Fld) (ns : List Nt) (l : List StP) (hfs : fs.length ≤ 140737488351232) (hns : ns.length ≤ 140737488351232) (hok : okFs fs) (hnt : ∀ x ∈ ns, x.1.size ≤ 140737488351232 ∧ x.2.size ≤ 140737488351232) (hl : l.length ≤ 140737488351232) (hls : okSs l) (h : EH) :
    Tri Tryz.prog gs 25 [.agg [.isl fs.length none (cellsFs fs), .isl ns.length none (cellsNts ns)], .isl l.length none (cellsSs l)] h fun v h' => IsN .i64 (fun n => n = fitE fs ns l) v ∧ h' = h := by
  refine Tri.intC rfl (Tri_of F25_ok fun I0 ρ0 w0 Q hρ hQ => ?_) h
  obtain ⟨A, hA⟩ : ∃ A, A = stdA := ⟨_, rfl⟩
  have hsg := st_get l
  have hfg := fs_get fs
  have hck := check_ok fs ns hfs hns hok hnt
  obtain ⟨E, hE⟩ : ∃ E, E = fitE fs ns l := ⟨_, rfl⟩
  obtain ⟨fn, hfn⟩ : ∃ n, n = fs.length := ⟨_, rfl⟩
  obtain ⟨fc, hfc⟩ : ∃ n, n = cellsFs fs := ⟨_, rfl⟩
  obtain ⟨nn, hnn⟩ : ∃ n, n = ns.length := ⟨_, rfl⟩
  obtain ⟨nc, hnc⟩ : ∃ n, n = cellsNts ns := ⟨_, rfl⟩
  obtain ⟨sn, hsn⟩ : ∃ n, n = l.length := ⟨_, rfl⟩
  obtain ⟨sc, hsc⟩ : ∃ n, n = cellsSs l := ⟨_, rfl⟩
  rw [← hE] at hQ
  have hE' := hE
  rw [← hfn, ← hfc, ← hnn, ← hnc] at hck
  rw [← hfn, ← hfc, ← hnn, ← hnc, ← hsn, ← hsc]
  with_reducible refine runS hA hd hQ 200 ?hk ?_
  case hk => exact trivial
  conv => arg 9; cbv
  try simp only [OK]
  repeat' first
    | (with_reducible refine OKK.loop ?_)
    | (with_reducible refine OKK.again ?_)
    | ((with_reducible refine opt_of (fun hop => ?_) (fun xop hop => ?_)) <;> (try simp (disch := omega) only [hA, OK, emaU, Int.reduceToNat, s_bat] at hop))
    | ((with_reducible refine ⟨fun hbr => ?_, fun hbr => ?_⟩) <;> (try simp (disch := omega) only [hA, OK, emaU, Int.reduceToNat, s_bat, reduceCtorEq] at hbr) <;> (try ((with_reducible exfalso); omega)))
    | ((with_reducible refine runK hA hd hQ 200 ?hk ?_); (case hk => exact trivial); (conv => arg 9; cbv); (try simp only [OK]))
    | ((with_reducible refine need_of ?hn ?_); (case hn => ((simp (disch := omega) only [hA, OK, emaU, Int.reduceToNat, s_bat]) <;> omega)))
    | fail
  refine CallOK.of (goodF_of F31_ok) (Tri.mono (hck _) fun v hh hx => ?_)
  obtain ⟨⟨e, at', pn, pc, hv, he⟩, hh'⟩ := hx
  subst hv; subst hh'
  with_reducible refine runK hA hd hQ 1 ?hk ?_
  case hk => exact trivial
  conv => arg 9; cbv
  try simp only [OK]
  repeat' first
    | (with_reducible refine OKK.loop ?_)
    | (with_reducible refine OKK.again ?_)
    | ((with_reducible refine opt_of (fun hop => ?_) (fun xop hop => ?_)) <;> (try simp (disch := omega) only [hA, OK, emaU, Int.reduceToNat, s_bat] at hop))
    | ((with_reducible refine ⟨fun hbr => ?_, fun hbr => ?_⟩) <;> (try simp (disch := omega) only [hA, OK, emaU, Int.reduceToNat, s_bat, reduceCtorEq] at hbr) <;> (try ((with_reducible exfalso); omega)))
    | ((with_reducible refine runK hA hd hQ 200 ?hk ?_); (case hk => exact trivial); (conv => arg 9; cbv); (try simp only [OK]))
    | ((with_reducible refine need_of ?hn ?_); (case hn => ((simp (disch := omega) only [hA, OK, emaU, Int.reduceToNat, s_bat]) <;> omega)))
    | fail
  rotate_left 2
  · have hms : mayS fs ns := he.1 (by omega)
    have hall := mayS_all hms
    have hlen : l.length = fs.length := by omega
    refine OKs.mask (msk 35 [2, 19, 20, 21]) ?_
    refine OKs.loopN (fun m st => ∃ i : Int, st = ⟨mkT 35 [(2, .ptr 0 0), (19, .isl sn none sc), (20, .lit (.int .i64 (A.ofn sn))), (21, .lit (.int .i64 i))], [.blk [.isl fn none fc, .isl nn none nc]]⟩ ∧ m = (sn - i).toNat ∧ 0 ≤ i ∧ i ≤ sn ∧ ∀ j, j < i.toNat → (l.getD j st0).may (ck (fs.getD j fld0)))
      (fun m st hs' ih => ?_) ⟨0, rfl, rfl, by omega, by omega, fun j hj => absurd hj (by simp)⟩
    obtain ⟨i, rfl, hm, hi1, hi2, hi3⟩ := hs'
    have hst := allP_step (p := fun j => (l.getD j st0).may (ck (fs.getD j fld0))) hi1 hi3
    have hno := fun h1 h2 => fitE_no3 (fs := fs) (ns := ns) (l := l) hms hlen (i := i.toNat) h1 h2
    obtain ⟨s, hs⟩ : ∃ s, s = l.getD i.toNat st0 := ⟨_, rfl⟩
    obtain ⟨f, hf⟩ : ∃ f, f = fs.getD i.toNat fld0 := ⟨_, rfl⟩
    have hfa : i < sn → allF f := fun h => by rw [hf]; exact allFs_get fs _ hall (by omega)
    have hso : i < sn → s.ok := fun h => by rw [hs]; exact okSs_get l _ hls (by omega)
    have hLs : i < sn → List.take 11 (List.drop (A.idx 0 i 11) sc) = s.cells := fun h => by rw [hA, s_idx, Nat.zero_add, hsc, hsg i.toNat (by omega), ← hs]
    have hLf : i < sn → List.take 7 (List.drop (A.idx 0 i 7) fc) = cellsF f := fun h => by rw [hA, s_idx, Nat.zero_add, hfc, hfg i.toNat (by omega), ← hf]
    have hisS := fun h : i < sn => isStat_ck f (hfa h) s (hso h)
    rw [← hs, ← hf] at hst hno
    rw [cellsF_eq] at hLf hisS
    generalize cellsFs f.kids = kc, f.kids.length = kn, f.nm = nm, f.nul = nul, f.kind = k, f.width = w, f.id = id, f.idx = x at hLf hisS
    generalize StP.may (ck f) s = mp at hst hno hisS
    obtain ⟨r, n, hs1, ⟨b1, n1, t1, l1, c1⟩, ⟨b2, n2, t2, l2, c2⟩⟩ := s
    simp only [StP.cells, VP.cells, List.cons_append, List.nil_append] at hLs hisS
    clear hs hso hf hfa
    with_reducible refine runS hA hd hQ 200 ?hk ?_
    case hk => exact trivial
    conv => arg 9; cbv
    try simp only [OK]
    repeat' first
      | (with_reducible refine OKK.loop ?_)
      | (with_reducible refine OKK.again ?_)
      | ((with_reducible refine opt_of (fun hop => ?_) (fun xop hop => ?_)) <;> (try simp (disch := omega) only [hA, OK, emaU, Int.reduceToNat, s_bat] at hop))
      | ((with_reducible refine ⟨fun hbr => ?_, fun hbr => ?_⟩) <;> (try simp (disch := omega) only [hA, OK, emaU, Int.reduceToNat, s_bat, reduceCtorEq] at hbr) <;> (try ((with_reducible exfalso); omega)))
      | ((with_reducible refine runK hA hd hQ 200 ?hk ?_); (case hk => exact trivial); (conv => arg 9; cbv); (try simp only [OK]))
      | ((with_reducible refine need_of ?hn ?_); (case hn => ((simp (disch := omega) only [hA, OK, emaU, Int.reduceToNat, s_bat]) <;> omega)))
      | ((refine ⟨_, _, ?l1, (hLs (by omega)), rfl, ?_⟩); (case l1 => exact rfl))
      | ((refine ⟨_, _, ?l1, (hLf (by omega)), rfl, ?_⟩); (case l1 => exact rfl))
      | (refine CallOK.of (goodF_of F16_ok) (Tri.mono (hisS (by omega) _) fun v hh hx => ?_); (obtain ⟨⟨b, hv, hb⟩, he⟩ := hx; subst hv; subst he; cases b <;> simp (disch := omega) only [hA, OK, emaU, Int.reduceToNat, s_bat, Bool.false_eq_true, true_iff, false_iff, eq_self, reduceCtorEq] at hb) <;> (try ((with_reducible exfalso); omega)))
      | fail
    all_goals try (refine OKs.mask (msk 35 [2, 19, 20, 21]) (OKs.mv [0] [] (by rw [hρ]; rfl) ⟨by simp, by simp [sizeH], by simp⟩ (ih _ _ ⟨_, rfl, rfl, ?_, ?_, ?_⟩ ?_)))
    all_goals (try (with_reducible refine FinR.self ?_; first | refine FinR.n rfl ?_ | refine FinR.nh rfl ?_ rfl))
    all_goals (try simp (disch := omega) only [hA, OK, emaU, Int.reduceToNat, s_bat, Bool.false_eq_true, true_iff, false_iff, eq_self, iff_true, iff_false])
    all_goals first
      | omega
      | exact hst (by assumption)
      | (rw [hE, hno (by omega) (by assumption)])
      | (rw [hE, fitE_ok hms hlen fun j hj => hi3 j (by omega)])
  all_goals (try (with_reducible refine FinR.self ?_; first | refine FinR.n rfl ?_ | refine FinR.nh rfl ?_ rfl))
  all_goals (try simp (disch := omega) only [hA, OK, emaU, Int.reduceToNat, s_bat, Bool.false_eq_true, true_iff, false_iff, eq_self, iff_true, iff_false])
  · rw [hE, fitE_no fun hm => hbr (he.2 hm)]
  · rw [hE, fitE_no2 (he.1 (Classical.byContradiction (by assumption))) (by omega)]
end Go.Proofs.YtecephhhjhpcjaaGreatDoor.Stats
end
section
set_option linter.unusedVariables false
set_option linter.unusedSimpArgs false
-- emaX: s_wr8m, s_enc, natsT_length
namespace Go.Proofs.YtecephhhjhpcjaaGreatDoor.Stats
open Go Go.Proofs.YtecephhhjhpcjaaGreatDoor Go.Proofs.YtecephhhjhpcjaaGreatDoor.Em
theorem wrU_range (n : Int) : 0 ≤ stdA.wr .u64 n ∧ stdA.wr .u64 n ≤ 18446744073709551615 := by
  simp only [stdA, IntKind.wrap, IntKind.signed, IntKind.bits, Bool.false_and]
  simp
  omega
theorem bytesW_ok {A : Ar} (hA : A = stdA) (l : List Nat) (n : Int) (w : Nat) (hw1 : 1 ≤ w) (hw : w ≤ 8) (hl : l.length ≤ 100000) (hn : i64r n) : Grows Tryz.prog gs 29 [.lit (.int .u64 (A.wr .u64 n)), .lit (.int .i64 w)] l (l ++ leB n w) := by
  subst hA
  have := bytes_ok l (stdA.wr .u64 n) w hw1 hw hl (wrU_range n).1 (wrU_range n).2
  rwa [leB_wrap n w hw hn.1 hn.2] at this
theorem byte_nat (m : Nat) : [EV.lit (.int .u8 ((m : Int) % 256))] = bytesE [m % 256] := by
  rw [byte_mod, show ((m : Int) % 256).toNat = m % 256 by omega]
theorem one_blk {l : List Nat} {N : Nat} {c : List EV} {x : Int} {b : Nat} (hN : N = l.length) (hc : c = bytesE l) (hx : x = b) :
    stdA.app (stdA.tak (stdA.mul N 1) (stdA.drp 0 c)) (stdA.tak (stdA.mul 1 1) (stdA.drp 0 [.lit (.int .u8 x)])) = bytesE (l ++ [b]) := by
  subst hN; subst hc; subst hx
  simp only [emaU, Nat.mul_one, List.drop_zero]
  rw [List.take_of_length_le (by simp), List.take_of_length_le (by simp)]
  exact bytesE_app l [b]
theorem text_blk {l : List Nat} {N : Nat} {c : List EV} (t : ByteArray) (hN : N = l.length) (hc : c = bytesE l) :
    stdA.app (stdA.tak (stdA.mul (stdA.add N 1) 1) (stdA.drp 0 (stdA.app (stdA.tak (stdA.mul N 1) (stdA.drp 0 c)) (stdA.tak (stdA.mul 1 1) (stdA.drp 0 [.lit (.int .u8 (stdA.wr .u8 (stdA.ofn (stdA.bsz t))))]))))) (stdA.enc t) = bytesE (l ++ (t.size % 256 :: natsT t)) := by
  subst hN; subst hc
  simp only [emaU, s_wr8m, s_enc, byte_nat, Nat.mul_one, List.drop_zero, List.take_append, List.take_length]
  rw [List.take_of_length_le (by simp), List.take_of_length_le (by simp)]
  simp
set_option maxRecDepth 100000 in
set_option maxHeartbeats 4000000 in
theorem bound_ok (l : List Nat) (k : Int) (v : VP) (hl : l.length ≤ 100000) (hv : v.ok) (ht : 12 ≤ k ∧ k ≤ 14 → v.t.size ≤ 16) : Grows Tryz.prog gs 27 [.lit (.int .i64 k), .agg v.cells] l (l ++ bndB k v) := by
  refine Grows.of ?_
  obtain ⟨b, n, t, ln, kc⟩ := v
  simp only [VP.cells, VP.ok] at *
  obtain ⟨hn, hts, hln⟩ := hv
  obtain ⟨X, hX⟩ : ∃ X, X = bndB k ⟨b, n, t, ln, kc⟩ := ⟨_, rfl⟩
  have hX1 : 12 ≤ k ∧ k ≤ 14 → X = t.size % 256 :: natsT t := fun h => by rw [hX]; exact if_pos h
  have hX2 : ¬ (12 ≤ k ∧ k ≤ 14) → X = leB n 8 := fun h => by rw [hX]; exact if_neg h
  rw [← hX]
  refine Tri_of F27_ok fun I0 ρ0 w0 Q hρ hQ => ?_
  obtain ⟨A, hA⟩ : ∃ A, A = stdA := ⟨_, rfl⟩
  obtain ⟨N, hN⟩ : ∃ N, N = l.length := ⟨_, rfl⟩
  obtain ⟨c, hc⟩ : ∃ c, c = bytesE l := ⟨_, rfl⟩
  have hcl : c.length = N := by rw [hc, bytesE_length, hN]
  rw [← hN, ← hc]
  with_reducible refine runS hA hd hQ 200 ?hk ?_
  case hk => exact trivial
  conv => arg 9; cbv
  try simp only [OK]
  repeat' first
    | (with_reducible refine OKK.loop ?_)
    | (with_reducible refine OKK.again ?_)
    | (with_reducible refine And.intro trivial ?_)
    | ((with_reducible refine opt_of (fun hop => ?_) (fun xop hop => ?_)) <;> (try simp (disch := omega) only [hA, OK, emaU, Int.reduceToNat, s_wr8m, s_enc, natsT_length] at hop))
    | ((with_reducible refine ⟨fun hbr => ?_, fun hbr => ?_⟩) <;> (try simp (disch := omega) only [hA, OK, emaU, Int.reduceToNat, s_wr8m, s_enc, natsT_length, reduceCtorEq] at hbr) <;> (try ((with_reducible exfalso); omega)))
    | ((with_reducible refine runK hA hd hQ 200 ?hk ?_); (case hk => exact trivial); (conv => arg 9; cbv); (try simp only [OK]))
    | ((with_reducible refine need_of ?hn ?_); (case hn => ((simp (disch := omega) only [hA, OK, emaU, Int.reduceToNat, s_wr8m, s_enc, natsT_length]) <;> omega)))
    | (refine CallOK.of (goodF_of F40_ok) (Tri.mono (isText_ok _ _) fun v hh hx => ?_); (obtain ⟨⟨b, hv, hb⟩, he⟩ := hx; subst hv; subst he; cases b <;> simp (disch := omega) only [hA, OK, emaU, Int.reduceToNat, s_wr8m, s_enc, natsT_length, Bool.false_eq_true, true_iff, false_iff, eq_self, reduceCtorEq] at hb) <;> (try ((with_reducible exfalso); omega)))
    | fail
  · refine CallOK.of (goodF_of F26_ok) (Tri.mono ((num_ok l n 8 (by omega) (by omega) hl).callV rfl hN hc (id := 0) rfl) fun v hh hx => ?_)
    obtain ⟨M, e, hv, hh', hM, he⟩ := hx
    subst hv; subst hh'
    with_reducible refine runK hA hd hQ 1 ?hk ?_
    case hk => exact trivial
    conv => arg 9; cbv
    try simp only [OK]
    repeat' first
      | (with_reducible refine OKK.loop ?_)
      | (with_reducible refine OKK.again ?_)
      | ((with_reducible refine opt_of (fun hop => ?_) (fun xop hop => ?_)) <;> (try simp (disch := omega) only [hA, OK, emaU, Int.reduceToNat, s_wr8m, s_enc, natsT_length] at hop))
      | ((with_reducible refine ⟨fun hbr => ?_, fun hbr => ?_⟩) <;> (try simp (disch := omega) only [hA, OK, emaU, Int.reduceToNat, s_wr8m, s_enc, natsT_length, reduceCtorEq] at hbr) <;> (try ((with_reducible exfalso); omega)))
      | ((with_reducible refine runK hA hd hQ 200 ?hk ?_); (case hk => exact trivial); (conv => arg 9; cbv); (try simp only [OK]))
      | ((with_reducible refine need_of ?hn ?_); (case hn => ((simp (disch := omega) only [hA, OK, emaU, Int.reduceToNat, s_wr8m, s_enc, natsT_length]) <;> omega)))
      | fail
    refine ⟨_, rfl, 2, ?_, ?_, by decide, rfl⟩
    · show EV.sl 1 2 0 M none = _
      rw [hM, hX2 (by assumption)]
    · show EO.blk e = _
      rw [he, hX2 (by assumption)]
  · refine ⟨_, rfl, 4, ?_, ?_, by decide, rfl⟩
    · show EV.sl 1 4 0 (A.add (A.add N 1) (A.bsz t)) none = _
      rw [hX1 hb, hA, hN]
      show EV.sl 1 4 0 (l.length + 1 + t.size) none = _
      rw [show (l ++ (t.size % 256 :: natsT t)).length = l.length + 1 + t.size by simp only [List.length_append, List.length_cons, natsT_length]; omega]
    · rw [hX1 hb, ← text_blk t hN hc, hA]; rfl
set_option maxRecDepth 100000 in
set_option maxHeartbeats 4000000 in
theorem limit_ok (l : List Nat) (k : Int) (v : VP) (hl : l.length ≤ 100000) (hv : v.ok) (ht : 12 ≤ k ∧ k ≤ 14 → v.t.size ≤ 16) : Grows Tryz.prog gs 30 [.lit (.int .i64 k), .agg v.cells] l (l ++ bndB k v) := by
  refine Grows.of ?_
  obtain ⟨b, n, t, ln, kc⟩ := v
  simp only [VP.cells, VP.ok] at *
  obtain ⟨hn, hts, hln⟩ := hv
  obtain ⟨X, hX⟩ : ∃ X, X = bndB k ⟨b, n, t, ln, kc⟩ := ⟨_, rfl⟩
  have hX1 : 12 ≤ k ∧ k ≤ 14 → X = t.size % 256 :: natsT t := fun h => by rw [hX]; exact if_pos h
  have hX2 : ¬ (12 ≤ k ∧ k ≤ 14) → X = leB n 8 := fun h => by rw [hX]; exact if_neg h
  rw [← hX]
  refine Tri_of F30_ok fun I0 ρ0 w0 Q hρ hQ => ?_
  obtain ⟨A, hA⟩ : ∃ A, A = stdA := ⟨_, rfl⟩
  obtain ⟨N, hN⟩ : ∃ N, N = l.length := ⟨_, rfl⟩
  obtain ⟨c, hc⟩ : ∃ c, c = bytesE l := ⟨_, rfl⟩
  have hcl : c.length = N := by rw [hc, bytesE_length, hN]
  rw [← hN, ← hc]
  with_reducible refine runS hA hd hQ 200 ?hk ?_
  case hk => exact trivial
  conv => arg 9; cbv
  try simp only [OK]
  repeat' first
    | (with_reducible refine OKK.loop ?_)
    | (with_reducible refine OKK.again ?_)
    | (with_reducible refine And.intro trivial ?_)
    | ((with_reducible refine opt_of (fun hop => ?_) (fun xop hop => ?_)) <;> (try simp (disch := omega) only [hA, OK, emaU, Int.reduceToNat, s_wr8m, s_enc, natsT_length] at hop))
    | ((with_reducible refine ⟨fun hbr => ?_, fun hbr => ?_⟩) <;> (try simp (disch := omega) only [hA, OK, emaU, Int.reduceToNat, s_wr8m, s_enc, natsT_length, reduceCtorEq] at hbr) <;> (try ((with_reducible exfalso); omega)))
    | ((with_reducible refine runK hA hd hQ 200 ?hk ?_); (case hk => exact trivial); (conv => arg 9; cbv); (try simp only [OK]))
    | ((with_reducible refine need_of ?hn ?_); (case hn => ((simp (disch := omega) only [hA, OK, emaU, Int.reduceToNat, s_wr8m, s_enc, natsT_length]) <;> omega)))
    | (refine CallOK.of (goodF_of F57_ok) (Tri.mono (textR_ok _ _) fun v hh hx => ?_); (obtain ⟨⟨b, hv, hb⟩, he⟩ := hx; subst hv; subst he; cases b <;> simp (disch := omega) only [hA, OK, emaU, Int.reduceToNat, s_wr8m, s_enc, natsT_length, Bool.false_eq_true, true_iff, false_iff, eq_self, reduceCtorEq] at hb) <;> (try ((with_reducible exfalso); omega)))
    | fail
  · refine CallOK.of (goodF_of F29_ok) (Tri.mono ((bytes_ok l (A.wr .u64 n) 8 (by omega) (by omega) hl (by rw [hA]; exact (wrU_range n).1) (by rw [hA]; exact (wrU_range n).2)).callV rfl hN hc (id := 0) rfl) fun v hh hx => ?_)
    obtain ⟨M, e, hv, hh', hM, he⟩ := hx
    subst hv; subst hh'
    with_reducible refine runK hA hd hQ 1 ?hk ?_
    case hk => exact trivial
    conv => arg 9; cbv
    try simp only [OK]
    repeat' first
      | (with_reducible refine OKK.loop ?_)
      | (with_reducible refine OKK.again ?_)
      | ((with_reducible refine opt_of (fun hop => ?_) (fun xop hop => ?_)) <;> (try simp (disch := omega) only [hA, OK, emaU, Int.reduceToNat, s_wr8m, s_enc, natsT_length] at hop))
      | ((with_reducible refine ⟨fun hbr => ?_, fun hbr => ?_⟩) <;> (try simp (disch := omega) only [hA, OK, emaU, Int.reduceToNat, s_wr8m, s_enc, natsT_length, reduceCtorEq] at hbr) <;> (try ((with_reducible exfalso); omega)))
      | ((with_reducible refine runK hA hd hQ 200 ?hk ?_); (case hk => exact trivial); (conv => arg 9; cbv); (try simp only [OK]))
      | ((with_reducible refine need_of ?hn ?_); (case hn => ((simp (disch := omega) only [hA, OK, emaU, Int.reduceToNat, s_wr8m, s_enc, natsT_length]) <;> omega)))
      | fail
    refine ⟨_, rfl, 2, ?_, ?_, by decide, rfl⟩
    · show EV.sl 1 2 0 M none = _
      rw [hM, hX2 (by assumption), hA, leB_wrap n 8 (by omega) hn.1 hn.2]
    · show EO.blk e = _
      rw [he, hX2 (by assumption), hA, leB_wrap n 8 (by omega) hn.1 hn.2]
  · refine ⟨_, rfl, 4, ?_, ?_, by decide, rfl⟩
    · show EV.sl 1 4 0 (A.add (A.add N 1) (A.bsz t)) none = _
      rw [hX1 hb, hA, hN]
      show EV.sl 1 4 0 (l.length + 1 + t.size) none = _
      rw [show (l ++ (t.size % 256 :: natsT t)).length = l.length + 1 + t.size by simp only [List.length_append, List.length_cons, natsT_length]; omega]
    · rw [hX1 hb, ← text_blk t hN hc, hA]; rfl
end Go.Proofs.YtecephhhjhpcjaaGreatDoor.Stats
end
section
set_option linter.unusedVariables false
set_option linter.unusedSimpArgs false
-- emaX: s_bat
namespace Go.Proofs.YtecephhhjhpcjaaGreatDoor.Stats
open Go Go.Proofs.YtecephhhjhpcjaaGreatDoor Go.Proofs.YtecephhhjhpcjaaGreatDoor.Em
set_option maxRecDepth 100000 in
set_option maxHeartbeats 8000000 in
theorem put_ok (fs : List Fld) (ns : List Nt) (l : List StP) (hfs : fs.length ≤ 140737488351232) (hns : ns.length ≤ 140737488351232) (hok : okFs fs) (hnt : ∀ x ∈ ns, x.1.size ≤ 140737488351232 ∧ x.2.size ≤ 140737488351232) (hl : l.length ≤ 140737488351232) (hls : okSs l) (h : EH) :
    Tri Tryz.prog gs 10 [.agg [.isl fs.length none (cellsFs fs), .isl ns.length none (cellsNts ns)], .isl l.length none (cellsSs l)] h fun v h' => v = .tup [isB (putB fs ns l), .lit (.int .i64 (fitE fs ns l))] ∧ h' = h := by
  refine Tri.outB rfl (Tri_of F10_ok fun I0 ρ0 w0 Q hρ hQ => ?_) h
  obtain ⟨A, hA⟩ : ∃ A, A = stdA := ⟨_, rfl⟩
  have hft := fit_ok fs ns l hfs hns hok hnt hl hls
  obtain ⟨E, hE⟩ : ∃ E, E = fitE fs ns l := ⟨_, rfl⟩
  obtain ⟨B, hB⟩ : ∃ B, B = putB fs ns l := ⟨_, rfl⟩
  have hsg := st_get l
  have hfg := fs_get fs
  obtain ⟨fn, hfn⟩ : ∃ n, n = fs.length := ⟨_, rfl⟩
  obtain ⟨fc, hfc⟩ : ∃ n, n = cellsFs fs := ⟨_, rfl⟩
  obtain ⟨nn, hnn⟩ : ∃ n, n = ns.length := ⟨_, rfl⟩
  obtain ⟨nc, hnc⟩ : ∃ n, n = cellsNts ns := ⟨_, rfl⟩
  obtain ⟨sn, hsn⟩ : ∃ n, n = l.length := ⟨_, rfl⟩
  obtain ⟨sc, hsc⟩ : ∃ n, n = cellsSs l := ⟨_, rfl⟩
  rw [← hE, ← hB] at hQ
  rw [← hE, ← hfn, ← hfc, ← hnn, ← hnc, ← hsn, ← hsc] at hft
  rw [← hfn, ← hfc, ← hnn, ← hnc, ← hsn, ← hsc]
  with_reducible refine runS hA hd hQ 200 ?hk ?_
  case hk => exact trivial
  conv => arg 9; cbv
  try simp only [OK]
  repeat' first
    | (with_reducible refine OKK.loop ?_)
    | (with_reducible refine OKK.again ?_)
    | ((with_reducible refine opt_of (fun hop => ?_) (fun xop hop => ?_)) <;> (try simp (disch := omega) only [hA, OK, emaU, Int.reduceToNat, s_bat] at hop))
    | ((with_reducible refine ⟨fun hbr => ?_, fun hbr => ?_⟩) <;> (try simp (disch := omega) only [hA, OK, emaU, Int.reduceToNat, s_bat, reduceCtorEq] at hbr) <;> (try ((with_reducible exfalso); omega)))
    | ((with_reducible refine runK hA hd hQ 200 ?hk ?_); (case hk => exact trivial); (conv => arg 9; cbv); (try simp only [OK]))
    | ((with_reducible refine need_of ?hn ?_); (case hn => ((simp (disch := omega) only [hA, OK, emaU, Int.reduceToNat, s_bat]) <;> omega)))
    | (refine CallOK.of (goodF_of F25_ok) (Tri.mono (hft _) fun v hh hx => ?_); (obtain ⟨⟨z, hv, hz⟩, he⟩ := hx; subst hv; subst he))
    | fail
  · refine ⟨_, rfl, .lit (.slice none 0 0), ?_, .inl ⟨rfl, ?_⟩⟩
    · show EV.tup [_, .lit (.int .i64 z)] = _
      rw [hz]; rfl
    · rw [hB, putB, if_neg (by rw [← hE, ← hz]; exact hbr)]
  have hE0 : fitE fs ns l = 0 := by rw [← hE, ← hz]; exact Classical.byContradiction hbr
  obtain ⟨hms, hlen, hmay⟩ := fitE_inv hE0
  have hall := mayS_all hms
  have hfl : fs.length ≤ 32 := hms.1
  refine OKs.mask (msk 59 [2, 7, 17, 18, 19]) ?_
  refine OKs.loopN (fun m st => ∃ (i : Int) (M : Nat) (e : List EV), ((i = 0 ∧ st = ⟨mkT 59 [(2, .ptr 0 0), (7, .lit (.slice none 0 0)), (17, .isl sn none sc), (18, .lit (.int .i64 (A.ofn sn))), (19, .lit (.int .i64 i))], [.blk [.isl fn none fc, .isl nn none nc]]⟩) ∨
      (1 ≤ i ∧ st = ⟨mkT 59 [(2, .ptr 0 0), (7, .sl 1 1 0 M none), (17, .isl sn none sc), (18, .lit (.int .i64 (A.ofn sn))), (19, .lit (.int .i64 i))], [.blk [.isl fn none fc, .isl nn none nc], .blk e]⟩)) ∧ m = (sn - i).toNat ∧ 0 ≤ i ∧ i ≤ sn ∧
      M = (putN fs l i.toNat).length ∧ e = bytesE (putN fs l i.toNat))
    (fun m st hs' ih => ?_) ⟨0, 0, [], .inl ⟨rfl, rfl⟩, rfl, by omega, by omega, rfl, rfl⟩
  obtain ⟨i, M, e, hst, hm, hi1, hi2, hM, he⟩ := hs'
  obtain ⟨s, hs⟩ : ∃ s, s = l.getD i.toNat st0 := ⟨_, rfl⟩
  obtain ⟨f, hf⟩ : ∃ f, f = fs.getD i.toNat fld0 := ⟨_, rfl⟩
  have hpl := fun h : i < sn => plain_ck f (by rw [hf]; exact allFs_get fs _ hall (by omega))
  have hso : i < sn → s.ok := fun h => by rw [hs]; exact okSs_get l _ hls (by omega)
  have hsm : i < sn → s.may (ck f) := fun h => by rw [hs, hf]; exact hmay _ (by omega)
  have hLs : i < sn → List.take 11 (List.drop (A.idx 0 i 11) sc) = s.cells := fun h => by rw [hA, s_idx, Nat.zero_add, hsc, hsg i.toNat (by omega), ← hs]
  have hLf : i < sn → List.take 7 (List.drop (A.idx 0 i 7) fc) = cellsF f := fun h => by rw [hA, s_idx, Nat.zero_add, hfc, hfg i.toNat (by omega), ← hf]
  have hput : putN fs l (i.toNat + 1) = putN fs l i.toNat ++ putS (ck f) s := by rw [putN, ← hs, ← hf]
  have hlenX : i < sn → (putN fs l i.toNat).length ≤ 43 * 32 := fun h => by
    have := putN_len fs l i.toNat fun j hj => hmay j (by omega)
    omega
  obtain ⟨X, hX⟩ : ∃ X, X = putN fs l i.toNat := ⟨_, rfl⟩
  rw [← hX] at hM he hput hlenX
  have hbl := fun (h : i < sn) (hh : s.has = true) => bnd_ts (k := ck f) (hsm h) hh
  rw [cellsF_eq] at hLf hpl
  generalize cellsFs f.kids = kc, f.kids.length = kn, f.nm = nm, f.nul = nul, f.kind = k, f.width = w, f.id = id, f.idx = x at hLf hpl
  generalize ck f = K at hpl hsm hput hbl
  obtain ⟨r, n, hs1, ⟨b1, n1, t1, l1, c1⟩, ⟨b2, n2, t2, l2, c2⟩⟩ := s
  simp only [StP.cells, VP.cells, List.cons_append, List.nil_append] at hLs
  simp only [putS] at hput
  clear hs hf
  have hend : ¬ i < sn → X = B := fun h => by rw [hX, hB, putB, if_pos hE0, show i.toNat = l.length by omega]
  have hE1 : E = 0 := by rw [hE, hE0]
  have hrng : i < sn → X.length ≤ 43 * 32 := hlenX
  have hX0 : i = 0 → X = [] := fun h => by rw [hX, h]; rfl
  clear hlenX hX hE hB hft hz
  cases hs1 <;> rcases hst with ⟨hi0, rfl⟩ | ⟨hi0, rfl⟩
  all_goals
    with_reducible refine runS hA hd hQ 200 ?hk ?_
    case hk => exact trivial
    conv => arg 9; cbv
    try simp only [OK]
    repeat' first
      | (with_reducible refine OKK.loop ?_)
      | (with_reducible refine OKK.again ?_)
      | ((with_reducible refine opt_of (fun hop => ?_) (fun xop hop => ?_)) <;> (try simp (disch := omega) only [hA, OK, emaU, Int.reduceToNat, s_bat] at hop))
      | ((with_reducible refine ⟨fun hbr => ?_, fun hbr => ?_⟩) <;> (try simp (disch := omega) only [hA, OK, emaU, Int.reduceToNat, s_bat, reduceCtorEq] at hbr) <;> (try ((with_reducible exfalso); omega)))
      | ((with_reducible refine runK hA hd hQ 200 ?hk ?_); (case hk => exact trivial); (conv => arg 9; cbv); (try simp only [OK]))
      | ((with_reducible refine need_of ?hn ?_); (case hn => ((simp (disch := omega) only [hA, OK, emaU, Int.reduceToNat, s_bat]) <;> omega)))
      | ((refine ⟨_, _, ?l1, (hLs (by omega)), rfl, ?_⟩); (case l1 => exact rfl))
      | fail
  all_goals try (refine ⟨_, rfl, .lit (.slice none 0 0), by rw [hE1]; rfl, .inl ⟨rfl, ?_⟩⟩; rw [← hend (by omega)]; exact hX0 hi0)
  all_goals try (refine ⟨_, rfl, .sl 1 1 0 M none, by rw [hE1]; rfl, .inr ⟨1, M, none, e, rfl, ?_, rfl, ?_⟩⟩ <;> rw [← hend (by omega)] <;> assumption)
  all_goals
    have hXl := hrng (by omega)
    first
      | refine CallOK.of (goodF_of F26_ok) (Tri.mono ((num_ok0 r 4 (by omega) (by omega)).callV rfl _) fun v hh hx => ?_)
      | refine CallOK.of (goodF_of F26_ok) (Tri.mono ((num_ok X r 4 (by omega) (by omega) (by omega)).callV rfl hM he rfl) fun v hh hx => ?_)
    obtain ⟨M1, e1, hv, hh', hM1, he1⟩ := hx
    subst hv; subst hh'
    have hM2 : M1 = (X ++ leB r 4).length := by first | exact hM1 | (rw [hM1, hX0 hi0]; rfl)
    have he2 : e1 = bytesE (X ++ leB r 4) := by first | exact he1 | (rw [he1, hX0 hi0]; rfl)
    clear hM1 he1 hM he
    have hl4 := leB_length 4 r
    have hl5 := leB_length 4 n
    with_reducible refine runK hA hd hQ 1 ?hk ?_
    case hk => exact trivial
    conv => arg 9; cbv
    try simp only [OK]
    repeat' first
      | (with_reducible refine OKK.loop ?_)
      | (with_reducible refine OKK.again ?_)
      | ((with_reducible refine opt_of (fun hop => ?_) (fun xop hop => ?_)) <;> (try simp (disch := omega) only [hA, OK, emaU, Int.reduceToNat, s_bat] at hop))
      | ((with_reducible refine ⟨fun hbr => ?_, fun hbr => ?_⟩) <;> (try simp (disch := omega) only [hA, OK, emaU, Int.reduceToNat, s_bat, reduceCtorEq] at hbr) <;> (try ((with_reducible exfalso); omega)))
      | ((with_reducible refine runK hA hd hQ 200 ?hk ?_); (case hk => exact trivial); (conv => arg 9; cbv); (try simp only [OK]))
      | ((with_reducible refine need_of ?hn ?_); (case hn => ((simp (disch := omega) only [hA, OK, emaU, Int.reduceToNat, s_bat]) <;> omega)))
      | fail
    refine CallOK.of (goodF_of F26_ok) (Tri.mono ((num_ok (X ++ leB r 4) n 4 (by omega) (by omega) (by simp only [List.length_append]; omega)).callV rfl hM2 he2 rfl) fun v hh hx => ?_)
    obtain ⟨M2, e2, hv, hh', hM3, he3⟩ := hx
    subst hv; subst hh'
    have hel2 : e2.length = M2 := by rw [he3, bytesE_length, hM3]
    have hM3l : M2 = X.length + 8 := by rw [hM3]; simp only [List.length_append]; omega
    with_reducible refine runK hA hd hQ 1 ?hk ?_
    case hk => exact trivial
    conv => arg 9; cbv
    try simp only [OK]
    repeat' first
      | (with_reducible refine OKK.loop ?_)
      | (with_reducible refine OKK.again ?_)
      | ((with_reducible refine opt_of (fun hop => ?_) (fun xop hop => ?_)) <;> (try simp (disch := omega) only [hA, OK, emaU, Int.reduceToNat, s_bat] at hop))
      | ((with_reducible refine ⟨fun hbr => ?_, fun hbr => ?_⟩) <;> (try simp (disch := omega) only [hA, OK, emaU, Int.reduceToNat, s_bat, reduceCtorEq] at hbr) <;> (try ((with_reducible exfalso); omega)))
      | ((with_reducible refine runK hA hd hQ 200 ?hk ?_); (case hk => exact trivial); (conv => arg 9; cbv); (try simp only [OK]))
      | ((with_reducible refine need_of ?hn ?_); (case hn => ((simp (disch := omega) only [hA, OK, emaU, Int.reduceToNat, s_bat]) <;> omega)))
      | ((refine ⟨_, _, ?l1, (hLf (by omega)), rfl, ?_⟩); (case l1 => exact rfl))
      | fail
  all_goals try (
    refine CallOK.of (goodF_of F17_ok) (Tri.mono (hpl (by omega) _) fun v hh hx => ?_)
    obtain ⟨⟨_, _, k2, _, _, _, _, _, hv, hk2⟩, hh'⟩ := hx
    subst hv; subst hh'
    have hbl2 := hbl (by omega) rfl
    simp only at hbl2
    have hso2 := hso (by omega)
    with_reducible refine runK hA hd hQ 1 ?hk ?_
    case hk => exact trivial
    conv => arg 9; cbv
    try simp only [OK]
    repeat' first
      | (with_reducible refine OKK.loop ?_)
      | (with_reducible refine OKK.again ?_)
      | (with_reducible refine And.intro trivial ?_)
      | ((with_reducible refine opt_of (fun hop => ?_) (fun xop hop => ?_)) <;> (try simp (disch := omega) only [hA, OK, emaU, Int.reduceToNat, s_bat] at hop))
      | ((with_reducible refine ⟨fun hbr => ?_, fun hbr => ?_⟩) <;> (try simp (disch := omega) only [hA, OK, emaU, Int.reduceToNat, s_bat, reduceCtorEq] at hbr) <;> (try ((with_reducible exfalso); omega)))
      | ((with_reducible refine runK hA hd hQ 200 ?hk ?_); (case hk => exact trivial); (conv => arg 9; cbv); (try simp only [OK]))
      | ((with_reducible refine need_of ?hn ?_); (case hn => ((simp (disch := omega) only [hA, OK, emaU, Int.reduceToNat, s_bat]) <;> omega)))
      | fail
    refine CallOK.of (goodF_of F27_ok) (Tri.mono ((bound_ok (X ++ leB r 4 ++ leB n 4 ++ [1]) k2 ⟨b1, n1, t1, l1, c1⟩ (by simp only [List.length_append, List.length_singleton]; omega) hso2.2.2.1 (by rw [hk2]; exact hbl2.1)).callV rfl (by rw [hA]; show M2 + 1 = _; rw [hM3]; simp only [List.length_append, List.length_singleton]) (by rw [hA]; exact one_blk hM3 he3 rfl) rfl) fun v hh hx => ?_)
    obtain ⟨M3, e3, hv, hh', hM4, he4⟩ := hx
    subst hv; subst hh'
    have hel3 : e3.length = M3 := by rw [he4, bytesE_length, hM4]
    have hM4l : M3 ≤ X.length + 26 := by rw [hM4]; have h17 := hbl2.2.2.1; rw [← hk2] at h17; simp only [List.length_append, List.length_singleton]; omega
    with_reducible refine runK hA hd hQ 1 ?hk ?_
    case hk => exact trivial
    conv => arg 9; cbv
    try simp only [OK]
    repeat' first
      | (with_reducible refine OKK.loop ?_)
      | (with_reducible refine OKK.again ?_)
      | (with_reducible refine And.intro trivial ?_)
      | ((with_reducible refine opt_of (fun hop => ?_) (fun xop hop => ?_)) <;> (try simp (disch := omega) only [hA, OK, emaU, Int.reduceToNat, s_bat] at hop))
      | ((with_reducible refine ⟨fun hbr => ?_, fun hbr => ?_⟩) <;> (try simp (disch := omega) only [hA, OK, emaU, Int.reduceToNat, s_bat, reduceCtorEq] at hbr) <;> (try ((with_reducible exfalso); omega)))
      | ((with_reducible refine runK hA hd hQ 200 ?hk ?_); (case hk => exact trivial); (conv => arg 9; cbv); (try simp only [OK]))
      | ((with_reducible refine need_of ?hn ?_); (case hn => ((simp (disch := omega) only [hA, OK, emaU, Int.reduceToNat, s_bat]) <;> omega)))
      | fail
    refine CallOK.of (goodF_of F27_ok) (Tri.mono ((bound_ok (X ++ leB r 4 ++ leB n 4 ++ [1] ++ bndB k2 ⟨b1, n1, t1, l1, c1⟩) k2 ⟨b2, n2, t2, l2, c2⟩ (by rw [← hM4]; omega) hso2.2.2.2 (by rw [hk2]; exact hbl2.2.1)).callV rfl hM4 he4 rfl) fun v hh hx => ?_)
    obtain ⟨M4, e4, hv, hh', hM5, he5⟩ := hx
    subst hv; subst hh'
    with_reducible refine runK hA hd hQ 1 ?hk ?_
    case hk => exact trivial
    conv => arg 9; cbv
    try simp only [OK]
    repeat' first
      | (with_reducible refine OKK.loop ?_)
      | (with_reducible refine OKK.again ?_)
      | (with_reducible refine And.intro trivial ?_)
      | ((with_reducible refine opt_of (fun hop => ?_) (fun xop hop => ?_)) <;> (try simp (disch := omega) only [hA, OK, emaU, Int.reduceToNat, s_bat] at hop))
      | ((with_reducible refine ⟨fun hbr => ?_, fun hbr => ?_⟩) <;> (try simp (disch := omega) only [hA, OK, emaU, Int.reduceToNat, s_bat, reduceCtorEq] at hbr) <;> (try ((with_reducible exfalso); omega)))
      | ((with_reducible refine runK hA hd hQ 200 ?hk ?_); (case hk => exact trivial); (conv => arg 9; cbv); (try simp only [OK]))
      | ((with_reducible refine need_of ?hn ?_); (case hn => ((simp (disch := omega) only [hA, OK, emaU, Int.reduceToNat, s_bat]) <;> omega)))
      | fail
    skip)
  all_goals
    have hi' : (A.ib .add .i64 i 1).toNat = i.toNat + 1 := by simp (disch := omega) only [hA, OK, emaU, Int.reduceToNat, s_bat] <;> omega
    first
      | refine OKs.mask (msk 59 [2, 7, 17, 18, 19]) (OKs.mv [0, 5] [] (by rw [hρ]; rfl) ⟨by simp, by simp [sizeH], by simp⟩ (ih _ _ ⟨_, _, _, .inr ⟨?_, rfl⟩, rfl, ?_, ?_, ?_, ?_⟩ ?_))
      | refine OKs.mask (msk 59 [2, 7, 17, 18, 19]) (OKs.mv [0, 6] [] (by rw [hρ]; rfl) ⟨by simp, by simp [sizeH], by simp⟩ (ih _ _ ⟨_, _, _, .inr ⟨?_, rfl⟩, rfl, ?_, ?_, ?_, ?_⟩ ?_))
      | refine OKs.mask (msk 59 [2, 7, 17, 18, 19]) (OKs.mv [0, 7] [] (by rw [hρ]; rfl) ⟨by simp, by simp [sizeH], by simp⟩ (ih _ _ ⟨_, _, _, .inr ⟨?_, rfl⟩, rfl, ?_, ?_, ?_, ?_⟩ ?_))
      | refine OKs.mask (msk 59 [2, 7, 17, 18, 19]) (OKs.mv [0, 8] [] (by rw [hρ]; rfl) ⟨by simp, by simp [sizeH], by simp⟩ (ih _ _ ⟨_, _, _, .inr ⟨?_, rfl⟩, rfl, ?_, ?_, ?_, ?_⟩ ?_))
    · simp (disch := omega) only [hA, OK, emaU, Int.reduceToNat, s_bat] <;> omega
    · simp (disch := omega) only [hA, OK, emaU, Int.reduceToNat, s_bat] <;> omega
    · simp (disch := omega) only [hA, OK, emaU, Int.reduceToNat, s_bat] <;> omega
    · show _ = (putN fs l (A.ib .add .i64 i 1).toNat).length
      rw [hi', hput]
      simp only [Bool.false_eq_true, ↓reduceIte]
      first
        | (rw [hM5, hk2]; simp only [List.length_append, List.length_cons, List.length_nil]; omega)
        | (rw [hA]; show M2 + 1 = _; rw [hM3]; simp only [List.length_append, List.length_singleton]; omega)
    · show _ = bytesE (putN fs l (A.ib .add .i64 i 1).toNat)
      rw [hi', hput]
      simp only [Bool.false_eq_true, ↓reduceIte, ← List.append_assoc]
      first
        | (rw [he5, hk2]; exact (mvL_bytes _ _ _).trans (by simp))
        | (rw [hA]; exact (congrArg (mvL _ _) (one_blk hM3 he3 rfl)).trans (mvL_bytes _ _ _))
    · simp (disch := omega) only [hA, OK, emaU, Int.reduceToNat, s_bat] <;> omega
end Go.Proofs.YtecephhhjhpcjaaGreatDoor.Stats
end
section
set_option linter.unusedVariables false
set_option linter.unusedSimpArgs false
-- emaX: s_bat
namespace Go.Proofs.YtecephhhjhpcjaaGreatDoor.Stats
open Go Go.Proofs.YtecephhhjhpcjaaGreatDoor Go.Proofs.YtecephhhjhpcjaaGreatDoor.Em
/-- a part of what is looked at -/
theorem sub_look {c L : List EV} {o n a m : Nat} (h : (c.drop o).take n = L) (ham : a + m ≤ n) : (c.drop (o + a)).take m = (L.drop a).take m := by
  subst h
  rw [List.drop_take, List.drop_drop, List.take_take, Nat.min_eq_left (by omega)]
theorem sub_lookA {A : Ar} {c L : List EV} {o n a m : Nat} (hA : A = stdA) (h : (c.drop o).take n = L) (ham : a + m ≤ n) : (c.drop (A.add o a)).take m = (L.drop a).take m := by
  subst hA; exact sub_look h ham
set_option maxRecDepth 100000 in
set_option maxHeartbeats 8000000 in
theorem putR_ok (fs : List Fld) (ns : List Nt) (l : List StP) (hfs : fs.length ≤ 140737488351232) (hns : ns.length ≤ 140737488351232) (hok : okFs fs) (hnt : ∀ x ∈ ns, x.1.size ≤ 140737488351232 ∧ x.2.size ≤ 140737488351232) (hl : l.length ≤ 140737488351232) (hls : okSs l) (h : EH) :
    Tri Tryz.prog gs 11 [.agg [.isl fs.length none (cellsFs fs), .isl ns.length none (cellsNts ns)], .isl l.length none (cellsSs l)] h fun v h' => v = .tup [isB (putB fs ns l), .lit (.int .i64 (fitE fs ns l))] ∧ h' = h := by
  refine Tri.outB rfl (Tri_of F11_ok fun I0 ρ0 w0 Q hρ hQ => ?_) h
  obtain ⟨A, hA⟩ : ∃ A, A = stdA := ⟨_, rfl⟩
  have hck := checkR_ok fs ns hfs hns hok hnt
  obtain ⟨E, hE⟩ : ∃ E, E = fitE fs ns l := ⟨_, rfl⟩
  obtain ⟨B, hB⟩ : ∃ B, B = putB fs ns l := ⟨_, rfl⟩
  have hsg := st_get l
  have hfg := fs_get fs
  obtain ⟨fn, hfn⟩ : ∃ n, n = fs.length := ⟨_, rfl⟩
  obtain ⟨fc, hfc⟩ : ∃ n, n = cellsFs fs := ⟨_, rfl⟩
  obtain ⟨nn, hnn⟩ : ∃ n, n = ns.length := ⟨_, rfl⟩
  obtain ⟨nc, hnc⟩ : ∃ n, n = cellsNts ns := ⟨_, rfl⟩
  obtain ⟨sn, hsn⟩ : ∃ n, n = l.length := ⟨_, rfl⟩
  obtain ⟨sc, hsc⟩ : ∃ n, n = cellsSs l := ⟨_, rfl⟩
  rw [← hE, ← hB] at hQ
  rw [← hfn, ← hfc, ← hnn, ← hnc] at hck
  rw [← hfn, ← hfc, ← hnn, ← hnc, ← hsn, ← hsc]
  with_reducible refine runS hA hd hQ 200 ?hk ?_
  case hk => exact trivial
  conv => arg 9; cbv
  try simp only [OK]
  repeat' first
    | (with_reducible refine OKK.loop ?_)
    | (with_reducible refine OKK.again ?_)
    | ((with_reducible refine opt_of (fun hop => ?_) (fun xop hop => ?_)) <;> (try simp (disch := omega) only [hA, OK, emaU, Int.reduceToNat, s_bat] at hop))
    | ((with_reducible refine ⟨fun hbr => ?_, fun hbr => ?_⟩) <;> (try simp (disch := omega) only [hA, OK, emaU, Int.reduceToNat, s_bat, reduceCtorEq] at hbr) <;> (try ((with_reducible exfalso); omega)))
    | ((with_reducible refine runK hA hd hQ 200 ?hk ?_); (case hk => exact trivial); (conv => arg 9; cbv); (try simp only [OK]))
    | ((with_reducible refine need_of ?hn ?_); (case hn => ((simp (disch := omega) only [hA, OK, emaU, Int.reduceToNat, s_bat]) <;> omega)))
    | fail
  refine CallOK.of (goodF_of F28_ok) (Tri.mono (hck _) fun v hh hx => ?_)
  obtain ⟨⟨e, at', pn, pc, hv, he⟩, hh'⟩ := hx
  subst hv; subst hh'
  with_reducible refine runK hA hd hQ 1 ?hk ?_
  case hk => exact trivial
  conv => arg 9; cbv
  try simp only [OK]
  repeat' first
    | (with_reducible refine OKK.loop ?_)
    | (with_reducible refine OKK.again ?_)
    | ((with_reducible refine opt_of (fun hop => ?_) (fun xop hop => ?_)) <;> (try simp (disch := omega) only [hA, OK, emaU, Int.reduceToNat, s_bat] at hop))
    | ((with_reducible refine ⟨fun hbr => ?_, fun hbr => ?_⟩) <;> (try simp (disch := omega) only [hA, OK, emaU, Int.reduceToNat, s_bat, reduceCtorEq] at hbr) <;> (try ((with_reducible exfalso); omega)))
    | ((with_reducible refine runK hA hd hQ 200 ?hk ?_); (case hk => exact trivial); (conv => arg 9; cbv); (try simp only [OK]))
    | ((with_reducible refine need_of ?hn ?_); (case hn => ((simp (disch := omega) only [hA, OK, emaU, Int.reduceToNat, s_bat]) <;> omega)))
    | fail
  rotate_left 2
  · have hms : mayS fs ns := he.1 (by omega)
    have hlen : l.length = fs.length := by omega
    have hall := mayS_all hms
    have hfl : fs.length ≤ 32 := hms.1
    refine OKs.up 7 (.sl 1 2 0 0 none) (Up.scap _ _ _ _ _) ?_
    refine OKs.mask (msk 94 [1, 2, 7, 8]) (OKs.mv [0, 2] [] (by rw [hρ]; rfl) ⟨by simp, by simp [sizeH], by simp⟩ ?_)
    refine OKs.loopN (fun m st => ∃ (i : Int) (M : Nat) (e : List EV), st = ⟨mkT 94 [(1, .isl sn none sc), (2, .ptr 0 0), (7, .sl 1 1 0 M none), (8, .lit (.int .i64 i))], [.blk [.isl fn none fc, .isl nn none nc], .blk e]⟩ ∧ m = (sn - i).toNat ∧ 0 ≤ i ∧ i ≤ sn ∧
        M = (putN fs l i.toNat).length ∧ e = bytesE (putN fs l i.toNat) ∧ ∀ j, j < i.toNat → (l.getD j st0).may (ck (fs.getD j fld0)))
      (fun m st hs' ih => ?_) ⟨0, 0, [], rfl, rfl, by omega, by omega, rfl, rfl, fun j hj => absurd hj (by simp)⟩
    obtain ⟨i, M, e', rfl, hm, hi1, hi2, hM, he', hi3⟩ := hs'
    have hno := fun h1 h2 => fitE_no3 (fs := fs) (ns := ns) (l := l) hms hlen (i := i.toNat) h1 h2
    have hst := allP_step (p := fun j => (l.getD j st0).may (ck (fs.getD j fld0))) hi1 hi3
    obtain ⟨s, hs⟩ : ∃ s, s = l.getD i.toNat st0 := ⟨_, rfl⟩
    obtain ⟨f, hf⟩ : ∃ f, f = fs.getD i.toNat fld0 := ⟨_, rfl⟩
    have hso : i < sn → s.ok := fun h => by rw [hs]; exact okSs_get l _ hls (by omega)
    have hfa : i < sn → allF f := fun h => by rw [hf]; exact allFs_get fs _ hall (by omega)
    have hkd := fun h : i < sn => kindOf_ck f (hfa h)
    have hisS := fun h : i < sn => isR_ck f (hfa h) s (hso h)
    have hLs : i < sn → List.take 11 (List.drop (A.idx 0 i 11) sc) = s.cells := fun h => by rw [hA, s_idx, Nat.zero_add, hsc, hsg i.toNat (by omega), ← hs]
    have hLf : i < sn → List.take 7 (List.drop (A.idx 0 i 7) fc) = cellsF f := fun h => by rw [hA, s_idx, Nat.zero_add, hfc, hfg i.toNat (by omega), ← hf]
    have hput : putN fs l (i.toNat + 1) = putN fs l i.toNat ++ putS (ck f) s := by rw [putN, ← hs, ← hf]
    obtain ⟨X, hX⟩ : ∃ X, X = putN fs l i.toNat := ⟨_, rfl⟩
    have hXl : i < sn → X.length ≤ 43 * 32 := fun h => by
      have := putN_len fs l i.toNat hi3
      rw [hX]; omega
    have hbl := fun (hm : s.may (ck f)) (hh : s.has = true) => bnd_ts (k := ck f) hm hh
    rw [← hX] at hM he' hput
    rw [← hs, ← hf] at hst hno
    have L0 := fun h : i < sn => sub_lookA (a := 0) (m := 1) hA (hLs h) (by omega)
    have L1 := fun h : i < sn => sub_lookA (a := 1) (m := 1) hA (hLs h) (by omega)
    have L2 := fun h : i < sn => sub_lookA (a := 2) (m := 1) hA (hLs h) (by omega)
    have L3 := fun h : i < sn => sub_lookA (a := 3) (m := 4) hA (hLs h) (by omega)
    have L7 := fun h : i < sn => sub_lookA (a := 7) (m := 4) hA (hLs h) (by omega)
    rw [cellsF_eq] at hLf hisS hkd
    generalize cellsFs f.kids = kc, f.kids.length = kn, f.nm = nm, f.nul = nul, f.kind = k, f.width = w, f.id = id, f.idx = x at hLf hisS hkd
    generalize hK : ck f = K at hst hno hisS hkd hput hbl
    have hmp : ∃ mp, mp = s.may K := ⟨_, rfl⟩
    obtain ⟨mp, hmp⟩ := hmp
    rw [← hmp] at hst hno hisS hbl
    clear hmp
    obtain ⟨r, n, hs1, ⟨b1, n1, t1, l1, c1⟩, ⟨b2, n2, t2, l2, c2⟩⟩ := s
    simp only [StP.cells, VP.cells, List.cons_append, List.nil_append, List.drop_succ_cons, List.drop_zero, List.take_succ_cons, List.take_zero] at hLs hisS L0 L1 L2 L3 L7
    simp only [putS] at hput
    have hrest : ¬ i < sn → X = B ∧ E = 0 := fun h => by
      have h0 := fitE_ok (ns := ns) hms hlen fun j hj => hi3 j (by omega)
      exact ⟨by rw [hX, hB, putB, if_pos h0, show i.toNat = l.length by omega], by rw [hE, h0]⟩
    have hbad : i < sn → ¬ mp → B = [] ∧ E = 7 := fun h h2 => by
      have h7 := hno (by omega) h2
      exact ⟨by rw [hB, putB, if_neg (by omega)], by rw [hE, h7]⟩
    clear hs hf hX hfa hno
    cases hs1
    all_goals
      with_reducible refine runS hA hd hQ 200 ?hk ?_
      case hk => exact trivial
      conv => arg 9; cbv
      try simp only [OK]
      repeat' first
        | (with_reducible refine OKK.loop ?_)
        | (with_reducible refine OKK.again ?_)
        | ((with_reducible refine opt_of (fun hop => ?_) (fun xop hop => ?_)) <;> (try simp (disch := omega) only [hA, OK, emaU, Int.reduceToNat, s_bat] at hop))
        | ((with_reducible refine ⟨fun hbr => ?_, fun hbr => ?_⟩) <;> (try simp (disch := omega) only [hA, OK, emaU, Int.reduceToNat, s_bat, reduceCtorEq] at hbr) <;> (try ((with_reducible exfalso); omega)))
        | ((with_reducible refine runK hA hd hQ 200 ?hk ?_); (case hk => exact trivial); (conv => arg 9; cbv); (try simp only [OK]))
        | ((with_reducible refine need_of ?hn ?_); (case hn => ((simp (disch := omega) only [hA, OK, emaU, Int.reduceToNat, s_bat]) <;> omega)))
        | ((refine ⟨_, _, ?l1, (hLs (by omega)), rfl, ?_⟩); (case l1 => exact rfl))
        | ((refine ⟨_, _, ?l1, (hLf (by omega)), rfl, ?_⟩); (case l1 => exact rfl))
        | ((refine ⟨_, _, ?l1, (L0 (by omega)), rfl, ?_⟩); (case l1 => exact rfl))
        | ((refine ⟨_, _, ?l1, (L1 (by omega)), rfl, ?_⟩); (case l1 => exact rfl))
        | ((refine ⟨_, _, ?l1, (L2 (by omega)), rfl, ?_⟩); (case l1 => exact rfl))
        | ((refine ⟨_, _, ?l1, (L3 (by omega)), rfl, ?_⟩); (case l1 => exact rfl))
        | ((refine ⟨_, _, ?l1, (L7 (by omega)), rfl, ?_⟩); (case l1 => exact rfl))
        | (refine CallOK.of (goodF_of F20_ok) (Tri.mono (hisS (by omega) _) fun v hh hx => ?_); (obtain ⟨⟨b, hv, hb⟩, he⟩ := hx; subst hv; subst he; cases b <;> simp (disch := omega) only [hA, OK, emaU, Int.reduceToNat, s_bat, Bool.false_eq_true, true_iff, false_iff, eq_self, reduceCtorEq] at hb) <;> (try ((with_reducible exfalso); omega)))
        | (refine CallOK.of (goodF_of F21_ok) (Tri.mono (hkd (by omega) _) fun v hh hx => ?_); (obtain ⟨⟨z, hv, hz⟩, he⟩ := hx; subst hv; subst he))
        | fail
    all_goals try (refine ⟨_, rfl, .lit (.slice none 0 0), by rw [(hbad (by omega) (by assumption)).2]; rfl, .inl ⟨rfl, (hbad (by omega) (by assumption)).1⟩⟩)
    all_goals try (refine ⟨_, rfl, .sl 1 1 0 M none, by rw [(hrest (by omega)).2]; rfl, .inr ⟨1, M, none, e', rfl, ?_, rfl, ?_⟩⟩ <;> rw [← (hrest (by omega)).1] <;> assumption)
    all_goals
      have hXl' := hXl (by omega)
      have hso2 := hso (by omega)
      simp only [StP.ok] at hso2
      have hl4 := leB_length 4 r
      have hl5 := leB_length 4 n
      refine CallOK.of (goodF_of F29_ok) (Tri.mono ((bytesW_ok hA X r 4 (by omega) (by omega) (by omega) hso2.1).callV rfl hM he' rfl) fun v hh hx => ?_)
      obtain ⟨M1, e1, hv, hh', hM2, he2⟩ := hx
      subst hv; subst hh'
      with_reducible refine runK hA hd hQ 1 ?hk ?_
      case hk => exact trivial
      conv => arg 9; cbv
      try simp only [OK]
      repeat' first
        | (with_reducible refine OKK.loop ?_)
        | (with_reducible refine OKK.again ?_)
        | ((with_reducible refine opt_of (fun hop => ?_) (fun xop hop => ?_)) <;> (try simp (disch := omega) only [hA, OK, emaU, Int.reduceToNat, s_bat] at hop))
        | ((with_reducible refine ⟨fun hbr => ?_, fun hbr => ?_⟩) <;> (try simp (disch := omega) only [hA, OK, emaU, Int.reduceToNat, s_bat, reduceCtorEq] at hbr) <;> (try ((with_reducible exfalso); omega)))
        | ((with_reducible refine runK hA hd hQ 200 ?hk ?_); (case hk => exact trivial); (conv => arg 9; cbv); (try simp only [OK]))
        | ((with_reducible refine need_of ?hn ?_); (case hn => ((simp (disch := omega) only [hA, OK, emaU, Int.reduceToNat, s_bat]) <;> omega)))
        | ((refine ⟨_, _, ?l1, (L1 (by omega)), rfl, ?_⟩); (case l1 => exact rfl))
        | fail
      refine CallOK.of (goodF_of F29_ok) (Tri.mono ((bytesW_ok hA (X ++ leB r 4) n 4 (by omega) (by omega) (by simp only [List.length_append]; omega) hso2.2.1).callV rfl hM2 he2 rfl) fun v hh hx => ?_)
      obtain ⟨M2, e2, hv, hh', hM3, he3⟩ := hx
      subst hv; subst hh'
      have hel2 : e2.length = M2 := by rw [he3, bytesE_length, hM3]
      have hM3l : M2 = X.length + 8 := by rw [hM3]; simp only [List.length_append]; omega
      with_reducible refine runK hA hd hQ 1 ?hk ?_
      case hk => exact trivial
      conv => arg 9; cbv
      try simp only [OK]
      repeat' first
        | (with_reducible refine OKK.loop ?_)
        | (with_reducible refine OKK.again ?_)
        | ((with_reducible refine opt_of (fun hop => ?_) (fun xop hop => ?_)) <;> (try simp (disch := omega) only [hA, OK, emaU, Int.reduceToNat, s_bat] at hop))
        | ((with_reducible refine ⟨fun hbr => ?_, fun hbr => ?_⟩) <;> (try simp (disch := omega) only [hA, OK, emaU, Int.reduceToNat, s_bat, reduceCtorEq] at hbr) <;> (try ((with_reducible exfalso); omega)))
        | ((with_reducible refine runK hA hd hQ 200 ?hk ?_); (case hk => exact trivial); (conv => arg 9; cbv); (try simp only [OK]))
        | ((with_reducible refine need_of ?hn ?_); (case hn => ((simp (disch := omega) only [hA, OK, emaU, Int.reduceToNat, s_bat]) <;> omega)))
        | ((refine ⟨_, _, ?l1, (L2 (by omega)), rfl, ?_⟩); (case l1 => exact rfl))
        | ((refine ⟨_, _, ?l1, (L3 (by omega)), rfl, ?_⟩); (case l1 => exact rfl))
        | ((refine ⟨_, _, ?l1, (hLf (by omega)), rfl, ?_⟩); (case l1 => exact rfl))
        | (refine CallOK.of (goodF_of F21_ok) (Tri.mono (hkd (by omega) _) fun v hh hx => ?_); (obtain ⟨⟨z, hv, hz⟩, he⟩ := hx; subst hv; subst he))
        | fail
    rotate_left 1
    · have hbl2 := hbl (by assumption) rfl
      simp only at hbl2
      refine CallOK.of (goodF_of F30_ok) (Tri.mono ((limit_ok (X ++ leB r 4 ++ leB n 4 ++ [1]) z ⟨b1, n1, t1, l1, c1⟩ (by simp only [List.length_append, List.length_singleton]; omega) hso2.2.2.1 (by rw [hz]; exact hbl2.1)).callV rfl (by rw [hA]; show M2 + 1 = _; rw [hM3]; simp only [List.length_append, List.length_singleton]) (by rw [hA]; exact one_blk hM3 he3 rfl) rfl) fun v hh hx => ?_)
      obtain ⟨M3, e3, hv, hh', hM4, he4⟩ := hx
      subst hv; subst hh'
      have hM4l : M3 ≤ X.length + 26 := by rw [hM4]; have h17 := hbl2.2.2.1; rw [← hz] at h17; simp only [List.length_append, List.length_singleton]; omega
      with_reducible refine runK hA hd hQ 1 ?hk ?_
      case hk => exact trivial
      conv => arg 9; cbv
      try simp only [OK]
      repeat' first
        | (with_reducible refine OKK.loop ?_)
        | (with_reducible refine OKK.again ?_)
        | ((with_reducible refine opt_of (fun hop => ?_) (fun xop hop => ?_)) <;> (try simp (disch := omega) only [hA, OK, emaU, Int.reduceToNat, s_bat] at hop))
        | ((with_reducible refine ⟨fun hbr => ?_, fun hbr => ?_⟩) <;> (try simp (disch := omega) only [hA, OK, emaU, Int.reduceToNat, s_bat, reduceCtorEq] at hbr) <;> (try ((with_reducible exfalso); omega)))
        | ((with_reducible refine runK hA hd hQ 200 ?hk ?_); (case hk => exact trivial); (conv => arg 9; cbv); (try simp only [OK]))
        | ((with_reducible refine need_of ?hn ?_); (case hn => ((simp (disch := omega) only [hA, OK, emaU, Int.reduceToNat, s_bat]) <;> omega)))
        | ((refine ⟨_, _, ?l1, (L7 (by omega)), rfl, ?_⟩); (case l1 => exact rfl))
        | fail
      refine CallOK.of (goodF_of F30_ok) (Tri.mono ((limit_ok (X ++ leB r 4 ++ leB n 4 ++ [1] ++ bndB z ⟨b1, n1, t1, l1, c1⟩) z ⟨b2, n2, t2, l2, c2⟩ (by rw [← hM4]; omega) hso2.2.2.2 (by rw [hz]; exact hbl2.2.1)).callV rfl hM4 he4 rfl) fun v hh hx => ?_)
      obtain ⟨M4, e4, hv, hh', hM5, he5⟩ := hx
      subst hv; subst hh'
      with_reducible refine runK hA hd hQ 1 ?hk ?_
      case hk => exact trivial
      conv => arg 9; cbv
      try simp only [OK]
      repeat' first
        | (with_reducible refine OKK.loop ?_)
        | (with_reducible refine OKK.again ?_)
        | ((with_reducible refine opt_of (fun hop => ?_) (fun xop hop => ?_)) <;> (try simp (disch := omega) only [hA, OK, emaU, Int.reduceToNat, s_bat] at hop))
        | ((with_reducible refine ⟨fun hbr => ?_, fun hbr => ?_⟩) <;> (try simp (disch := omega) only [hA, OK, emaU, Int.reduceToNat, s_bat, reduceCtorEq] at hbr) <;> (try ((with_reducible exfalso); omega)))
        | ((with_reducible refine runK hA hd hQ 200 ?hk ?_); (case hk => exact trivial); (conv => arg 9; cbv); (try simp only [OK]))
        | ((with_reducible refine need_of ?hn ?_); (case hn => ((simp (disch := omega) only [hA, OK, emaU, Int.reduceToNat, s_bat]) <;> omega)))
        | fail
      refine OKs.mask (msk 94 [1, 2, 7, 8]) (OKs.mv [0, 7] [] (by rw [hρ]; rfl) ⟨by simp, by simp [sizeH], by simp⟩ (ih _ _ ⟨_, _, _, rfl, rfl, ?_, ?_, ?_, ?_, ?_⟩ ?_))
      · simp (disch := omega) only [hA, OK, emaU, Int.reduceToNat, s_bat] <;> omega
      · simp (disch := omega) only [hA, OK, emaU, Int.reduceToNat, s_bat] <;> omega
      · show _ = (putN fs l (A.ib .add .i64 i 1).toNat).length
        rw [show (A.ib .add .i64 i 1).toNat = i.toNat + 1 by simp (disch := omega) only [hA, OK, emaU, Int.reduceToNat, s_bat] <;> omega, hput, hM5, hz]
        simp only [↓reduceIte, List.length_append, List.length_cons, List.length_nil]; omega
      · show _ = bytesE (putN fs l (A.ib .add .i64 i 1).toNat)
        rw [show (A.ib .add .i64 i 1).toNat = i.toNat + 1 by simp (disch := omega) only [hA, OK, emaU, Int.reduceToNat, s_bat] <;> omega, hput, he5, hz]
        exact (mvL_bytes _ _ _).trans (by simp)
      · show ∀ j, j < (A.ib .add .i64 i 1).toNat → _
        rw [show A.ib .add .i64 i 1 = i + 1 by simp (disch := omega) only [hA, OK, emaU, Int.reduceToNat, s_bat] <;> omega]
        exact hst (by assumption)
      · simp (disch := omega) only [hA, OK, emaU, Int.reduceToNat, s_bat] <;> omega
    · refine OKs.mask (msk 94 [1, 2, 7, 8]) (OKs.mv [0, 5] [] (by rw [hρ]; rfl) ⟨by simp, by simp [sizeH], by simp⟩ (ih _ _ ⟨_, _, _, rfl, rfl, ?_, ?_, ?_, ?_, ?_⟩ ?_))
      · simp (disch := omega) only [hA, OK, emaU, Int.reduceToNat, s_bat] <;> omega
      · simp (disch := omega) only [hA, OK, emaU, Int.reduceToNat, s_bat] <;> omega
      · show _ = (putN fs l (A.ib .add .i64 i 1).toNat).length
        rw [show (A.ib .add .i64 i 1).toNat = i.toNat + 1 by simp (disch := omega) only [hA, OK, emaU, Int.reduceToNat, s_bat] <;> omega, hput, hA]
        show M2 + 1 = _
        rw [hM3]
        simp only [Bool.false_eq_true, ↓reduceIte, List.length_append, List.length_singleton]; omega
      · show _ = bytesE (putN fs l (A.ib .add .i64 i 1).toNat)
        rw [show (A.ib .add .i64 i 1).toNat = i.toNat + 1 by simp (disch := omega) only [hA, OK, emaU, Int.reduceToNat, s_bat] <;> omega, hput, hA]
        simp only [Bool.false_eq_true, ↓reduceIte, ← List.append_assoc]
        exact (congrArg (mvL _ _) (one_blk hM3 he3 rfl)).trans (mvL_bytes _ _ _)
      · show ∀ j, j < (A.ib .add .i64 i 1).toNat → _
        rw [show A.ib .add .i64 i 1 = i + 1 by simp (disch := omega) only [hA, OK, emaU, Int.reduceToNat, s_bat] <;> omega]
        exact hst (by assumption)
      · simp (disch := omega) only [hA, OK, emaU, Int.reduceToNat, s_bat] <;> omega
  · have h5 : E = 5 := by rw [hE, fitE_no fun hm => hbr (he.2 hm)]
    exact ⟨_, rfl, .lit (.slice none 0 0), by rw [h5]; rfl, .inl ⟨rfl, by rw [hB, putB, if_neg (by omega)]⟩⟩
  · have h6 : E = 6 := by rw [hE, fitE_no2 (he.1 (Classical.byContradiction (by assumption))) (by omega)]
    exact ⟨_, rfl, .lit (.slice none 0 0), by rw [h6]; rfl, .inl ⟨rfl, by rw [hB, putB, if_neg (by omega)]⟩⟩
end Go.Proofs.YtecephhhjhpcjaaGreatDoor.Stats
end
section
set_option linter.unusedVariables false
set_option linter.unusedSimpArgs false
-- emaX: s_bat
namespace Go.Proofs.YtecephhhjhpcjaaGreatDoor.Stats
open Go Go.Proofs.YtecephhhjhpcjaaGreatDoor Go.Proofs.YtecephhhjhpcjaaGreatDoor.Em
theorem fixedP_ok (h : EH) : Tri Tryz.prog gs 9 [] h fun v h' => IsP True v ∧ h' = h := (fixed_ok h).mono fun v h' hx => ⟨⟨true, hx.1, by simp⟩, hx.2⟩
set_option maxRecDepth 100000 in
set_option maxHeartbeats 8000000 in
theorem puts_ok (fs : List Fld) (ns : List Nt) (l : List StP) (hfs : fs.length ≤ 140737488351232) (hns : ns.length ≤ 140737488351232) (hok : okFs fs) (hnt : ∀ x ∈ ns, x.1.size ≤ 140737488351232 ∧ x.2.size ≤ 140737488351232) (hl : l.length ≤ 140737488351232) (hls : okSs l) (h : EH) :
    Tri Tryz.prog gs 4 [.agg [.isl fs.length none (cellsFs fs), .isl ns.length none (cellsNts ns)], .isl l.length none (cellsSs l)] h fun v h' => IsP True v ∧ h' = h := by
  refine Tri.boolC rfl (Tri_of F4_ok fun I0 ρ0 w0 Q hρ hQ => ?_) h
  obtain ⟨A, hA⟩ : ∃ A, A = stdA := ⟨_, rfl⟩
  have hp := put_ok fs ns l hfs hns hok hnt hl hls
  have hp2 := putR_ok fs ns l hfs hns hok hnt hl hls
  have hal := putB_all fs ns l
  generalize fitE fs ns l = E at hp hp2
  generalize putB fs ns l = B at hp hp2 hal
  unfold isB at hp hp2
  obtain ⟨bn, hbn⟩ : ∃ n, n = B.length := ⟨_, rfl⟩
  obtain ⟨bc, hbc⟩ : ∃ n, n = bytesE B := ⟨_, rfl⟩
  have hby : A.byt bn bc = true := by rw [hA, hbc, hbn]; exact byt_ok hal (Nat.le_refl _)
  rw [← hbn, ← hbc] at hp hp2
  generalize fs.length = fn, cellsFs fs = fc, ns.length = nn, cellsNts ns = nc, l.length = sn, cellsSs l = sc at *
  with_reducible refine runS hA hd hQ 200 ?hk ?_
  case hk => exact trivial
  conv => arg 9; cbv
  try simp only [OK]
  repeat' first
    | (with_reducible refine OKK.loop ?_)
    | (with_reducible refine OKK.again ?_)
    | ((with_reducible refine opt_of (fun hop => ?_) (fun xop hop => ?_)) <;> (try simp (disch := omega) only [hA, OK, emaU, Int.reduceToNat, s_bat] at hop))
    | ((with_reducible refine ⟨fun hbr => ?_, fun hbr => ?_⟩) <;> (try simp (disch := omega) only [hA, OK, emaU, Int.reduceToNat, s_bat, reduceCtorEq] at hbr) <;> (try ((with_reducible exfalso); omega)))
    | ((with_reducible refine runK hA hd hQ 200 ?hk ?_); (case hk => exact trivial); (conv => arg 9; cbv); (try simp only [OK]))
    | ((with_reducible refine need_of ?hn ?_); (case hn => ((simp (disch := omega) only [hA, OK, emaU, Int.reduceToNat, s_bat]) <;> omega)))
    | fail
  refine CallOK.of (goodF_of F10_ok) (Tri.mono (hp _) fun v hh hx => ?_)
  obtain ⟨hv, hh'⟩ := hx
  subst hv; subst hh'
  with_reducible refine runK hA hd hQ 1 ?hk ?_
  case hk => exact trivial
  conv => arg 9; cbv
  try simp only [OK]
  repeat' first
    | (with_reducible refine OKK.loop ?_)
    | (with_reducible refine OKK.again ?_)
    | ((with_reducible refine opt_of (fun hop => ?_) (fun xop hop => ?_)) <;> (try simp (disch := omega) only [hA, OK, emaU, Int.reduceToNat, s_bat] at hop))
    | ((with_reducible refine ⟨fun hbr => ?_, fun hbr => ?_⟩) <;> (try simp (disch := omega) only [hA, OK, emaU, Int.reduceToNat, s_bat, reduceCtorEq] at hbr) <;> (try ((with_reducible exfalso); omega)))
    | ((with_reducible refine runK hA hd hQ 200 ?hk ?_); (case hk => exact trivial); (conv => arg 9; cbv); (try simp only [OK]))
    | ((with_reducible refine need_of ?hn ?_); (case hn => ((simp (disch := omega) only [hA, OK, emaU, Int.reduceToNat, s_bat]) <;> omega)))
    | fail
  refine CallOK.of (goodF_of F11_ok) (Tri.mono (hp2 _) fun v hh hx => ?_)
  obtain ⟨hv, hh'⟩ := hx
  subst hv; subst hh'
  with_reducible refine runK hA hd hQ 1 ?hk ?_
  case hk => exact trivial
  conv => arg 9; cbv
  try simp only [OK]
  repeat' first
    | (with_reducible refine OKK.loop ?_)
    | (with_reducible refine OKK.again ?_)
    | ((with_reducible refine opt_of (fun hop => ?_) (fun xop hop => ?_)) <;> (try simp (disch := omega) only [hA, OK, emaU, Int.reduceToNat, s_bat] at hop))
    | ((with_reducible refine ⟨fun hbr => ?_, fun hbr => ?_⟩) <;> (try simp (disch := omega) only [hA, OK, emaU, Int.reduceToNat, s_bat, reduceCtorEq] at hbr) <;> (try ((with_reducible exfalso); omega)))
    | ((with_reducible refine runK hA hd hQ 200 ?hk ?_); (case hk => exact trivial); (conv => arg 9; cbv); (try simp only [OK]))
    | ((with_reducible refine need_of ?hn ?_); (case hn => ((simp (disch := omega) only [hA, OK, emaU, Int.reduceToNat, s_bat]) <;> omega)))
    | (refine CallOK.of (goodF_of F9_ok) (Tri.mono (fixedP_ok _) fun v hh hx => ?_); (obtain ⟨⟨b, hv, hb⟩, he⟩ := hx; subst hv; subst he; cases b <;> simp (disch := omega) only [hA, OK, emaU, Int.reduceToNat, s_bat, Bool.false_eq_true, true_iff, false_iff, eq_self, reduceCtorEq] at hb) <;> (try ((with_reducible exfalso); omega)))
    | fail
  · refine ⟨hby, hby, ?_⟩
    have hsame : A.ss .eql (A.dec (A.tak bn bc)) (A.dec (A.tak bn bc)) = true := by rw [hA, s_eqlB]; exact decide_eq_true rfl
    refine ⟨fun hbr => ?_, fun hbr => ?_⟩
    · with_reducible refine runK hA hd hQ 1 ?hk ?_
      case hk => exact trivial
      conv => arg 9; cbv
      try simp only [OK]
      repeat' first
        | (with_reducible refine OKK.loop ?_)
        | (with_reducible refine OKK.again ?_)
        | ((with_reducible refine opt_of (fun hop => ?_) (fun xop hop => ?_)) <;> (try simp (disch := omega) only [hA, OK, emaU, Int.reduceToNat, s_bat] at hop))
        | ((with_reducible refine ⟨fun hbr => ?_, fun hbr => ?_⟩) <;> (try simp (disch := omega) only [hA, OK, emaU, Int.reduceToNat, s_bat, reduceCtorEq] at hbr) <;> (try ((with_reducible exfalso); omega)))
        | ((with_reducible refine runK hA hd hQ 200 ?hk ?_); (case hk => exact trivial); (conv => arg 9; cbv); (try simp only [OK]))
        | ((with_reducible refine need_of ?hn ?_); (case hn => ((simp (disch := omega) only [hA, OK, emaU, Int.reduceToNat, s_bat]) <;> omega)))
        | (refine CallOK.of (goodF_of F9_ok) (Tri.mono (fixedP_ok _) fun v hh hx => ?_); (obtain ⟨⟨b, hv, hb⟩, he⟩ := hx; subst hv; subst he; cases b <;> simp (disch := omega) only [hA, OK, emaU, Int.reduceToNat, s_bat, Bool.false_eq_true, true_iff, false_iff, eq_self, reduceCtorEq] at hb) <;> (try ((with_reducible exfalso); omega)))
        | fail
      all_goals (try (with_reducible refine FinR.self ?_; first | refine FinR.bl rfl ?_ | refine FinR.bs rfl ?_ | refine FinR.blh rfl ?_ rfl | refine FinR.bsh rfl ?_ rfl))
      all_goals (try simp (disch := omega) only [hA, OK, emaU, Int.reduceToNat, s_bat, Bool.false_eq_true, true_iff, false_iff, eq_self, iff_true, iff_false])
      all_goals exact absurd trivial (by assumption)
    · with_reducible exfalso
      exact Bool.noConfusion (hbr.symm.trans hsame)
  all_goals (try (with_reducible refine FinR.self ?_; first | refine FinR.bl rfl ?_ | refine FinR.bs rfl ?_ | refine FinR.blh rfl ?_ rfl | refine FinR.bsh rfl ?_ rfl))
  all_goals (try simp (disch := omega) only [hA, OK, emaU, Int.reduceToNat, s_bat, Bool.false_eq_true, true_iff, false_iff, eq_self, iff_true, iff_false])
  all_goals first
    | exact absurd trivial (by assumption)
    | (simp_all; done)
    | omega
end Go.Proofs.YtecephhhjhpcjaaGreatDoor.Stats
end
section
set_option linter.unusedVariables false
namespace Go.Proofs.YtecephhhjhpcjaaGreatDoor.Stats
open Go Go.Proofs.YtecephhhjhpcjaaGreatDoor Go.Proofs.YtecephhhjhpcjaaGreatDoor.Em
theorem hasStat {m : Nat} {c : List EV} (h : HasT Tryz.prog m 31 c) : ∃ s : StP, c = s.cells ∧ s.ok := by
  obtain ⟨m1, rfl, g1⟩ := HasT.struct Tryz.underlying31 h
  obtain ⟨_, h1, g2⟩ := HasTF.cons g1 rfl cells_int
  obtain ⟨_, h2, g3⟩ := HasTF.cons g2 rfl cells_int
  obtain ⟨_, h3, g4⟩ := HasTF.cons g3 rfl cells_bool
  obtain ⟨_, h5, g5⟩ := HasTF.cons g4 rfl cells_value
  obtain ⟨_, h6, g6⟩ := HasTF.cons g5 rfl cells_value
  have h7 := HasTF.nil g6
  obtain ⟨r, e1, q1⟩ := HasT.int Tryz.underlying3 h1
  obtain ⟨n, e2, q2⟩ := HasT.int Tryz.underlying3 h2
  obtain ⟨hs, e3⟩ := HasT.bool Tryz.underlying4 h3
  obtain ⟨⟨lb, ln, lt, ll⟩, e4, k1, k2, k3, _⟩ := hasVal _ _ h5
  obtain ⟨⟨mb, mn, mt, ml⟩, e5, k4, k5, k6, _⟩ := hasVal _ _ h6
  refine ⟨⟨r, n, hs, ⟨lb, ln, lt, ll.length, cellsVs ll⟩, ⟨mb, mn, mt, ml.length, cellsVs ml⟩⟩, ?_, q1, q2, ⟨k1, k2, k3⟩, ⟨k4, k5, k6⟩⟩
  have d1 := cut1 e1
  have d2 := cut1 e2
  have d3 := cut1 e3
  have d4 := (List.take_append_drop 4 (((c.drop 1).drop 1).drop 1)).symm
  have d5 := (List.take_append_drop 4 ((((c.drop 1).drop 1).drop 1).drop 4)).symm
  rw [d1, d2, d3, d4, e4, d5, e5, h7]
  rfl
theorem cells_stat : Tryz.prog.cellsOf 31 = 11 := by kernel_rfl
theorem cells_note : Tryz.prog.cellsOf 102 = 2 := by kernel_rfl
theorem cells_notes : Tryz.prog.cellsOf 38 = 1 := by kernel_rfl
theorem hasStats {m : Nat} {c : List EV} (h : HasT Tryz.prog m 41 c) : ∃ l : List StP, c = [.isl l.length none (cellsSs l)] ∧ l.length ≤ 140737488351232 ∧ okSs l := by
  obtain ⟨m3, len, l, rfl, e9, q9, hl, hk⟩ := HasT.slice Tryz.underlying41 cells_stat h
  obtain ⟨kids, k1, k2, k3⟩ := pieces_of (n := 11) (cells := StP.cells) (cellss := cellsSs) (ok := StP.ok) (oks := okSs) rfl (fun _ _ => rfl) trivial (fun _ _ a b => ⟨a, b⟩) len l hl (fun i hi => hasStat (hk i hi))
  exact ⟨kids, by rw [e9, k1, k2], by omega, k3⟩
theorem hasNote {m : Nat} {c : List EV} (h : HasT Tryz.prog m 102 c) : ∃ x : Nt, c = cellsNt x ∧ (x.1.size ≤ 140737488351232 ∧ x.2.size ≤ 140737488351232) := by
  obtain ⟨m1, rfl, g1⟩ := HasT.struct Tryz.underlying102 h
  obtain ⟨_, h1, g2⟩ := HasTF.cons g1 rfl cells_string
  obtain ⟨_, h2, g3⟩ := HasTF.cons g2 rfl cells_string
  have h3 := HasTF.nil g3
  obtain ⟨a, e1, q1⟩ := HasT.str Tryz.underlying9 h1
  obtain ⟨b, e2, q2⟩ := HasT.str Tryz.underlying9 h2
  refine ⟨(a, b), ?_, q1, q2⟩
  rw [cut1 e1, cut1 e2, h3]; rfl
set_option maxRecDepth 100000 in
theorem hasSchema {m : Nat} {c : List EV} (h : HasT Tryz.prog m 40 c) : ∃ (fs : List Fld) (ns : List Nt), c = [.isl fs.length none (cellsFs fs), .isl ns.length none (cellsNts ns)] ∧ fs.length ≤ 140737488351232 ∧ ns.length ≤ 140737488351232 ∧ okFs fs ∧ ∀ x ∈ ns, x.1.size ≤ 140737488351232 ∧ x.2.size ≤ 140737488351232 := by
  obtain ⟨m1, rfl, g1⟩ := HasT.struct Tryz.underlying40 h
  obtain ⟨_, h1, g2⟩ := HasTF.cons g1 rfl cells_fields
  obtain ⟨_, h2, g3⟩ := HasTF.cons g2 rfl cells_notes
  have h3 := HasTF.nil g3
  obtain ⟨m3, len, l, rfl, e1, q1, hl, hk⟩ := HasT.slice Tryz.underlying22 cells_field h1
  obtain ⟨fs, k1, k2, k3⟩ := pieces_of (n := 7) (cells := cellsF) (cellss := cellsFs) (ok := okF) (oks := okFs) rfl (fun _ _ => rfl) trivial (fun _ _ a b => ⟨a, b⟩) len l hl (fun i hi => hasFld _ _ (hk i hi))
  obtain ⟨m4, len', l', _, e2, q2, hl', hk'⟩ := HasT.slice Tryz.underlying38 cells_note h2
  obtain ⟨ns, j1, j2, j3⟩ := pieces_of (n := 2) (cells := cellsNt) (cellss := cellsNts) (ok := fun x : Nt => x.1.size ≤ 140737488351232 ∧ x.2.size ≤ 140737488351232) (oks := fun l => ∀ x ∈ l, x.1.size ≤ 140737488351232 ∧ x.2.size ≤ 140737488351232) rfl (fun _ _ => rfl) (by simp) (fun a l ha hl x hx => by
    rcases List.mem_cons.1 hx with rfl | hx
    · exact ha
    · exact hl x hx) len' l' hl' (fun i hi => hasNote (hk' i hi))
  refine ⟨fs, ns, ?_, by omega, by omega, k3, j3⟩
  rw [cut1 e1, cut1 e2, h3, k1, j1, k2, j2]
end Go.Proofs.YtecephhhjhpcjaaGreatDoor.Stats
end
