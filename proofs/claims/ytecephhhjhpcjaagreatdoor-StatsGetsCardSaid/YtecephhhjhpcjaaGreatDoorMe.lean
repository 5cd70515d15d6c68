/- YtecephhhjhpcjaaGreatDoorMe: the texts St17, St18, St19, St20, St21, St22, St23, Sce, brought together. No conditions. -/
import Derived.Test.YtecephhhjhpcjaaGreatDoorMd
import Derived.Test.YtecephhhjhpcjaaGreatDoorProg
import Derived.KernelRfl
section
set_option linter.unusedVariables false
set_option linter.unusedSimpArgs false
-- emaX: s_bat
namespace Go.Proofs.YtecephhhjhpcjaaGreatDoor.Stats
open Go Go.Proofs.YtecephhhjhpcjaaGreatDoor Go.Proofs.YtecephhhjhpcjaaGreatDoor.Em
def fldK (k : Int) : Fld := .mk ⟨#[97]⟩ false k 0 0 0 []
theorem nameA : nameP ⟨#[97]⟩ := ⟨by decide, by decide, fun i hi => by
  have : i = 0 := by have : (⟨#[97]⟩ : ByteArray).size = 1 := rfl; omega
  subst this
  exact .inl ⟨by decide, by decide⟩, by decide⟩
theorem mayK (k : Int) (hk : 2 ≤ k ∧ k ≤ 13) : mayF (fldK k) := by
  refine ⟨by simp, by simp, by simp, ?_⟩
  simp only [nodesFs, nodesF, fldK, allN, List.append_nil, List.length_nil, ite_self, List.nil_append]
  refine ⟨by simp, ⟨by simp, nameA, by simp, ?_, ?_, by simp, ?_⟩, trivial⟩
  · refine ⟨by show 1 ≤ k; omega, by show k ≤ 20; omega, ?_⟩
    simp only [kind_mk, width_mk, id_mk, idx_mk, kids_mk, List.length_nil]
    rw [if_neg (by omega), if_neg (by omega), if_neg (by omega), if_neg (by omega), if_neg (by omega), if_neg (by omega)]
    simp
  · exact ⟨fun h => by simp only [kind_mk] at h; omega, fun _ => rfl, fun h => by simp only [kind_mk] at h; omega⟩
  · rintro ⟨h, _⟩
    simp only [kind_mk] at h; omega
def cellsK (k : Int) : List EV := [.lit (.string ⟨#[97]⟩), .lit (.bool false), .lit (.int .i64 k), .lit (.int .i64 0), .lit (.int .i64 0), .lit (.int .i64 0), .isl 0 none []]
set_option maxHeartbeats 2000000 in
theorem may_ok (k : Int) (hk : 2 ≤ k ∧ k ≤ 13) (h : EH) : Tri Tryz.prog gs 64 [.agg (cellsK k)] h fun v h' => IsP True v ∧ h' = h := by
  have hc := checkField_ok (fldK k) ⟨by decide, ⟨by omega, by omega⟩, ⟨by omega, by omega⟩, ⟨by omega, by omega⟩, ⟨by omega, by omega⟩, by simp, trivial⟩
  have hm := mayK k hk
  rw [show cellsF (fldK k) = cellsK k from rfl] at hc
  refine Tri.boolC rfl (Tri_of F64_ok fun I0 ρ0 w0 Q hρ hQ => ?_) h
  obtain ⟨A, hA⟩ : ∃ A, A = stdA := ⟨_, rfl⟩
  unfold cellsK at hc ⊢
  with_reducible refine runS hA hd hQ 200 ?hk ?_
  case hk => exact trivial
  conv => arg 9; cbv
  try simp only [OK]
  repeat' first | ((with_reducible refine ⟨fun hbr => ?_, fun hbr => ?_⟩) <;> (try simp (disch := omega) only [hA, OK, emaU, Int.reduceToNat, s_bat, reduceCtorEq] at hbr) <;> (try (with_reducible exfalso; omega))) | ((with_reducible refine runK hA hd hQ 200 ?hk ?_); (case hk => exact trivial); (conv => arg 9; cbv); (try simp only [OK])) | ((with_reducible refine need_of ?hn ?_); (case hn => ((simp (disch := omega) only [hA, OK, emaU, Int.reduceToNat, s_bat]) <;> omega)))
  refine CallOK.of (goodF_of F15_ok) (Tri.mono (hc _) fun v hh hx => ?_)
  obtain ⟨⟨e, at', pn, pc, hv, he⟩, hh'⟩ := hx
  subst hv; subst hh'
  with_reducible refine runK hA hd hQ 1 ?hk ?_
  case hk => exact trivial
  conv => arg 9; cbv
  try simp only [OK]
  repeat' first | ((with_reducible refine ⟨fun hbr => ?_, fun hbr => ?_⟩) <;> (try simp (disch := omega) only [hA, OK, emaU, Int.reduceToNat, s_bat, reduceCtorEq] at hbr) <;> (try (with_reducible exfalso; omega))) | ((with_reducible refine runK hA hd hQ 200 ?hk ?_); (case hk => exact trivial); (conv => arg 9; cbv); (try simp only [OK])) | ((with_reducible refine need_of ?hn ?_); (case hn => ((simp (disch := omega) only [hA, OK, emaU, Int.reduceToNat, s_bat]) <;> omega)))
  all_goals (try (with_reducible refine FinR.self ?_; first | refine FinR.bl rfl ?_ | refine FinR.bs rfl ?_ | refine FinR.blh rfl ?_ rfl | refine FinR.bsh rfl ?_ rfl))
  all_goals (try simp (disch := omega) only [hA, OK, emaU, Int.reduceToNat, s_bat, Bool.false_eq_true, true_iff, false_iff, eq_self, iff_true, iff_false])
  all_goals exact he.2 hm
set_option maxRecDepth 100000 in
set_option maxHeartbeats 8000000 in
theorem fits_num (k n : Int) (t : ByteArray) (c : List EV) (hk : 2 ≤ k ∧ k ≤ 11) (hn : i64r n) (ht : t.size ≤ 140737488351232) :
    Tri Tryz.prog gs 89 [.ptr 0 0, .agg (cellsK k), .agg [.lit (.bool false), .lit (.int .i64 n), .lit (.string t), .isl 0 none c]] [.blk [.lit (.int .i64 4194304)]] fun v _ => IsP (t.size = 0 ∧ numV k n) v := by
  refine Tri.up (R := fun v _ => ∃ b : Bool, (v = .lit (.bool b) ∨ v = .sb b) ∧ (b = true ↔ t.size = 0 ∧ numV k n)) ?_ fun v h' ⟨b, hv, hb⟩ => ⟨.sb b, ⟨b, rfl, hb⟩, by rcases hv with rfl | rfl; exact Up.sb _; exact Up.refl _⟩
  refine Tri_of F89_ok fun I0 ρ0 w0 Q hρ hQ => ?_
  obtain ⟨A, hA⟩ : ∃ A, A = stdA := ⟨_, rfl⟩
  unfold cellsK
  have hemp := emp_iff t
  with_reducible refine runS hA hd hQ 200 ?hk ?_
  case hk => exact trivial
  conv => arg 9; cbv
  try simp only [OK]
  repeat' first | ((with_reducible refine ⟨fun hbr => ?_, fun hbr => ?_⟩) <;> (try simp (disch := omega) only [hA, OK, emaU, Int.reduceToNat, s_bat, reduceCtorEq] at hbr) <;> (try (with_reducible exfalso; omega))) | ((with_reducible refine runK hA hd hQ 200 ?hk ?_); (case hk => exact trivial); (conv => arg 9; cbv); (try simp only [OK])) | ((with_reducible refine need_of ?hn ?_); (case hn => ((simp (disch := omega) only [hA, OK, emaU, Int.reduceToNat, s_bat]) <;> omega))) | (refine CallOK.of (goodF_of F111_ok) (Tri.mono (whole_ok _ _) fun v hh hx => ?_); (obtain ⟨⟨b, hv, hb⟩, he⟩ := hx; subst hv; subst he; cases b <;> simp (disch := omega) only [hA, OK, emaU, Int.reduceToNat, s_bat, Bool.false_eq_true, true_iff, false_iff, eq_self, reduceCtorEq] at hb) <;> (try (with_reducible exfalso; omega))) | (refine CallOK.of (goodF_of F112_ok) (Tri.mono (ranged_ok k n (by omega) hn _) fun v hh hx => ?_); (obtain ⟨⟨b, hv, hb⟩, he⟩ := hx; subst hv; subst he; cases b <;> simp (disch := omega) only [hA, OK, emaU, Int.reduceToNat, s_bat, Bool.false_eq_true, true_iff, false_iff, eq_self, reduceCtorEq] at hb) <;> (try (with_reducible exfalso; omega)))
  all_goals (try (with_reducible refine FinR.self ?_; first | refine FinR.bl rfl ?_ | refine FinR.bs rfl ?_ | refine FinR.blh rfl ?_ rfl | refine FinR.bsh rfl ?_ rfl))
  all_goals (try simp (disch := omega) only [hA, OK, emaU, Int.reduceToNat, s_bat, Bool.false_eq_true, true_iff, false_iff, eq_self, iff_true, iff_false])
  all_goals first
    | exact fun h => by have := h.1; omega
    | exact fun h => absurd (hemp.2 h.1) (by assumption)
    | (have h0 : t.size = 0 := hemp.1 (Classical.byContradiction (by assumption))
       first
        | exact ⟨h0, by assumption⟩
        | exact fun h => absurd h.2 (by assumption)
        | exact ⟨h0, by unfold numV; rw [if_pos (by assumption)]; exact .inl (by assumption)⟩
        | exact ⟨fun h => ⟨h0, by unfold numV; rw [if_pos (by assumption)]; exact .inr h⟩, fun h => by have := h.2; unfold numV at this; rw [if_pos (by assumption)] at this; omega⟩
        | exact ⟨h0, by rw [show k = 11 by assumption]; simp [numV]⟩)
set_option maxHeartbeats 2000000 in
theorem good_num (k n : Int) (t : ByteArray) (c : List EV) (hk : 2 ≤ k ∧ k ≤ 11) (hn : i64r n) (ht : t.size ≤ 140737488351232) (h : EH) :
    Tri Tryz.prog gs 65 [.agg (cellsK k), .agg [.lit (.bool false), .lit (.int .i64 n), .lit (.string t), .isl 0 none c]] h fun v h' => IsP (t.size = 0 ∧ numV k n) v ∧ h' = h := by
  refine Tri.boolC rfl (Tri_of F65_ok fun I0 ρ0 w0 Q hρ hQ => ?_) h
  obtain ⟨A, hA⟩ : ∃ A, A = stdA := ⟨_, rfl⟩
  have hf := fits_num k n t c hk hn ht
  unfold cellsK at hf ⊢
  with_reducible refine runS hA hd hQ 200 ?hk ?_
  case hk => exact trivial
  conv => arg 9; cbv
  try simp only [OK]
  repeat' first | ((with_reducible refine ⟨fun hbr => ?_, fun hbr => ?_⟩) <;> (try simp (disch := omega) only [hA, OK, emaU, Int.reduceToNat, s_bat, reduceCtorEq] at hbr) <;> (try (with_reducible exfalso; omega))) | ((with_reducible refine runK hA hd hQ 200 ?hk ?_); (case hk => exact trivial); (conv => arg 9; cbv); (try simp only [OK])) | ((with_reducible refine need_of ?hn ?_); (case hn => ((simp (disch := omega) only [hA, OK, emaU, Int.reduceToNat, s_bat]) <;> omega)))
  refine CallOK.of (goodF_of F89_ok) (Tri.mono (Tri.sub [2] [] ⟨by decide, by simp [sizeH], by simp⟩ (by simp) hf (.inl rfl)) fun v hh hx => ?_)
  obtain ⟨v0, h0, ⟨b, hv0, hb⟩, hv, hh'⟩ := hx
  subst hv0; subst hv
  clear hh'
  with_reducible refine runK hA hd hQ 1 ?hk ?_
  case hk => exact trivial
  conv => arg 9; cbv
  try simp only [OK]
  repeat' first | ((with_reducible refine ⟨fun hbr => ?_, fun hbr => ?_⟩) <;> (try simp (disch := omega) only [hA, OK, emaU, Int.reduceToNat, s_bat, reduceCtorEq] at hbr) <;> (try (with_reducible exfalso; omega))) | ((with_reducible refine runK hA hd hQ 200 ?hk ?_); (case hk => exact trivial); (conv => arg 9; cbv); (try simp only [OK])) | ((with_reducible refine need_of ?hn ?_); (case hn => ((simp (disch := omega) only [hA, OK, emaU, Int.reduceToNat, s_bat]) <;> omega)))
  all_goals (try (with_reducible refine FinR.self ?_; first | refine FinR.bl rfl ?_ | refine FinR.bs rfl ?_ | refine FinR.blh rfl ?_ rfl | refine FinR.bsh rfl ?_ rfl))
  all_goals (try simp (disch := omega) only [hA, OK, emaU, Int.reduceToNat, s_bat, Bool.false_eq_true, true_iff, false_iff, eq_self, iff_true, iff_false])
  all_goals exact hb
set_option maxRecDepth 100000 in
set_option maxHeartbeats 2000000 in
theorem fitsV_num (k n : Int) (t : ByteArray) (c : List EV) (hk : 2 ≤ k ∧ k ≤ 11) (hn : i64r n) (ht : t.size ≤ 140737488351232) (h : EH) :
    Tri Tryz.prog gs 62 [.agg (cellsK k), .agg [.lit (.bool false), .lit (.int .i64 n), .lit (.string t), .isl 0 none c]] h fun v h' => IsN .i64 (fun e => e = 0 ↔ t.size = 0 ∧ numV k n) v ∧ h' = h := by
  refine Tri.intC rfl (Tri_of F62_ok fun I0 ρ0 w0 Q hρ hQ => ?_) h
  obtain ⟨A, hA⟩ : ∃ A, A = stdA := ⟨_, rfl⟩
  have hg := good_num k n t c hk hn ht
  have hm := may_ok k (by omega)
  unfold cellsK at hg hm ⊢
  with_reducible refine runS hA hd hQ 200 ?hk ?_
  case hk => exact trivial
  conv => arg 9; cbv
  try simp only [OK]
  repeat' first | ((with_reducible refine ⟨fun hbr => ?_, fun hbr => ?_⟩) <;> (try simp (disch := omega) only [hA, OK, emaU, Int.reduceToNat, s_bat, reduceCtorEq] at hbr) <;> (try (with_reducible exfalso; omega))) | ((with_reducible refine runK hA hd hQ 200 ?hk ?_); (case hk => exact trivial); (conv => arg 9; cbv); (try simp only [OK])) | ((with_reducible refine need_of ?hn ?_); (case hn => ((simp (disch := omega) only [hA, OK, emaU, Int.reduceToNat, s_bat]) <;> omega))) | (refine CallOK.of (goodF_of F64_ok) (Tri.mono (hm _) fun v hh hx => ?_); (obtain ⟨⟨b, hv, hb⟩, he⟩ := hx; subst hv; subst he; cases b <;> simp (disch := omega) only [hA, OK, emaU, Int.reduceToNat, s_bat, Bool.false_eq_true, true_iff, false_iff, eq_self, reduceCtorEq] at hb) <;> (try (with_reducible exfalso; omega))) | (refine CallOK.of (goodF_of F65_ok) (Tri.mono (hg _) fun v hh hx => ?_); (obtain ⟨⟨b, hv, hb⟩, he⟩ := hx; subst hv; subst he; cases b <;> simp (disch := omega) only [hA, OK, emaU, Int.reduceToNat, s_bat, Bool.false_eq_true, true_iff, false_iff, eq_self, reduceCtorEq] at hb) <;> (try (with_reducible exfalso; omega)))
  all_goals (try (with_reducible refine FinR.self ?_; first | refine FinR.n rfl ?_ | refine FinR.nh rfl ?_ rfl))
  all_goals (try simp (disch := omega) only [hA, OK, emaU, Int.reduceToNat, s_bat, Bool.false_eq_true, true_iff, false_iff, eq_self, iff_true, iff_false])
  all_goals first
    | exact absurd trivial (by assumption)
    | exact ⟨fun h => absurd h (by decide), fun h => absurd h (by assumption)⟩
    | assumption
def ordN (k a b : Int) : Int := if k = 10 then sgn (stdA.wr .u64 a) (stdA.wr .u64 b) else if k = 11 then sgn (placeI a) (placeI b) else sgn a b
set_option maxRecDepth 100000 in
set_option maxHeartbeats 8000000 in
theorem orderV_num (k a b : Int) (t u : ByteArray) (c d : List EV) (hk : 2 ≤ k ∧ k ≤ 11) (ha : i64r a) (hb0 : i64r b) (h : EH) :
    Tri Tryz.prog gs 66 [.agg (cellsK k), .agg [.lit (.bool false), .lit (.int .i64 a), .lit (.string t), .isl 0 none c], .agg [.lit (.bool false), .lit (.int .i64 b), .lit (.string u), .isl 0 none d]] h fun v h' => IsN .i64 (fun e => e = ordN k a b) v ∧ h' = h := by
  refine Tri.intC rfl (Tri_of F66_ok fun I0 ρ0 w0 Q hρ hQ => ?_) h
  obtain ⟨A, hA⟩ : ∃ A, A = stdA := ⟨_, rfl⟩
  unfold cellsK
  with_reducible refine runS hA hd hQ 200 ?hk ?_
  case hk => exact trivial
  conv => arg 9; cbv
  try simp only [OK]
  repeat' first | (with_reducible refine OKK.loop ?_) | (with_reducible refine OKK.again ?_) | (with_reducible refine And.intro trivial ?_) | ((with_reducible refine ⟨fun hbr => ?_, fun hbr => ?_⟩) <;> (try simp (disch := omega) only [hA, OK, emaU, Int.reduceToNat, s_bat, reduceCtorEq] at hbr) <;> (try (with_reducible exfalso; omega))) | ((with_reducible refine runK hA hd hQ 200 ?hk ?_); (case hk => exact trivial); (conv => arg 9; cbv); (try simp only [OK])) | ((with_reducible refine need_of ?hn ?_); (case hn => ((simp (disch := omega) only [hA, OK, emaU, Int.reduceToNat, s_bat]) <;> omega))) | (refine CallOK.of (goodF_of F92_ok) (Tri.mono (cmp64_ok _ _ _) fun v hh hx => ?_); (obtain ⟨⟨z, hv, hz⟩, he⟩ := hx; subst hv; subst he)) | (refine CallOK.of (goodF_of F90_ok) (Tri.mono (cmpU_ok _ _ _) fun v hh hx => ?_); (obtain ⟨⟨z, hv, hz⟩, he⟩ := hx; subst hv; subst he)) | (refine CallOK.of (goodF_of F91_ok) (Tri.mono (total_ok _ (by assumption) _) fun v hh hx => ?_); (obtain ⟨⟨z, hv, hz⟩, he⟩ := hx; subst hv; subst he))
  all_goals (try (with_reducible refine FinR.self ?_; first | refine FinR.n rfl ?_ | refine FinR.nh rfl ?_ rfl))
  all_goals (try simp (disch := omega) only [hA, OK, emaU, Int.reduceToNat, s_bat, Bool.false_eq_true, true_iff, false_iff, eq_self, iff_true, iff_false])
  all_goals unfold ordN
  · rw [if_pos (by assumption), hz, hA]
  · rw [if_neg (by assumption), if_pos (by assumption), hz]; simp_all
  · rw [if_neg (by assumption), if_neg (by assumption), hz]
end Go.Proofs.YtecephhhjhpcjaaGreatDoor.Stats
end
section
set_option linter.unusedVariables false
set_option linter.unusedSimpArgs false
-- emaX: s_bat
namespace Go.Proofs.YtecephhhjhpcjaaGreatDoor.Stats
open Go Go.Proofs.YtecephhhjhpcjaaGreatDoor Go.Proofs.YtecephhhjhpcjaaGreatDoor.Em
def noneP (b : Bool) (n : Int) (t : ByteArray) (ln : Nat) : Prop := b = false ∧ n = 0 ∧ t.size = 0 ∧ ln = 0
def bndP (k : Int) (b : Bool) (n : Int) (t : ByteArray) (ln : Nat) : Prop := b = false ∧ ln = 0 ∧ if 12 ≤ k then n = 0 ∧ t.size ≤ 16 else t.size = 0 ∧ numV k n
def ordS (k : Int) (a b : Int) (t u : ByteArray) : Int := if 12 ≤ k then cmpB t u else ordN k a b
set_option maxRecDepth 100000 in
set_option maxHeartbeats 2000000 in
theorem isNone_ok (b : Bool) (n : Int) (t : ByteArray) (ln : Nat) (c : List EV) (h : EH) : Tri Tryz.prog gs 37 [.agg [.lit (.bool b), .lit (.int .i64 n), .lit (.string t), .isl ln none c]] h fun v h' => IsP (noneP b n t ln) v ∧ h' = h := by
  refine Tri.boolC rfl (Tri_of F37_ok fun I0 ρ0 w0 Q hρ hQ => ?_) h
  obtain ⟨A, hA⟩ : ∃ A, A = stdA := ⟨_, rfl⟩
  have he := emp_iff t
  cases b
  all_goals
    with_reducible refine runS hA hd hQ 200 ?hk ?_
    case hk => exact trivial
    conv => arg 9; cbv
    try simp only [OK]
    repeat' first | ((with_reducible refine ⟨fun hbr => ?_, fun hbr => ?_⟩) <;> (try simp (disch := omega) only [hA, OK, emaU, Int.reduceToNat, s_bat, reduceCtorEq] at hbr) <;> (try (with_reducible exfalso; omega))) | ((with_reducible refine runK hA hd hQ 200 ?hk ?_); (case hk => exact trivial); (conv => arg 9; cbv); (try simp only [OK])) | ((with_reducible refine need_of ?hn ?_); (case hn => ((simp (disch := omega) only [hA, OK, emaU, Int.reduceToNat, s_bat]) <;> omega)))
  all_goals (try (with_reducible refine FinR.self ?_; first | refine FinR.bl rfl ?_ | refine FinR.bs rfl ?_ | refine FinR.blh rfl ?_ rfl | refine FinR.bsh rfl ?_ rfl))
  all_goals (try simp (disch := omega) only [hA, OK, emaU, Int.reduceToNat, s_bat, Bool.false_eq_true, true_iff, false_iff, eq_self, iff_true, iff_false])
  all_goals unfold noneP
  all_goals (try simp only [he] at *)
  all_goals (first | omega | (simp; done) | (simp; omega) | (simp_all; done) | (simp_all; omega))
set_option maxRecDepth 100000 in
set_option maxHeartbeats 2000000 in
theorem zeroR_ok (b : Bool) (n : Int) (t : ByteArray) (ln : Nat) (c : List EV) (h : EH) : Tri Tryz.prog gs 44 [.agg [.lit (.bool b), .lit (.int .i64 n), .lit (.string t), .isl ln none c]] h fun v h' => IsP (noneP b n t ln) v ∧ h' = h := by
  refine Tri.boolC rfl (Tri_of F44_ok fun I0 ρ0 w0 Q hρ hQ => ?_) h
  obtain ⟨A, hA⟩ : ∃ A, A = stdA := ⟨_, rfl⟩
  have he := emp_iff t
  cases b
  all_goals
    with_reducible refine runS hA hd hQ 200 ?hk ?_
    case hk => exact trivial
    conv => arg 9; cbv
    try simp only [OK]
    repeat' first | ((with_reducible refine ⟨fun hbr => ?_, fun hbr => ?_⟩) <;> (try simp (disch := omega) only [hA, OK, emaU, Int.reduceToNat, s_bat, reduceCtorEq] at hbr) <;> (try (with_reducible exfalso; omega))) | ((with_reducible refine runK hA hd hQ 200 ?hk ?_); (case hk => exact trivial); (conv => arg 9; cbv); (try simp only [OK])) | ((with_reducible refine need_of ?hn ?_); (case hn => ((simp (disch := omega) only [hA, OK, emaU, Int.reduceToNat, s_bat]) <;> omega)))
  all_goals (try (with_reducible refine FinR.self ?_; first | refine FinR.bl rfl ?_ | refine FinR.bs rfl ?_ | refine FinR.blh rfl ?_ rfl | refine FinR.bsh rfl ?_ rfl))
  all_goals (try simp (disch := omega) only [hA, OK, emaU, Int.reduceToNat, s_bat, Bool.false_eq_true, true_iff, false_iff, eq_self, iff_true, iff_false])
  all_goals unfold noneP
  all_goals (try simp only [he] at *)
  all_goals (first | omega | (simp; done) | (simp; omega) | (simp_all; done) | (simp_all; omega))
def cellsG (nm : ByteArray) (nul : Bool) (k w i x : Int) (kn : Nat) (kc : List EV) : List EV := [.lit (.string nm), .lit (.bool nul), .lit (.int .i64 k), .lit (.int .i64 w), .lit (.int .i64 i), .lit (.int .i64 x), .isl kn none kc]
set_option maxRecDepth 100000 in
set_option maxHeartbeats 4000000 in
theorem isBound_ok (nm : ByteArray) (nul : Bool) (k w i x : Int) (kn : Nat) (kc : List EV) (hk : 2 ≤ k ∧ k ≤ 14) (hz : k ≤ 11 → w = 0 ∧ i = 0 ∧ x = 0 ∧ kn = 0 ∧ kc = [])
    (b : Bool) (n : Int) (t : ByteArray) (ln : Nat) (c : List EV) (hn : i64r n) (ht : t.size ≤ 140737488351232) (hln : ln ≤ 140737488351232) (h : EH) :
    Tri Tryz.prog gs 39 [.agg (cellsG nm nul k w i x kn kc), .agg [.lit (.bool b), .lit (.int .i64 n), .lit (.string t), .isl ln none c]] h fun v h' => IsP (bndP k b n t ln) v ∧ h' = h := by
  refine Tri.boolC rfl (Tri_of F39_ok fun I0 ρ0 w0 Q hρ hQ => ?_) h
  obtain ⟨A, hA⟩ : ∃ A, A = stdA := ⟨_, rfl⟩
  have hf := fun hk => fitsV_num k n t c hk hn ht
  unfold cellsG
  unfold cellsK at hf
  by_cases h11 : k ≤ 11
  · obtain ⟨rfl, rfl, rfl, rfl, rfl⟩ := hz h11
    by_cases hl : ln = 0
    · subst hl
      cases b
      all_goals
        with_reducible refine runS hA hd hQ 200 ?hk ?_
        case hk => exact trivial
        conv => arg 9; cbv
        try simp only [OK]
        repeat' first | ((with_reducible refine ⟨fun hbr => ?_, fun hbr => ?_⟩) <;> (try simp (disch := omega) only [hA, OK, emaU, Int.reduceToNat, s_bat, reduceCtorEq] at hbr) <;> (try (with_reducible exfalso; omega))) | ((with_reducible refine runK hA hd hQ 200 ?hk ?_); (case hk => exact trivial); (conv => arg 9; cbv); (try simp only [OK])) | ((with_reducible refine need_of ?hn ?_); (case hn => ((simp (disch := omega) only [hA, OK, emaU, Int.reduceToNat, s_bat]) <;> omega))) | (refine CallOK.of (goodF_of F40_ok) (Tri.mono (isText_ok _ _) fun v hh hx => ?_); (obtain ⟨⟨b, hv, hb⟩, he⟩ := hx; subst hv; subst he; cases b <;> simp (disch := omega) only [hA, OK, emaU, Int.reduceToNat, s_bat, Bool.false_eq_true, true_iff, false_iff, eq_self, reduceCtorEq] at hb) <;> (try (with_reducible exfalso; omega))) | (refine CallOK.of (goodF_of F62_ok) (Tri.mono (hf (by omega) _) fun v hh hx => ?_); (obtain ⟨⟨z, hv, hz⟩, he⟩ := hx; subst hv; subst he))
      all_goals (try (with_reducible refine FinR.self ?_; first | refine FinR.bl rfl ?_ | refine FinR.bs rfl ?_ | refine FinR.blh rfl ?_ rfl | refine FinR.bsh rfl ?_ rfl))
      all_goals (try simp (disch := omega) only [hA, OK, emaU, Int.reduceToNat, s_bat, Bool.false_eq_true, true_iff, false_iff, eq_self, iff_true, iff_false])
      all_goals unfold bndP
      all_goals (try rw [if_neg (by omega)])
      all_goals (first | omega | (simp; done) | (simp_all; done))
    · cases b
      all_goals
        with_reducible refine runS hA hd hQ 200 ?hk ?_
        case hk => exact trivial
        conv => arg 9; cbv
        try simp only [OK]
        repeat' first | ((with_reducible refine ⟨fun hbr => ?_, fun hbr => ?_⟩) <;> (try simp (disch := omega) only [hA, OK, emaU, Int.reduceToNat, s_bat, reduceCtorEq] at hbr) <;> (try (with_reducible exfalso; omega))) | ((with_reducible refine runK hA hd hQ 200 ?hk ?_); (case hk => exact trivial); (conv => arg 9; cbv); (try simp only [OK])) | ((with_reducible refine need_of ?hn ?_); (case hn => ((simp (disch := omega) only [hA, OK, emaU, Int.reduceToNat, s_bat]) <;> omega))) | (refine CallOK.of (goodF_of F40_ok) (Tri.mono (isText_ok _ _) fun v hh hx => ?_); (obtain ⟨⟨b, hv, hb⟩, he⟩ := hx; subst hv; subst he; cases b <;> simp (disch := omega) only [hA, OK, emaU, Int.reduceToNat, s_bat, Bool.false_eq_true, true_iff, false_iff, eq_self, reduceCtorEq] at hb) <;> (try (with_reducible exfalso; omega)))
      all_goals (try (with_reducible refine FinR.self ?_; first | refine FinR.bl rfl ?_ | refine FinR.bs rfl ?_ | refine FinR.blh rfl ?_ rfl | refine FinR.bsh rfl ?_ rfl))
      all_goals (try simp (disch := omega) only [hA, OK, emaU, Int.reduceToNat, s_bat, Bool.false_eq_true, true_iff, false_iff, eq_self, iff_true, iff_false])
      all_goals unfold bndP
      all_goals (first | (simp; done) | (simp [hl]; done))
  · cases b
    all_goals
      with_reducible refine runS hA hd hQ 200 ?hk ?_
      case hk => exact trivial
      conv => arg 9; cbv
      try simp only [OK]
      repeat' first | ((with_reducible refine ⟨fun hbr => ?_, fun hbr => ?_⟩) <;> (try simp (disch := omega) only [hA, OK, emaU, Int.reduceToNat, s_bat, reduceCtorEq] at hbr) <;> (try (with_reducible exfalso; omega))) | ((with_reducible refine runK hA hd hQ 200 ?hk ?_); (case hk => exact trivial); (conv => arg 9; cbv); (try simp only [OK])) | ((with_reducible refine need_of ?hn ?_); (case hn => ((simp (disch := omega) only [hA, OK, emaU, Int.reduceToNat, s_bat]) <;> omega))) | (refine CallOK.of (goodF_of F40_ok) (Tri.mono (isText_ok _ _) fun v hh hx => ?_); (obtain ⟨⟨b, hv, hb⟩, he⟩ := hx; subst hv; subst he; cases b <;> simp (disch := omega) only [hA, OK, emaU, Int.reduceToNat, s_bat, Bool.false_eq_true, true_iff, false_iff, eq_self, reduceCtorEq] at hb) <;> (try (with_reducible exfalso; omega)))
    all_goals (try (with_reducible refine FinR.self ?_; first | refine FinR.bl rfl ?_ | refine FinR.bs rfl ?_ | refine FinR.blh rfl ?_ rfl | refine FinR.bsh rfl ?_ rfl))
    all_goals (try simp (disch := omega) only [hA, OK, emaU, Int.reduceToNat, s_bat, Bool.false_eq_true, true_iff, false_iff, eq_self, iff_true, iff_false])
    all_goals unfold bndP
    all_goals (try rw [if_pos (by omega)])
    all_goals (first | omega | (simp; done) | (simp; omega) | (simp_all; done) | (simp_all; omega))
set_option maxRecDepth 100000 in
set_option maxHeartbeats 4000000 in
theorem compare_num (k a b : Int) (t u : ByteArray) (c d : List EV) (hk : 2 ≤ k ∧ k ≤ 11) (ha : i64r a) (hb0 : i64r b) (ht : t.size = 0 ∧ numV k a) (hu : u.size = 0 ∧ numV k b) (h : EH) :
    Tri Tryz.prog gs 42 [.agg (cellsK k), .agg [.lit (.bool false), .lit (.int .i64 a), .lit (.string t), .isl 0 none c], .agg [.lit (.bool false), .lit (.int .i64 b), .lit (.string u), .isl 0 none d]] h fun v h' => v = .tup [.lit (.int .i64 (ordN k a b)), .lit (.int .i64 0)] ∧ h' = h := by
  refine Tri.valC rfl rfl (Tri_of F42_ok fun I0 ρ0 w0 Q hρ hQ => ?_) h
  obtain ⟨A, hA⟩ : ∃ A, A = stdA := ⟨_, rfl⟩
  have hm := may_ok k (by omega)
  have hga := good_num k a t c hk ha (by omega)
  have hgb := good_num k b u d hk hb0 (by omega)
  have ho := orderV_num k a b t u c d hk ha hb0
  obtain ⟨O, hO⟩ : ∃ O, O = ordN k a b := ⟨_, rfl⟩
  rw [← hO] at ho hQ
  unfold cellsK at hga hgb hm ho ⊢
  with_reducible refine runS hA hd hQ 200 ?hk ?_
  case hk => exact trivial
  conv => arg 9; cbv
  try simp only [OK]
  repeat' first | ((with_reducible refine ⟨fun hbr => ?_, fun hbr => ?_⟩) <;> (try simp (disch := omega) only [hA, OK, emaU, Int.reduceToNat, s_bat, reduceCtorEq] at hbr) <;> (try (with_reducible exfalso; omega))) | ((with_reducible refine runK hA hd hQ 200 ?hk ?_); (case hk => exact trivial); (conv => arg 9; cbv); (try simp only [OK])) | ((with_reducible refine need_of ?hn ?_); (case hn => ((simp (disch := omega) only [hA, OK, emaU, Int.reduceToNat, s_bat]) <;> omega))) | (refine CallOK.of (goodF_of F64_ok) (Tri.mono (hm _) fun v hh hx => ?_); (obtain ⟨⟨b, hv, hb⟩, he⟩ := hx; subst hv; subst he; cases b <;> simp (disch := omega) only [hA, OK, emaU, Int.reduceToNat, s_bat, Bool.false_eq_true, true_iff, false_iff, eq_self, reduceCtorEq] at hb) <;> (try (with_reducible exfalso; omega))) | (refine CallOK.of (goodF_of F65_ok) (Tri.mono (hga _) fun v hh hx => ?_); (obtain ⟨⟨b, hv, hb⟩, he⟩ := hx; subst hv; subst he; cases b <;> simp (disch := omega) only [hA, OK, emaU, Int.reduceToNat, s_bat, Bool.false_eq_true, true_iff, false_iff, eq_self, reduceCtorEq] at hb) <;> (try (with_reducible exfalso; omega))) | (refine CallOK.of (goodF_of F65_ok) (Tri.mono (hgb _) fun v hh hx => ?_); (obtain ⟨⟨b, hv, hb⟩, he⟩ := hx; subst hv; subst he; cases b <;> simp (disch := omega) only [hA, OK, emaU, Int.reduceToNat, s_bat, Bool.false_eq_true, true_iff, false_iff, eq_self, reduceCtorEq] at hb) <;> (try (with_reducible exfalso; omega))) | (refine CallOK.of (goodF_of F66_ok) (Tri.mono (ho _) fun v hh hx => ?_); (obtain ⟨⟨z, hv, hz⟩, he⟩ := hx; subst hv; subst he))
  all_goals first
    | exact absurd trivial (by assumption)
    | exact absurd ht (by assumption)
    | exact absurd hu (by assumption)
    | (exact FinR.intro rfl (by rw [← hz]; rfl))
set_option maxRecDepth 100000 in
set_option maxHeartbeats 4000000 in
theorem orderS_ok (nm : ByteArray) (nul : Bool) (k w i x : Int) (kn : Nat) (kc : List EV) (hk : 2 ≤ k ∧ k ≤ 14) (hz : k ≤ 11 → w = 0 ∧ i = 0 ∧ x = 0 ∧ kn = 0 ∧ kc = [])
    (a b : Int) (t u : ByteArray) (c d : List EV) (ha : i64r a) (hb0 : i64r b) (hn : k ≤ 11 → (t.size = 0 ∧ numV k a) ∧ u.size = 0 ∧ numV k b) (h : EH) :
    Tri Tryz.prog gs 18 [.agg (cellsG nm nul k w i x kn kc), .agg [.lit (.bool false), .lit (.int .i64 a), .lit (.string t), .isl 0 none c], .agg [.lit (.bool false), .lit (.int .i64 b), .lit (.string u), .isl 0 none d]] h fun v h' => IsN .i64 (fun n => n = ordS k a b t u) v ∧ h' = h := by
  refine Tri.intC rfl (Tri_of F18_ok fun I0 ρ0 w0 Q hρ hQ => ?_) h
  obtain ⟨A, hA⟩ : ∃ A, A = stdA := ⟨_, rfl⟩
  unfold cellsG
  have hst : ∀ h, Tri Tryz.prog gs 41 [.lit (.string t), .lit (.string u)] h fun v h' => IsN .i64 (fun n => n = cmpB t u) v ∧ h' = h := fun h => (strCompare_ok t u h).mono fun v h' hx => ⟨⟨_, hx.1, rfl⟩, hx.2⟩
  by_cases h11 : k ≤ 11
  · obtain ⟨rfl, rfl, rfl, rfl, rfl⟩ := hz h11
    have hc := compare_num k a b t u c d (by omega) ha hb0 (hn h11).1 (hn h11).2
    unfold cellsK at hc
    with_reducible refine runS hA hd hQ 200 ?hk ?_
    case hk => exact trivial
    conv => arg 9; cbv
    try simp only [OK]
    repeat' first | ((with_reducible refine ⟨fun hbr => ?_, fun hbr => ?_⟩) <;> (try simp (disch := omega) only [hA, OK, emaU, Int.reduceToNat, s_bat, reduceCtorEq] at hbr) <;> (try (with_reducible exfalso; omega))) | ((with_reducible refine runK hA hd hQ 200 ?hk ?_); (case hk => exact trivial); (conv => arg 9; cbv); (try simp only [OK])) | ((with_reducible refine need_of ?hn ?_); (case hn => ((simp (disch := omega) only [hA, OK, emaU, Int.reduceToNat, s_bat]) <;> omega))) | (refine CallOK.of (goodF_of F40_ok) (Tri.mono (isText_ok _ _) fun v hh hx => ?_); (obtain ⟨⟨b, hv, hb⟩, he⟩ := hx; subst hv; subst he; cases b <;> simp (disch := omega) only [hA, OK, emaU, Int.reduceToNat, s_bat, Bool.false_eq_true, true_iff, false_iff, eq_self, reduceCtorEq] at hb) <;> (try (with_reducible exfalso; omega)))
    all_goals
      refine CallOK.of (goodF_of F42_ok) (Tri.mono (hc _) fun v hh hx => ?_)
      obtain ⟨hv, hh'⟩ := hx
      obtain ⟨O, hO⟩ : ∃ O, O = ordN k a b := ⟨_, rfl⟩
      rw [← hO] at hv
      subst hv; subst hh'
      with_reducible refine runK hA hd hQ 1 ?hk ?_
      case hk => exact trivial
      conv => arg 9; cbv
      try simp only [OK]
      repeat' first | ((with_reducible refine ⟨fun hbr => ?_, fun hbr => ?_⟩) <;> (try simp (disch := omega) only [hA, OK, emaU, Int.reduceToNat, s_bat, reduceCtorEq] at hbr) <;> (try (with_reducible exfalso; omega))) | ((with_reducible refine runK hA hd hQ 200 ?hk ?_); (case hk => exact trivial); (conv => arg 9; cbv); (try simp only [OK])) | ((with_reducible refine need_of ?hn ?_); (case hn => ((simp (disch := omega) only [hA, OK, emaU, Int.reduceToNat, s_bat]) <;> omega)))
      exact FinR.n rfl (by rw [ordS, if_neg (by omega), ← hO])
  · have hkk : ¬ k ≤ 11 := h11
    with_reducible refine runS hA hd hQ 200 ?hk ?_
    case hk => exact trivial
    conv => arg 9; cbv
    try simp only [OK]
    repeat' first | ((with_reducible refine ⟨fun hbr => ?_, fun hbr => ?_⟩) <;> (try simp (disch := omega) only [hA, OK, emaU, Int.reduceToNat, s_bat, reduceCtorEq] at hbr) <;> (try (with_reducible exfalso; omega))) | ((with_reducible refine runK hA hd hQ 200 ?hk ?_); (case hk => exact trivial); (conv => arg 9; cbv); (try simp only [OK])) | ((with_reducible refine need_of ?hn ?_); (case hn => ((simp (disch := omega) only [hA, OK, emaU, Int.reduceToNat, s_bat]) <;> omega))) | (refine CallOK.of (goodF_of F40_ok) (Tri.mono (isText_ok _ _) fun v hh hx => ?_); (obtain ⟨⟨b, hv, hb⟩, he⟩ := hx; subst hv; subst he; cases b <;> simp (disch := omega) only [hA, OK, emaU, Int.reduceToNat, s_bat, Bool.false_eq_true, true_iff, false_iff, eq_self, reduceCtorEq] at hb) <;> (try (with_reducible exfalso; omega)))
    all_goals
      refine CallOK.of strCompare_good (Tri.mono (strCompare_ok t u _) fun v hh hx => ?_)
      obtain ⟨hv, hh'⟩ := hx
      obtain ⟨O, hO⟩ : ∃ O, O = cmpB t u := ⟨_, rfl⟩
      rw [← hO] at hv
      subst hv; subst hh'
      with_reducible refine runK hA hd hQ 1 ?hk ?_
      case hk => exact trivial
      conv => arg 9; cbv
      try simp only [OK]
      repeat' first | ((with_reducible refine ⟨fun hbr => ?_, fun hbr => ?_⟩) <;> (try simp (disch := omega) only [hA, OK, emaU, Int.reduceToNat, s_bat, reduceCtorEq] at hbr) <;> (try (with_reducible exfalso; omega))) | ((with_reducible refine runK hA hd hQ 200 ?hk ?_); (case hk => exact trivial); (conv => arg 9; cbv); (try simp only [OK])) | ((with_reducible refine need_of ?hn ?_); (case hn => ((simp (disch := omega) only [hA, OK, emaU, Int.reduceToNat, s_bat]) <;> omega)))
      exact FinR.n rfl (by rw [ordS, if_pos (by omega), ← hO])
end Go.Proofs.YtecephhhjhpcjaaGreatDoor.Stats
end
section
set_option linter.unusedVariables false
set_option linter.unusedSimpArgs false
-- emaX: s_bat
namespace Go.Proofs.YtecephhhjhpcjaaGreatDoor.Stats
open Go Go.Proofs.YtecephhhjhpcjaaGreatDoor Go.Proofs.YtecephhhjhpcjaaGreatDoor.Em
structure VP where
  b : Bool
  n : Int
  t : ByteArray
  ln : Nat
  c : List EV
def VP.ok (v : VP) : Prop := i64r v.n ∧ v.t.size ≤ 140737488351232 ∧ v.ln ≤ 140737488351232
def VP.cells (v : VP) : List EV := [.lit (.bool v.b), .lit (.int .i64 v.n), .lit (.string v.t), .isl v.ln none v.c]
def VP.none (v : VP) : Prop := noneP v.b v.n v.t v.ln
def VP.bnd (k : Int) (v : VP) : Prop := bndP k v.b v.n v.t v.ln
def statP (k rows nulls : Int) (has : Bool) (l m : VP) : Prop :=
  0 ≤ rows ∧ rows ≤ 1048576 ∧ 0 ≤ nulls ∧ nulls ≤ rows ∧ (has = false → l.none ∧ m.none) ∧ (has = true → (2 ≤ k ∧ k ≤ 14) ∧ nulls ≠ rows ∧ l.bnd k ∧ m.bnd k ∧ ordS k l.n m.n l.t m.t ≤ 0)
theorem fits_zero {f : Fld} (h : allF f) (hk : 2 ≤ f.kind ∧ f.kind ≤ 14) : f.kind ≤ 11 → f.width = 0 ∧ f.id = 0 ∧ f.idx = 0 ∧ f.kids.length = 0 ∧ cellsFs f.kids = [] := fun h11 => by
  obtain ⟨nm, nul, k, w, i, x, kids⟩ := f
  simp only [kind_mk, width_mk, id_mk, idx_mk, kids_mk] at *
  obtain ⟨_, ⟨_, _, h⟩, _⟩ := h
  rw [if_neg (by omega), if_neg (by omega), if_neg (by omega), if_neg (by omega), if_neg (by omega), if_neg (by omega)] at h
  obtain ⟨h1, h2, h3, h4⟩ := h
  exact ⟨h1, h2, h3, h4, by rw [List.length_eq_zero_iff.1 h4]; rfl⟩
theorem orderB_ok (nm : ByteArray) (nul : Bool) (k w i x : Int) (kn : Nat) (kc : List EV) (hk : 2 ≤ k ∧ k ≤ 14) (hz : k ≤ 11 → w = 0 ∧ i = 0 ∧ x = 0 ∧ kn = 0 ∧ kc = []) (l m : VP) (hlo : l.ok) (hmo : m.ok) (hl : l.bnd k) (hm : m.bnd k) (h : EH) :
    Tri Tryz.prog gs 18 [.agg (cellsG nm nul k w i x kn kc), .agg l.cells, .agg m.cells] h fun v h' => IsN .i64 (fun n => n = ordS k l.n m.n l.t m.t) v ∧ h' = h := by
  obtain ⟨lb, ln, lt, ll, lc⟩ := l
  obtain ⟨mb, mn, mt, ml, mc⟩ := m
  obtain ⟨h1, h2, h3⟩ := hl
  obtain ⟨h4, h5, h6⟩ := hm
  simp only at h1 h2 h4 h5
  subst h1; subst h2; subst h4; subst h5
  exact orderS_ok nm nul k w i x kn kc hk hz ln mn lt mt lc mc hlo.1 hmo.1 (fun h11 => by
    rw [if_neg (by omega)] at h3 h6
    exact ⟨h3, h6⟩) h
set_option maxRecDepth 100000 in
set_option maxHeartbeats 8000000 in
theorem isStat_ok (f g : Fld) (hall : allF f) (hcore : Core f g) (hg : allF g) (rows nulls : Int) (has : Bool) (l m : VP) (hlo : l.ok) (hmo : m.ok) (h : EH) :
    Tri Tryz.prog gs 16 [.agg (cellsF f), .agg ([.lit (.int .i64 rows), .lit (.int .i64 nulls), .lit (.bool has)] ++ l.cells ++ m.cells)] h fun v h' => IsP (statP g.kind rows nulls has l m) v ∧ h' = h := by
  refine Tri.boolC (by rw [cellsF_eq]; rfl) (Tri_of F16_ok fun I0 ρ0 w0 Q hρ hQ => ?_) h
  obtain ⟨A, hA⟩ : ∃ A, A = stdA := ⟨_, rfl⟩
  have hpl := plain_ok f g hall hcore
  have hzero := fits_zero hg
  have hnl := isNone_ok l.b l.n l.t l.ln l.c
  have hnm := isNone_ok m.b m.n m.t m.ln m.c
  have hbl := fun nm nul (hk : 2 ≤ g.kind ∧ g.kind ≤ 14) => isBound_ok nm nul g.kind g.width g.id g.idx g.kids.length (cellsFs g.kids) hk (hzero hk) l.b l.n l.t l.ln l.c hlo.1 hlo.2.1 hlo.2.2
  have hbm := fun nm nul (hk : 2 ≤ g.kind ∧ g.kind ≤ 14) => isBound_ok nm nul g.kind g.width g.id g.idx g.kids.length (cellsFs g.kids) hk (hzero hk) m.b m.n m.t m.ln m.c hmo.1 hmo.2.1 hmo.2.2
  have hor := fun nm nul (hk : 2 ≤ g.kind ∧ g.kind ≤ 14) (h1 : l.bnd g.kind) (h2 : m.bnd g.kind) => orderB_ok nm nul g.kind g.width g.id g.idx g.kids.length (cellsFs g.kids) hk (hzero hk) l m hlo hmo h1 h2
  have hsp : ∀ p : Prop, (p ↔ statP g.kind rows nulls has l m) → (p ↔ statP g.kind rows nulls has l m) := fun _ h => h
  unfold VP.cells at *
  unfold cellsG at *
  rw [cellsF_eq] at *
  simp only [List.cons_append, List.nil_append, List.append_assoc]
  obtain ⟨lb, ln, lt, ll, lc⟩ := l
  obtain ⟨mb, mn, mt, ml, mc⟩ := m
  simp only at *
  generalize cellsFs f.kids = kc, f.kids.length = kn, f.nm = nm, f.nul = nul, f.kind = k, f.width = w, f.id = i, f.idx = x at *
  unfold PlainV at hpl
  generalize cellsFs g.kids = gc, g.kids.length = gn, g.kind = gk, g.width = gw, g.id = gi, g.idx = gx at *
  cases has
  · skip
    with_reducible refine runS hA hd hQ 200 ?hk ?_
    case hk => exact trivial
    conv => arg 9; cbv
    try simp only [OK]
    repeat' first | ((with_reducible refine ⟨fun hbr => ?_, fun hbr => ?_⟩) <;> (try simp (disch := omega) only [hA, OK, emaU, Int.reduceToNat, s_bat, reduceCtorEq] at hbr) <;> (try (with_reducible exfalso; omega))) | ((with_reducible refine runK hA hd hQ 200 ?hk ?_); (case hk => exact trivial); (conv => arg 9; cbv); (try simp only [OK])) | ((with_reducible refine need_of ?hn ?_); (case hn => ((simp (disch := omega) only [hA, OK, emaU, Int.reduceToNat, s_bat]) <;> omega))) | (refine CallOK.of (goodF_of F37_ok) (Tri.mono (hnl _) fun v hh hx => ?_); (obtain ⟨⟨b, hv, hb⟩, he⟩ := hx; subst hv; subst he; cases b <;> simp (disch := omega) only [hA, OK, emaU, Int.reduceToNat, s_bat, Bool.false_eq_true, true_iff, false_iff, eq_self, reduceCtorEq] at hb) <;> (try (with_reducible exfalso; omega))) | (refine CallOK.of (goodF_of F37_ok) (Tri.mono (hnm _) fun v hh hx => ?_); (obtain ⟨⟨b, hv, hb⟩, he⟩ := hx; subst hv; subst he; cases b <;> simp (disch := omega) only [hA, OK, emaU, Int.reduceToNat, s_bat, Bool.false_eq_true, true_iff, false_iff, eq_self, reduceCtorEq] at hb) <;> (try (with_reducible exfalso; omega)))
    all_goals (try (with_reducible refine FinR.self ?_; first | refine FinR.bl rfl ?_ | refine FinR.bs rfl ?_ | refine FinR.blh rfl ?_ rfl | refine FinR.bsh rfl ?_ rfl))
    all_goals (try simp (disch := omega) only [hA, OK, emaU, Int.reduceToNat, s_bat, Bool.false_eq_true, true_iff, false_iff, eq_self, iff_true, iff_false])
    all_goals first
      | exact fun h => by have h1 := h.1; have h2 := h.2.1; have h3 := h.2.2.1; have h4 := h.2.2.2.1; omega
      | exact fun h => absurd (h.2.2.2.2.1 rfl).1 (by assumption : ¬ noneP lb ln lt ll)
      | exact fun h => absurd (h.2.2.2.2.1 rfl).2 (by assumption : ¬ noneP mb mn mt ml)
      | exact ⟨by omega, by omega, by omega, by omega, fun _ => ⟨(by assumption : noneP lb ln lt ll), (by assumption : noneP mb mn mt ml)⟩, fun h => (nomatch h)⟩
  · skip
    with_reducible refine runS hA hd hQ 200 ?hk ?_
    case hk => exact trivial
    conv => arg 9; cbv
    try simp only [OK]
    repeat' first | ((with_reducible refine ⟨fun hbr => ?_, fun hbr => ?_⟩) <;> (try simp (disch := omega) only [hA, OK, emaU, Int.reduceToNat, s_bat, reduceCtorEq] at hbr) <;> (try (with_reducible exfalso; omega))) | ((with_reducible refine runK hA hd hQ 200 ?hk ?_); (case hk => exact trivial); (conv => arg 9; cbv); (try simp only [OK])) | ((with_reducible refine need_of ?hn ?_); (case hn => ((simp (disch := omega) only [hA, OK, emaU, Int.reduceToNat, s_bat]) <;> omega)))
    rotate_right
    · refine CallOK.of (goodF_of F17_ok) (Tri.mono (hpl _) fun v hh hx => ?_)
      obtain ⟨⟨pm, pu, hv⟩, hh'⟩ := hx
      subst hv; subst hh'
      with_reducible refine runK hA hd hQ 1 ?hk ?_
      case hk => exact trivial
      conv => arg 9; cbv
      try simp only [OK]
      repeat' first | ((with_reducible refine ⟨fun hbr => ?_, fun hbr => ?_⟩) <;> (try simp (disch := omega) only [hA, OK, emaU, Int.reduceToNat, s_bat, reduceCtorEq] at hbr) <;> (try (with_reducible exfalso; omega))) | ((with_reducible refine runK hA hd hQ 200 ?hk ?_); (case hk => exact trivial); (conv => arg 9; cbv); (try simp only [OK])) | ((with_reducible refine need_of ?hn ?_); (case hn => ((simp (disch := omega) only [hA, OK, emaU, Int.reduceToNat, s_bat]) <;> omega))) | (refine CallOK.of (goodF_of F38_ok) (Tri.mono (hasBounds_ok _ _) fun v hh hx => ?_); (obtain ⟨⟨b, hv, hb⟩, he⟩ := hx; subst hv; subst he; cases b <;> simp (disch := omega) only [hA, OK, emaU, Int.reduceToNat, s_bat, Bool.false_eq_true, true_iff, false_iff, eq_self, reduceCtorEq] at hb) <;> (try (with_reducible exfalso; omega))) | (refine CallOK.of (goodF_of F39_ok) (Tri.mono (hbl pm pu (by assumption) _) fun v hh hx => ?_); (obtain ⟨⟨b, hv, hb⟩, he⟩ := hx; subst hv; subst he; cases b <;> simp (disch := omega) only [hA, OK, emaU, Int.reduceToNat, s_bat, Bool.false_eq_true, true_iff, false_iff, eq_self, reduceCtorEq] at hb) <;> (try (with_reducible exfalso; omega))) | (refine CallOK.of (goodF_of F39_ok) (Tri.mono (hbm pm pu (by assumption) _) fun v hh hx => ?_); (obtain ⟨⟨b, hv, hb⟩, he⟩ := hx; subst hv; subst he; cases b <;> simp (disch := omega) only [hA, OK, emaU, Int.reduceToNat, s_bat, Bool.false_eq_true, true_iff, false_iff, eq_self, reduceCtorEq] at hb) <;> (try (with_reducible exfalso; omega))) | (refine CallOK.of (goodF_of F18_ok) (Tri.mono (hor pm pu (by assumption) (by assumption : bndP gk lb ln lt ll) (by assumption : bndP gk mb mn mt ml) _) fun v hh hx => ?_); (obtain ⟨⟨z, hv, hz⟩, he⟩ := hx; subst hv; subst he))
      all_goals (try (with_reducible refine FinR.self ?_; first | refine FinR.bl rfl ?_ | refine FinR.bs rfl ?_ | refine FinR.blh rfl ?_ rfl | refine FinR.bsh rfl ?_ rfl))
      all_goals (try simp (disch := omega) only [hA, OK, emaU, Int.reduceToNat, s_bat, Bool.false_eq_true, true_iff, false_iff, eq_self, iff_true, iff_false])
      all_goals first
        | exact fun h => absurd (h.2.2.2.2.2 rfl).1 (by assumption)
        | exact fun h => absurd (by assumption) (h.2.2.2.2.2 rfl).2.1
        | exact fun h => absurd (h.2.2.2.2.2 rfl).2.2.1 (by assumption : ¬ bndP gk lb ln lt ll)
        | exact fun h => absurd (h.2.2.2.2.2 rfl).2.2.2.1 (by assumption : ¬ bndP gk mb mn mt ml)
        | (subst hz; refine ⟨fun h => ⟨by omega, by omega, by omega, by omega, fun h => (nomatch h), fun _ => ⟨?_, ?_, ?_, ?_, h⟩⟩, fun h => (h.2.2.2.2.2 rfl).2.2.2.2⟩ <;> assumption)
    all_goals (try (with_reducible refine FinR.self ?_; first | refine FinR.bl rfl ?_ | refine FinR.bs rfl ?_ | refine FinR.blh rfl ?_ rfl | refine FinR.bsh rfl ?_ rfl))
    all_goals (try simp (disch := omega) only [hA, OK, emaU, Int.reduceToNat, s_bat, Bool.false_eq_true, true_iff, false_iff, eq_self, iff_true, iff_false])
    all_goals exact fun h => by have h1 := h.1; have h2 := h.2.1; have h3 := h.2.2.1; have h4 := h.2.2.2.1; omega
end Go.Proofs.YtecephhhjhpcjaaGreatDoor.Stats
end
section
set_option linter.unusedVariables false
set_option linter.unusedSimpArgs false
-- emaX: s_bat
namespace Go.Proofs.YtecephhhjhpcjaaGreatDoor.Stats
open Go Go.Proofs.YtecephhhjhpcjaaGreatDoor Go.Proofs.YtecephhhjhpcjaaGreatDoor.Em
def cellsX (k : Int) : List EV := [.lit (.string ⟨#[120]⟩), .lit (.bool false), .lit (.int .i64 k), .lit (.int .i64 0), .lit (.int .i64 0), .lit (.int .i64 0), .lit (.slice none 0 0)]
def kindX (k : Int) : Int := if 12 ≤ k ∧ k ≤ 14 then 13 else k
theorem simple_ok (k : Int) (h : EH) : Tri Tryz.prog gs 49 [.lit (.int .i64 k)] h fun v h' => v = .agg (cellsX (kindX k)) ∧ h' = h := by
  refine Tri.valC rfl rfl (Tri_of F49_ok fun I0 ρ0 w0 Q hρ hQ => ?_) h
  obtain ⟨A, hA⟩ : ∃ A, A = stdA := ⟨_, rfl⟩
  unfold cellsX kindX at hQ
  with_reducible refine runS hA hd hQ 200 ?hk ?_
  case hk => exact trivial
  conv => arg 9; cbv
  try simp only [OK]
  repeat' first | ((with_reducible refine ⟨fun hbr => ?_, fun hbr => ?_⟩) <;> (try simp (disch := omega) only [hA, OK, emaU, Int.reduceToNat, s_bat, reduceCtorEq] at hbr) <;> (try (with_reducible exfalso; omega))) | ((with_reducible refine runK hA hd hQ 200 ?hk ?_); (case hk => exact trivial); (conv => arg 9; cbv); (try simp only [OK])) | ((with_reducible refine need_of ?hn ?_); (case hn => ((simp (disch := omega) only [hA, OK, emaU, Int.reduceToNat, s_bat]) <;> omega))) | (refine CallOK.of (goodF_of F57_ok) (Tri.mono (textR_ok _ _) fun v hh hx => ?_); (obtain ⟨⟨b, hv, hb⟩, he⟩ := hx; subst hv; subst he; cases b <;> simp (disch := omega) only [hA, OK, emaU, Int.reduceToNat, s_bat, Bool.false_eq_true, true_iff, false_iff, eq_self, reduceCtorEq] at hb) <;> (try (with_reducible exfalso; omega)))
  all_goals first
    | exact FinR.intro rfl (by rw [if_pos hb])
    | exact FinR.intro rfl (by rw [if_neg hb])
theorem cmpBytes_less : ∀ a b : List UInt8, Lib.compareBytes a b = if Op.bytesLess a b then -1 else if !(Op.bytesLess a b || a == b) then 1 else 0
  | [], [] => rfl
  | [], _ :: _ => rfl
  | _ :: _, [] => rfl
  | a :: l, b :: m => by
    have ih := cmpBytes_less l m
    simp only [Lib.compareBytes, Op.bytesLess]
    by_cases h1 : a < b
    · simp [h1]
    · by_cases h2 : b < a
      · have h3 : ¬ a = b := fun e => by subst e; exact h1 h2
        simp [h1, h2, h3]
      · have h3 : a = b := by
          apply UInt8.le_antisymm
          · exact UInt8.not_lt.1 h2
          · exact UInt8.not_lt.1 h1
        subst h3
        simp [h1, ih]
theorem cmpB_sign (t u : ByteArray) : (if stdA.ss .lss t u then (-1 : Int) else if stdA.ss .gtr t u then 1 else 0) = cmpB t u := by
  rw [cmpB, cmpBytes_less]
  show (if Op.bytesLess t.toList u.toList then (-1 : Int) else if !(Op.bytesLess t.toList u.toList || t.toList == u.toList) then 1 else 0) = _
  rw [ByteArray.toList_eq, ByteArray.toList_eq]
theorem sgnA (a b : Int) : (if stdA.ic .lss a b = true then (-1 : Int) else if stdA.ic .gtr a b = true then 1 else 0) = sgn a b := by
  rw [s_lss, s_gtr, sgn]
  simp only [decide_eq_true_eq]
set_option maxRecDepth 100000 in
set_option maxHeartbeats 4000000 in
theorem orderR_ok (k a b : Int) (t u : ByteArray) (c d : List EV) (hk : 2 ≤ k ∧ k ≤ 14) (ha : i64r a) (hb0 : i64r b) (h : EH) :
    Tri Tryz.prog gs 48 [.agg (cellsX (kindX k)), .agg [.lit (.bool false), .lit (.int .i64 a), .lit (.string t), .isl 0 none c], .agg [.lit (.bool false), .lit (.int .i64 b), .lit (.string u), .isl 0 none d]] h fun v h' => IsN .i64 (fun n => n = ordS k a b t u) v ∧ h' = h := by
  refine Tri.intC rfl (Tri_of F48_ok fun I0 ρ0 w0 Q hρ hQ => ?_) h
  obtain ⟨A, hA⟩ : ∃ A, A = stdA := ⟨_, rfl⟩
  obtain ⟨q, hq⟩ : ∃ q, q = kindX k := ⟨_, rfl⟩
  have hq1 : (12 ≤ k → q = 13) ∧ (¬ 12 ≤ k → q = k) := by
    rw [hq, kindX]; exact ⟨fun h => if_pos (by omega), fun h => if_neg (by omega)⟩
  rw [← hq]
  have hs := fun a b h => sign_ok a b h
  unfold cellsX
  with_reducible refine runS hA hd hQ 200 ?hk ?_
  case hk => exact trivial
  conv => arg 9; cbv
  try simp only [OK]
  repeat' first | (with_reducible refine And.intro trivial ?_) | ((with_reducible refine ⟨fun hbr => ?_, fun hbr => ?_⟩) <;> (try simp (disch := omega) only [hA, OK, emaU, Int.reduceToNat, s_bat, reduceCtorEq] at hbr) <;> (try (with_reducible exfalso; omega))) | ((with_reducible refine runK hA hd hQ 200 ?hk ?_); (case hk => exact trivial); (conv => arg 9; cbv); (try simp only [OK])) | ((with_reducible refine need_of ?hn ?_); (case hn => ((simp (disch := omega) only [hA, OK, emaU, Int.reduceToNat, s_bat]) <;> omega))) | (refine CallOK.of (goodF_of F68_ok) (Tri.mono (hs _ _ _) fun v hh hx => ?_); (obtain ⟨⟨z, hv, hz⟩, he⟩ := hx; subst hv; subst he)) | (refine CallOK.of (goodF_of F69_ok) (Tri.mono (placeR_ok _ (by assumption) _) fun v hh hx => ?_); (obtain ⟨⟨z, hv, hz⟩, he⟩ := hx; subst hv; subst he))
  all_goals refine FinR.n rfl ?_
  all_goals unfold ordS ordN
  all_goals rw [hz, hA]
  · rw [if_neg (show ¬ 12 ≤ k by omega), if_pos (show k = 10 by omega)]; exact sgnA _ _
  · rw [if_neg (show ¬ 12 ≤ k by omega), if_neg (show ¬ k = 10 by omega), if_pos (show k = 11 by omega)]; subst_vars; exact sgnA _ _
  all_goals first
    | (rw [if_pos (show 12 ≤ k by omega)]; exact cmpB_sign t u)
    | (rw [if_neg (show ¬ 12 ≤ k by omega), if_neg (show ¬ k = 10 by omega), if_neg (show ¬ k = 11 by omega)]; exact sgnA _ _)
set_option maxRecDepth 100000 in
set_option maxHeartbeats 4000000 in
theorem weight_ok (b : Bool) (n : Int) (t : ByteArray) (c : List EV) (ht : t.size ≤ 140737488351232) (h : EH) :
    Tri Tryz.prog gs 94 [.agg [.lit (.bool b), .lit (.int .i64 n), .lit (.string t), .isl 0 none c], .lit (.int .i64 4194304)] h fun v h' => IsN .i64 (fun z => z ≤ 4194304 ↔ t.size ≤ 4194288) v ∧ h' = h := by
  refine Tri.intC rfl (Tri_of F94_ok fun I0 ρ0 w0 Q hρ hQ => ?_) h
  obtain ⟨A, hA⟩ : ∃ A, A = stdA := ⟨_, rfl⟩
  with_reducible refine runS hA hd hQ 200 ?hk ?_
  case hk => exact trivial
  conv => arg 9; cbv
  try simp only [OK]
  repeat' first | (with_reducible refine OKK.loop ?_) | (with_reducible refine OKK.again ?_) | ((with_reducible refine ⟨fun hbr => ?_, fun hbr => ?_⟩) <;> (try simp (disch := omega) only [hA, OK, emaU, Int.reduceToNat, s_bat, reduceCtorEq] at hbr) <;> (try (with_reducible exfalso; omega))) | ((with_reducible refine runK hA hd hQ 200 ?hk ?_); (case hk => exact trivial); (conv => arg 9; cbv); (try simp only [OK])) | ((with_reducible refine need_of ?hn ?_); (case hn => ((simp (disch := omega) only [hA, OK, emaU, Int.reduceToNat, s_bat]) <;> omega)))
  · refine FinR.n rfl ?_
    simp (disch := omega) only [hA, OK, emaU, Int.reduceToNat, s_bat]
    omega
  obtain ⟨W, hW⟩ : ∃ W, W = A.ib .add .i64 16 (A.ofn (A.bsz t)) := ⟨_, rfl⟩
  have hW1 : W = 16 + t.size := by rw [hW]; simp (disch := omega) only [hA, OK, emaU, Int.reduceToNat, s_bat]
  refine OKs.mask (msk 52 [1, 2, 5, 6]) ?_
  refine OKs.loopN (fun m st => st = ⟨mkT 52 [(1, .lit (.int .i64 4194304)), (2, .ptr 0 0), (5, .lit (.int .i64 W)), (6, .lit (.int .i64 0))], [.blk [.lit (.bool b), .lit (.int .i64 n), .lit (.string t), .isl 0 none c]]⟩) (fun m st hs' ih => ?_) (n := 0) (by rw [hW]; rfl)
  subst hs'
  with_reducible refine runS hA hd hQ 200 ?hk ?_
  case hk => exact trivial
  conv => arg 9; cbv
  try simp only [OK]
  repeat' first | (with_reducible refine OKK.loop ?_) | (with_reducible refine OKK.again ?_) | ((with_reducible refine ⟨fun hbr => ?_, fun hbr => ?_⟩) <;> (try simp (disch := omega) only [hA, OK, emaU, Int.reduceToNat, s_bat, reduceCtorEq] at hbr) <;> (try (with_reducible exfalso; omega))) | ((with_reducible refine runK hA hd hQ 200 ?hk ?_); (case hk => exact trivial); (conv => arg 9; cbv); (try simp only [OK])) | ((with_reducible refine need_of ?hn ?_); (case hn => ((simp (disch := omega) only [hA, OK, emaU, Int.reduceToNat, s_bat]) <;> omega)))
  all_goals (try (with_reducible refine FinR.self ?_; first | refine FinR.n rfl ?_ | refine FinR.nh rfl ?_ rfl))
  all_goals (try simp (disch := omega) only [hA, OK, emaU, Int.reduceToNat, s_bat, Bool.false_eq_true, true_iff, false_iff, eq_self, iff_true, iff_false])
  all_goals omega
set_option maxHeartbeats 1000000 in
theorem number_ok (k : Int) (h : EH) : Tri Tryz.prog gs 117 [.lit (.int .i64 k)] h fun v h' => IsP (2 ≤ k ∧ k ≤ 11) v ∧ h' = h := by
  refine Tri.boolC rfl (Tri_of F117_ok fun I0 ρ0 w0 Q hρ hQ => ?_) h
  obtain ⟨A, hA⟩ : ∃ A, A = stdA := ⟨_, rfl⟩
  with_reducible refine runS hA hd hQ 200 ?hk ?_
  case hk => exact trivial
  conv => arg 9; cbv
  try simp only [OK]
  repeat' first | ((with_reducible refine ⟨fun hbr => ?_, fun hbr => ?_⟩) <;> (try simp (disch := omega) only [hA, OK, emaU, Int.reduceToNat, s_bat, reduceCtorEq] at hbr) <;> (try (with_reducible exfalso; omega))) | ((with_reducible refine runK hA hd hQ 200 ?hk ?_); (case hk => exact trivial); (conv => arg 9; cbv); (try simp only [OK])) | ((with_reducible refine need_of ?hn ?_); (case hn => ((simp (disch := omega) only [hA, OK, emaU, Int.reduceToNat, s_bat]) <;> omega)))
  all_goals refine ⟨_, rfl, _, (by first | exact .inl rfl | exact .inr rfl), ?_⟩
  all_goals (try simp (disch := omega) only [hA, OK, emaU, Int.reduceToNat, s_bat, Bool.false_eq_true, true_iff, false_iff, eq_self, iff_true, iff_false])
  all_goals first | omega | (simp <;> omega) | (simp_all <;> omega)
set_option maxRecDepth 100000 in
set_option maxHeartbeats 4000000 in
theorem fitsR_num (k n : Int) (t : ByteArray) (c : List EV) (hk : 2 ≤ k ∧ k ≤ 11) (ht : t.size ≤ 140737488351232) (h : EH) :
    Tri Tryz.prog gs 95 [.agg (cellsX k), .agg [.lit (.bool false), .lit (.int .i64 n), .lit (.string t), .isl 0 none c]] h fun v h' => IsP (t.size = 0 ∧ numV k n) v ∧ h' = h := by
  refine Tri.boolC rfl (Tri_of F95_ok fun I0 ρ0 w0 Q hρ hQ => ?_) h
  obtain ⟨A, hA⟩ : ∃ A, A = stdA := ⟨_, rfl⟩
  have he := emp_iff t
  unfold cellsX
  with_reducible refine runS hA hd hQ 200 ?hk ?_
  case hk => exact trivial
  conv => arg 9; cbv
  try simp only [OK]
  repeat' first | ((with_reducible refine ⟨fun hbr => ?_, fun hbr => ?_⟩) <;> (try simp (disch := omega) only [hA, OK, emaU, Int.reduceToNat, s_bat, reduceCtorEq] at hbr) <;> (try (with_reducible exfalso; omega))) | ((with_reducible refine runK hA hd hQ 200 ?hk ?_); (case hk => exact trivial); (conv => arg 9; cbv); (try simp only [OK])) | ((with_reducible refine need_of ?hn ?_); (case hn => ((simp (disch := omega) only [hA, OK, emaU, Int.reduceToNat, s_bat]) <;> omega))) | (refine CallOK.of (goodF_of F117_ok) (Tri.mono (number_ok _ _) fun v hh hx => ?_); (obtain ⟨⟨b, hv, hb⟩, he⟩ := hx; subst hv; subst he; cases b <;> simp (disch := omega) only [hA, OK, emaU, Int.reduceToNat, s_bat, Bool.false_eq_true, true_iff, false_iff, eq_self, reduceCtorEq] at hb) <;> (try (with_reducible exfalso; omega))) | (refine CallOK.of (goodF_of F118_ok) (Tri.mono (rangedR_ok k n hk _) fun v hh hx => ?_); (obtain ⟨⟨b, hv, hb⟩, he⟩ := hx; subst hv; subst he; cases b <;> simp (disch := omega) only [hA, OK, emaU, Int.reduceToNat, s_bat, Bool.false_eq_true, true_iff, false_iff, eq_self, reduceCtorEq] at hb) <;> (try (with_reducible exfalso; omega)))
  all_goals (try (with_reducible refine FinR.self ?_; first | refine FinR.bl rfl ?_ | refine FinR.bs rfl ?_ | refine FinR.blh rfl ?_ rfl | refine FinR.bsh rfl ?_ rfl))
  all_goals (try simp (disch := omega) only [hA, OK, emaU, Int.reduceToNat, s_bat, Bool.false_eq_true, true_iff, false_iff, eq_self, iff_true, iff_false])
  all_goals first
    | exact fun h => absurd h.2 (by assumption)
    | exact ⟨fun _ => ⟨he.1 (by assumption), hb⟩, fun _ => rfl⟩
    | exact fun h => absurd (he.2 h.1) (by assumption)
set_option maxRecDepth 100000 in
set_option maxHeartbeats 4000000 in
theorem fitsRight_num (k n : Int) (t : ByteArray) (c : List EV) (hk : 2 ≤ k ∧ k ≤ 11) (ht : t.size ≤ 140737488351232) (h : EH) :
    Tri Tryz.prog gs 67 [.agg (cellsX k), .agg [.lit (.bool false), .lit (.int .i64 n), .lit (.string t), .isl 0 none c]] h fun v h' => IsP (t.size ≤ 4194288 ∧ t.size = 0 ∧ numV k n) v ∧ h' = h := by
  refine Tri.boolC rfl (Tri_of F67_ok fun I0 ρ0 w0 Q hρ hQ => ?_) h
  obtain ⟨A, hA⟩ : ∃ A, A = stdA := ⟨_, rfl⟩
  have hf := fitsR_num k n t c hk ht
  have hw := weight_ok false n t c ht
  unfold cellsX at hf ⊢
  with_reducible refine runS hA hd hQ 200 ?hk ?_
  case hk => exact trivial
  conv => arg 9; cbv
  try simp only [OK]
  repeat' first | ((with_reducible refine ⟨fun hbr => ?_, fun hbr => ?_⟩) <;> (try simp (disch := omega) only [hA, OK, emaU, Int.reduceToNat, s_bat, reduceCtorEq] at hbr) <;> (try (with_reducible exfalso; omega))) | ((with_reducible refine runK hA hd hQ 200 ?hk ?_); (case hk => exact trivial); (conv => arg 9; cbv); (try simp only [OK])) | ((with_reducible refine need_of ?hn ?_); (case hn => ((simp (disch := omega) only [hA, OK, emaU, Int.reduceToNat, s_bat]) <;> omega))) | (refine CallOK.of (goodF_of F94_ok) (Tri.mono (hw _) fun v hh hx => ?_); (obtain ⟨⟨z, hv, hz⟩, he⟩ := hx; subst hv; subst he)) | (refine CallOK.of (goodF_of F95_ok) (Tri.mono (hf _) fun v hh hx => ?_); (obtain ⟨⟨b, hv, hb⟩, he⟩ := hx; subst hv; subst he; cases b <;> simp (disch := omega) only [hA, OK, emaU, Int.reduceToNat, s_bat, Bool.false_eq_true, true_iff, false_iff, eq_self, reduceCtorEq] at hb) <;> (try (with_reducible exfalso; omega)))
  all_goals (try (with_reducible refine FinR.self ?_; first | refine FinR.bl rfl ?_ | refine FinR.bs rfl ?_ | refine FinR.blh rfl ?_ rfl | refine FinR.bsh rfl ?_ rfl))
  all_goals (try simp (disch := omega) only [hA, OK, emaU, Int.reduceToNat, s_bat, Bool.false_eq_true, true_iff, false_iff, eq_self, iff_true, iff_false])
  all_goals first
    | exact ⟨hz.1 (by omega), hb⟩
    | exact fun h => absurd h.2 (by assumption)
    | exact fun h => absurd (hz.2 h.1) (by assumption)
set_option maxRecDepth 100000 in
set_option maxHeartbeats 4000000 in
theorem boundR_ok (k : Int) (hk : 2 ≤ k ∧ k ≤ 14) (b : Bool) (n : Int) (t : ByteArray) (ln : Nat) (c : List EV) (ht : t.size ≤ 140737488351232) (hln : ln ≤ 140737488351232) (h : EH) :
    Tri Tryz.prog gs 46 [.lit (.int .i64 k), .agg [.lit (.bool b), .lit (.int .i64 n), .lit (.string t), .isl ln none c]] h fun v h' => IsP (bndP k b n t ln) v ∧ h' = h := by
  refine Tri.boolC rfl (Tri_of F46_ok fun I0 ρ0 w0 Q hρ hQ => ?_) h
  obtain ⟨A, hA⟩ : ∃ A, A = stdA := ⟨_, rfl⟩
  have he := emp_iff t
  have hs := simple_ok k
  unfold bndP at hQ
  by_cases hl : ln = 0
  · subst hl
    cases b
    · by_cases h12 : 12 ≤ k
      · skip
        with_reducible refine runS hA hd hQ 200 ?hk ?_
        case hk => exact trivial
        conv => arg 9; cbv
        try simp only [OK]
        repeat' first | ((with_reducible refine ⟨fun hbr => ?_, fun hbr => ?_⟩) <;> (try simp (disch := omega) only [hA, OK, emaU, Int.reduceToNat, s_bat, reduceCtorEq] at hbr) <;> (try (with_reducible exfalso; omega))) | ((with_reducible refine runK hA hd hQ 200 ?hk ?_); (case hk => exact trivial); (conv => arg 9; cbv); (try simp only [OK])) | ((with_reducible refine need_of ?hn ?_); (case hn => ((simp (disch := omega) only [hA, OK, emaU, Int.reduceToNat, s_bat]) <;> omega))) | (refine CallOK.of (goodF_of F57_ok) (Tri.mono (textR_ok _ _) fun v hh hx => ?_); (obtain ⟨⟨b, hv, hb⟩, he⟩ := hx; subst hv; subst he; cases b <;> simp (disch := omega) only [hA, OK, emaU, Int.reduceToNat, s_bat, Bool.false_eq_true, true_iff, false_iff, eq_self, reduceCtorEq] at hb) <;> (try (with_reducible exfalso; omega)))
        all_goals (try (with_reducible refine FinR.self ?_; first | refine FinR.bl rfl ?_ | refine FinR.bs rfl ?_ | refine FinR.blh rfl ?_ rfl | refine FinR.bsh rfl ?_ rfl))
        all_goals (try simp (disch := omega) only [hA, OK, emaU, Int.reduceToNat, s_bat, Bool.false_eq_true, true_iff, false_iff, eq_self, iff_true, iff_false])
        all_goals (try rw [if_pos (by omega)])
        all_goals (first | omega | (simp; done) | (simp; omega) | (simp_all; done) | (simp_all; omega))
      · have hf := fitsRight_num k n t c (by omega) ht
        rw [show kindX k = k from if_neg (by omega)] at hs
        unfold cellsX at hs hf
        with_reducible refine runS hA hd hQ 200 ?hk ?_
        case hk => exact trivial
        conv => arg 9; cbv
        try simp only [OK]
        repeat' first | ((with_reducible refine ⟨fun hbr => ?_, fun hbr => ?_⟩) <;> (try simp (disch := omega) only [hA, OK, emaU, Int.reduceToNat, s_bat, reduceCtorEq] at hbr) <;> (try (with_reducible exfalso; omega))) | ((with_reducible refine runK hA hd hQ 200 ?hk ?_); (case hk => exact trivial); (conv => arg 9; cbv); (try simp only [OK])) | ((with_reducible refine need_of ?hn ?_); (case hn => ((simp (disch := omega) only [hA, OK, emaU, Int.reduceToNat, s_bat]) <;> omega))) | (refine CallOK.of (goodF_of F57_ok) (Tri.mono (textR_ok _ _) fun v hh hx => ?_); (obtain ⟨⟨b, hv, hb⟩, he⟩ := hx; subst hv; subst he; cases b <;> simp (disch := omega) only [hA, OK, emaU, Int.reduceToNat, s_bat, Bool.false_eq_true, true_iff, false_iff, eq_self, reduceCtorEq] at hb) <;> (try (with_reducible exfalso; omega)))
        · refine CallOK.of (goodF_of F49_ok) (Tri.mono (hs _) fun v hh hx => ?_)
          obtain ⟨hv, hh'⟩ := hx
          subst hv; subst hh'
          with_reducible refine runK hA hd hQ 1 ?hk ?_
          case hk => exact trivial
          conv => arg 9; cbv
          try simp only [OK]
          repeat' first | (with_reducible refine And.intro trivial ?_) | ((with_reducible refine ⟨fun hbr => ?_, fun hbr => ?_⟩) <;> (try simp (disch := omega) only [hA, OK, emaU, Int.reduceToNat, s_bat, reduceCtorEq] at hbr) <;> (try (with_reducible exfalso; omega))) | ((with_reducible refine runK hA hd hQ 200 ?hk ?_); (case hk => exact trivial); (conv => arg 9; cbv); (try simp only [OK])) | ((with_reducible refine need_of ?hn ?_); (case hn => ((simp (disch := omega) only [hA, OK, emaU, Int.reduceToNat, s_bat]) <;> omega))) | (refine CallOK.of (goodF_of F67_ok) (Tri.mono (hf _) fun v hh hx => ?_); (obtain ⟨⟨b, hv, hb⟩, he⟩ := hx; subst hv; subst he; cases b <;> simp (disch := omega) only [hA, OK, emaU, Int.reduceToNat, s_bat, Bool.false_eq_true, true_iff, false_iff, eq_self, reduceCtorEq] at hb) <;> (try (with_reducible exfalso; omega)))
          all_goals (try (with_reducible refine FinR.self ?_; first | refine FinR.bl rfl ?_ | refine FinR.bs rfl ?_ | refine FinR.blh rfl ?_ rfl | refine FinR.bsh rfl ?_ rfl))
          all_goals (try simp (disch := omega) only [hA, OK, emaU, Int.reduceToNat, s_bat, Bool.false_eq_true, true_iff, false_iff, eq_self, iff_true, iff_false])
          all_goals (try rw [if_neg (show ¬ 12 ≤ k by omega)])
          all_goals first
            | exact ⟨trivial, trivial, hb.2⟩
            | (have h0 := he.1 (by assumption); exact fun h => hb ⟨by omega, h.2.2⟩)
        · skip
          all_goals (try (with_reducible refine FinR.self ?_; first | refine FinR.bl rfl ?_ | refine FinR.bs rfl ?_ | refine FinR.blh rfl ?_ rfl | refine FinR.bsh rfl ?_ rfl))
          all_goals (try simp (disch := omega) only [hA, OK, emaU, Int.reduceToNat, s_bat, Bool.false_eq_true, true_iff, false_iff, eq_self, iff_true, iff_false])
          all_goals (rw [if_neg (show ¬ 12 ≤ k by omega)]; exact fun h => absurd (he.2 h.2.2.1) (by assumption))
    · skip
      with_reducible refine runS hA hd hQ 200 ?hk ?_
      case hk => exact trivial
      conv => arg 9; cbv
      try simp only [OK]
      repeat' first | ((with_reducible refine ⟨fun hbr => ?_, fun hbr => ?_⟩) <;> (try simp (disch := omega) only [hA, OK, emaU, Int.reduceToNat, s_bat, reduceCtorEq] at hbr) <;> (try (with_reducible exfalso; omega))) | ((with_reducible refine runK hA hd hQ 200 ?hk ?_); (case hk => exact trivial); (conv => arg 9; cbv); (try simp only [OK])) | ((with_reducible refine need_of ?hn ?_); (case hn => ((simp (disch := omega) only [hA, OK, emaU, Int.reduceToNat, s_bat]) <;> omega)))
      all_goals (try (with_reducible refine FinR.self ?_; first | refine FinR.bl rfl ?_ | refine FinR.bs rfl ?_ | refine FinR.blh rfl ?_ rfl | refine FinR.bsh rfl ?_ rfl))
      all_goals (try simp (disch := omega) only [hA, OK, emaU, Int.reduceToNat, s_bat, Bool.false_eq_true, true_iff, false_iff, eq_self, iff_true, iff_false])
      all_goals simp
  · cases b
    all_goals
      with_reducible refine runS hA hd hQ 200 ?hk ?_
      case hk => exact trivial
      conv => arg 9; cbv
      try simp only [OK]
      repeat' first | ((with_reducible refine ⟨fun hbr => ?_, fun hbr => ?_⟩) <;> (try simp (disch := omega) only [hA, OK, emaU, Int.reduceToNat, s_bat, reduceCtorEq] at hbr) <;> (try (with_reducible exfalso; omega))) | ((with_reducible refine runK hA hd hQ 200 ?hk ?_); (case hk => exact trivial); (conv => arg 9; cbv); (try simp only [OK])) | ((with_reducible refine need_of ?hn ?_); (case hn => ((simp (disch := omega) only [hA, OK, emaU, Int.reduceToNat, s_bat]) <;> omega)))
    all_goals (try (with_reducible refine FinR.self ?_; first | refine FinR.bl rfl ?_ | refine FinR.bs rfl ?_ | refine FinR.blh rfl ?_ rfl | refine FinR.bsh rfl ?_ rfl))
    all_goals (try simp (disch := omega) only [hA, OK, emaU, Int.reduceToNat, s_bat, Bool.false_eq_true, true_iff, false_iff, eq_self, iff_true, iff_false])
    all_goals simp [hl]
theorem boundV_ok (k : Int) (hk : 2 ≤ k ∧ k ≤ 14) (v : VP) (hv : v.ok) (h : EH) : Tri Tryz.prog gs 46 [.lit (.int .i64 k), .agg v.cells] h fun x h' => IsP (v.bnd k) x ∧ h' = h :=
  boundR_ok k hk v.b v.n v.t v.ln v.c hv.2.1 hv.2.2 h
set_option maxHeartbeats 4000000 in
theorem kindOf_ok (f g : Fld) (hall : allF f) (hcore : Core f g) (h : EH) : Tri Tryz.prog gs 21 [.agg (cellsF f)] h fun v h' => v = .lit (.int .i64 g.kind) ∧ h' = h := by
  refine Tri.valC rfl (by rw [cellsF_eq]; rfl) (Tri_of F21_ok fun I0 ρ0 w0 Q hρ hQ => ?_) h
  obtain ⟨A, hA⟩ : ∃ A, A = stdA := ⟨_, rfl⟩
  have hpl := plainR_ok f g hall hcore
  unfold PlainV at hpl
  rw [cellsF_eq] at hpl ⊢
  generalize cellsFs f.kids = kc, f.kids.length = kn, f.nm = nm, f.nul = nul, f.kind = k, f.width = w, f.id = i, f.idx = x at *
  generalize cellsFs g.kids = gc, g.kids.length = gn, g.kind = gk, g.width = gw, g.id = gi, g.idx = gx at *
  with_reducible refine runS hA hd hQ 200 ?hk ?_
  case hk => exact trivial
  conv => arg 9; cbv
  try simp only [OK]
  repeat' first | ((with_reducible refine ⟨fun hbr => ?_, fun hbr => ?_⟩) <;> (try simp (disch := omega) only [hA, OK, emaU, Int.reduceToNat, s_bat, reduceCtorEq] at hbr) <;> (try (with_reducible exfalso; omega))) | ((with_reducible refine runK hA hd hQ 200 ?hk ?_); (case hk => exact trivial); (conv => arg 9; cbv); (try simp only [OK])) | ((with_reducible refine need_of ?hn ?_); (case hn => ((simp (disch := omega) only [hA, OK, emaU, Int.reduceToNat, s_bat]) <;> omega)))
  refine CallOK.of (goodF_of F47_ok) (Tri.mono (hpl _) fun v hh hx => ?_)
  obtain ⟨⟨pm, pu, hv⟩, hh'⟩ := hx
  subst hv; subst hh'
  with_reducible refine runK hA hd hQ 1 ?hk ?_
  case hk => exact trivial
  conv => arg 9; cbv
  try simp only [OK]
  repeat' first | ((with_reducible refine ⟨fun hbr => ?_, fun hbr => ?_⟩) <;> (try simp (disch := omega) only [hA, OK, emaU, Int.reduceToNat, s_bat, reduceCtorEq] at hbr) <;> (try (with_reducible exfalso; omega))) | ((with_reducible refine runK hA hd hQ 200 ?hk ?_); (case hk => exact trivial); (conv => arg 9; cbv); (try simp only [OK])) | ((with_reducible refine need_of ?hn ?_); (case hn => ((simp (disch := omega) only [hA, OK, emaU, Int.reduceToNat, s_bat]) <;> omega)))
  exact FinR.intro rfl rfl
set_option maxRecDepth 100000 in
set_option maxHeartbeats 4000000 in
theorem orderRB_ok (k : Int) (hk : 2 ≤ k ∧ k ≤ 14) (l m : VP) (hlo : l.ok) (hmo : m.ok) (hl : l.bnd k) (hm : m.bnd k) (h : EH) :
    Tri Tryz.prog gs 22 [.lit (.int .i64 k), .agg l.cells, .agg m.cells] h fun v h' => IsN .i64 (fun n => n = ordS k l.n m.n l.t m.t) v ∧ h' = h := by
  refine Tri.intC rfl (Tri_of F22_ok fun I0 ρ0 w0 Q hρ hQ => ?_) h
  obtain ⟨A, hA⟩ : ∃ A, A = stdA := ⟨_, rfl⟩
  obtain ⟨lb, ln, lt, ll, lc⟩ := l
  obtain ⟨mb, mn, mt, ml, mc⟩ := m
  obtain ⟨h1, h2, h3⟩ := hl
  obtain ⟨h4, h5, h6⟩ := hm
  simp only at h1 h2 h4 h5
  subst h1; subst h2; subst h4; subst h5
  have hs := simple_ok k
  have ho := orderR_ok k ln mn lt mt lc mc hk hlo.1 hmo.1
  obtain ⟨q, hq⟩ : ∃ q, q = kindX k := ⟨_, rfl⟩
  rw [← hq] at hs ho
  unfold cellsX at hs ho
  unfold VP.cells
  simp only at hQ ⊢
  with_reducible refine runS hA hd hQ 200 ?hk ?_
  case hk => exact trivial
  conv => arg 9; cbv
  try simp only [OK]
  repeat' first | ((with_reducible refine ⟨fun hbr => ?_, fun hbr => ?_⟩) <;> (try simp (disch := omega) only [hA, OK, emaU, Int.reduceToNat, s_bat, reduceCtorEq] at hbr) <;> (try (with_reducible exfalso; omega))) | ((with_reducible refine runK hA hd hQ 200 ?hk ?_); (case hk => exact trivial); (conv => arg 9; cbv); (try simp only [OK])) | ((with_reducible refine need_of ?hn ?_); (case hn => ((simp (disch := omega) only [hA, OK, emaU, Int.reduceToNat, s_bat]) <;> omega)))
  refine CallOK.of (goodF_of F49_ok) (Tri.mono (hs _) fun v hh hx => ?_)
  obtain ⟨hv, hh'⟩ := hx
  subst hv; subst hh'
  with_reducible refine runK hA hd hQ 1 ?hk ?_
  case hk => exact trivial
  conv => arg 9; cbv
  try simp only [OK]
  repeat' first | (with_reducible refine And.intro trivial ?_) | ((with_reducible refine ⟨fun hbr => ?_, fun hbr => ?_⟩) <;> (try simp (disch := omega) only [hA, OK, emaU, Int.reduceToNat, s_bat, reduceCtorEq] at hbr) <;> (try (with_reducible exfalso; omega))) | ((with_reducible refine runK hA hd hQ 200 ?hk ?_); (case hk => exact trivial); (conv => arg 9; cbv); (try simp only [OK])) | ((with_reducible refine need_of ?hn ?_); (case hn => ((simp (disch := omega) only [hA, OK, emaU, Int.reduceToNat, s_bat]) <;> omega))) | (refine CallOK.of (goodF_of F48_ok) (Tri.mono (ho _) fun v hh hx => ?_); (obtain ⟨⟨z, hv, hz⟩, he⟩ := hx; subst hv; subst he))
  exact FinR.n rfl hz
end Go.Proofs.YtecephhhjhpcjaaGreatDoor.Stats
end
section
set_option linter.unusedVariables false
set_option linter.unusedSimpArgs false
-- emaX: s_bat
namespace Go.Proofs.YtecephhhjhpcjaaGreatDoor.Stats
open Go Go.Proofs.YtecephhhjhpcjaaGreatDoor Go.Proofs.YtecephhhjhpcjaaGreatDoor.Em
set_option maxRecDepth 100000 in
set_option maxHeartbeats 8000000 in
theorem isR_ok (f g : Fld) (hall : allF f) (hcore : Core f g) (hg : allF g) (rows nulls : Int) (has : Bool) (l m : VP) (hlo : l.ok) (hmo : m.ok) (h : EH) :
    Tri Tryz.prog gs 20 [.agg (cellsF f), .agg ([.lit (.int .i64 rows), .lit (.int .i64 nulls), .lit (.bool has)] ++ l.cells ++ m.cells)] h fun v h' => IsP (statP g.kind rows nulls has l m) v ∧ h' = h := by
  refine Tri.boolC (by rw [cellsF_eq]; rfl) (Tri_of F20_ok fun I0 ρ0 w0 Q hρ hQ => ?_) h
  obtain ⟨A, hA⟩ : ∃ A, A = stdA := ⟨_, rfl⟩
  have hpl := kindOf_ok f g hall hcore
  have hnl := zeroR_ok l.b l.n l.t l.ln l.c
  have hnm := zeroR_ok m.b m.n m.t m.ln m.c
  have hbl := fun (hk : 2 ≤ g.kind ∧ g.kind ≤ 14) => boundV_ok g.kind hk l hlo
  have hbm := fun (hk : 2 ≤ g.kind ∧ g.kind ≤ 14) => boundV_ok g.kind hk m hmo
  have hor := fun (hk : 2 ≤ g.kind ∧ g.kind ≤ 14) (h1 : l.bnd g.kind) (h2 : m.bnd g.kind) => orderRB_ok g.kind hk l m hlo hmo h1 h2
  unfold VP.cells at *
  unfold VP.bnd at hbl hbm
  rw [cellsF_eq] at *
  simp only [List.cons_append, List.nil_append, List.append_assoc]
  obtain ⟨lb, ln, lt, ll, lc⟩ := l
  obtain ⟨mb, mn, mt, ml, mc⟩ := m
  simp only at *
  generalize cellsFs f.kids = kc, f.kids.length = kn, f.nm = nm, f.nul = nul, f.kind = k, f.width = w, f.id = i, f.idx = x at *
  generalize g.kind = gk at *
  cases has
  · skip
    with_reducible refine runS hA hd hQ 200 ?hk ?_
    case hk => exact trivial
    conv => arg 9; cbv
    try simp only [OK]
    repeat' first | ((with_reducible refine ⟨fun hbr => ?_, fun hbr => ?_⟩) <;> (try simp (disch := omega) only [hA, OK, emaU, Int.reduceToNat, s_bat, reduceCtorEq] at hbr) <;> (try (with_reducible exfalso; omega))) | ((with_reducible refine runK hA hd hQ 200 ?hk ?_); (case hk => exact trivial); (conv => arg 9; cbv); (try simp only [OK])) | ((with_reducible refine need_of ?hn ?_); (case hn => ((simp (disch := omega) only [hA, OK, emaU, Int.reduceToNat, s_bat]) <;> omega))) | (refine CallOK.of (goodF_of F44_ok) (Tri.mono (hnl _) fun v hh hx => ?_); (obtain ⟨⟨b, hv, hb⟩, he⟩ := hx; subst hv; subst he; cases b <;> simp (disch := omega) only [hA, OK, emaU, Int.reduceToNat, s_bat, Bool.false_eq_true, true_iff, false_iff, eq_self, reduceCtorEq] at hb) <;> (try (with_reducible exfalso; omega))) | (refine CallOK.of (goodF_of F44_ok) (Tri.mono (hnm _) fun v hh hx => ?_); (obtain ⟨⟨b, hv, hb⟩, he⟩ := hx; subst hv; subst he; cases b <;> simp (disch := omega) only [hA, OK, emaU, Int.reduceToNat, s_bat, Bool.false_eq_true, true_iff, false_iff, eq_self, reduceCtorEq] at hb) <;> (try (with_reducible exfalso; omega)))
    all_goals (try (with_reducible refine FinR.self ?_; first | refine FinR.bl rfl ?_ | refine FinR.bs rfl ?_ | refine FinR.blh rfl ?_ rfl | refine FinR.bsh rfl ?_ rfl))
    all_goals (try simp (disch := omega) only [hA, OK, emaU, Int.reduceToNat, s_bat, Bool.false_eq_true, true_iff, false_iff, eq_self, iff_true, iff_false])
    all_goals first
      | exact fun h => by have h1 := h.1; have h2 := h.2.1; have h3 := h.2.2.1; have h4 := h.2.2.2.1; omega
      | exact fun h => absurd (h.2.2.2.2.1 rfl).1 (by assumption : ¬ noneP lb ln lt ll)
      | exact fun h => absurd (h.2.2.2.2.1 rfl).2 (by assumption : ¬ noneP mb mn mt ml)
      | exact ⟨by omega, by omega, by omega, by omega, fun _ => ⟨(by assumption : noneP lb ln lt ll), (by assumption : noneP mb mn mt ml)⟩, fun h => (nomatch h)⟩
  · skip
    with_reducible refine runS hA hd hQ 200 ?hk ?_
    case hk => exact trivial
    conv => arg 9; cbv
    try simp only [OK]
    repeat' first | ((with_reducible refine ⟨fun hbr => ?_, fun hbr => ?_⟩) <;> (try simp (disch := omega) only [hA, OK, emaU, Int.reduceToNat, s_bat, reduceCtorEq] at hbr) <;> (try (with_reducible exfalso; omega))) | ((with_reducible refine runK hA hd hQ 200 ?hk ?_); (case hk => exact trivial); (conv => arg 9; cbv); (try simp only [OK])) | ((with_reducible refine need_of ?hn ?_); (case hn => ((simp (disch := omega) only [hA, OK, emaU, Int.reduceToNat, s_bat]) <;> omega)))
    rotate_right
    · refine CallOK.of (goodF_of F21_ok) (Tri.mono (hpl _) fun v hh hx => ?_)
      obtain ⟨hv, hh'⟩ := hx
      subst hv; subst hh'
      with_reducible refine runK hA hd hQ 1 ?hk ?_
      case hk => exact trivial
      conv => arg 9; cbv
      try simp only [OK]
      repeat' first | ((with_reducible refine ⟨fun hbr => ?_, fun hbr => ?_⟩) <;> (try simp (disch := omega) only [hA, OK, emaU, Int.reduceToNat, s_bat, reduceCtorEq] at hbr) <;> (try (with_reducible exfalso; omega))) | ((with_reducible refine runK hA hd hQ 200 ?hk ?_); (case hk => exact trivial); (conv => arg 9; cbv); (try simp only [OK])) | ((with_reducible refine need_of ?hn ?_); (case hn => ((simp (disch := omega) only [hA, OK, emaU, Int.reduceToNat, s_bat]) <;> omega))) | (refine CallOK.of (goodF_of F45_ok) (Tri.mono (bounded_ok _ _) fun v hh hx => ?_); (obtain ⟨⟨b, hv, hb⟩, he⟩ := hx; subst hv; subst he; cases b <;> simp (disch := omega) only [hA, OK, emaU, Int.reduceToNat, s_bat, Bool.false_eq_true, true_iff, false_iff, eq_self, reduceCtorEq] at hb) <;> (try (with_reducible exfalso; omega))) | (refine CallOK.of (goodF_of F46_ok) (Tri.mono (hbl (by assumption) _) fun v hh hx => ?_); (obtain ⟨⟨b, hv, hb⟩, he⟩ := hx; subst hv; subst he; cases b <;> simp (disch := omega) only [hA, OK, emaU, Int.reduceToNat, s_bat, Bool.false_eq_true, true_iff, false_iff, eq_self, reduceCtorEq] at hb) <;> (try (with_reducible exfalso; omega))) | (refine CallOK.of (goodF_of F46_ok) (Tri.mono (hbm (by assumption) _) fun v hh hx => ?_); (obtain ⟨⟨b, hv, hb⟩, he⟩ := hx; subst hv; subst he; cases b <;> simp (disch := omega) only [hA, OK, emaU, Int.reduceToNat, s_bat, Bool.false_eq_true, true_iff, false_iff, eq_self, reduceCtorEq] at hb) <;> (try (with_reducible exfalso; omega))) | (refine CallOK.of (goodF_of F22_ok) (Tri.mono (hor (by assumption) (by assumption : bndP gk lb ln lt ll) (by assumption : bndP gk mb mn mt ml) _) fun v hh hx => ?_); (obtain ⟨⟨z, hv, hz⟩, he⟩ := hx; subst hv; subst he))
      all_goals (try (with_reducible refine FinR.self ?_; first | refine FinR.bl rfl ?_ | refine FinR.bs rfl ?_ | refine FinR.blh rfl ?_ rfl | refine FinR.bsh rfl ?_ rfl))
      all_goals (try simp (disch := omega) only [hA, OK, emaU, Int.reduceToNat, s_bat, Bool.false_eq_true, true_iff, false_iff, eq_self, iff_true, iff_false])
      all_goals first
        | exact fun h => absurd (h.2.2.2.2.2 rfl).1 (by assumption)
        | exact fun h => absurd (by assumption) (h.2.2.2.2.2 rfl).2.1
        | exact fun h => absurd (h.2.2.2.2.2 rfl).2.2.1 (by assumption : ¬ bndP gk lb ln lt ll)
        | exact fun h => absurd (h.2.2.2.2.2 rfl).2.2.2.1 (by assumption : ¬ bndP gk mb mn mt ml)
        | (subst hz; refine ⟨fun h => ⟨by omega, by omega, by omega, by omega, fun h => (nomatch h), fun _ => ⟨?_, ?_, ?_, ?_, h⟩⟩, fun h => (h.2.2.2.2.2 rfl).2.2.2.2⟩ <;> assumption)
    all_goals (try (with_reducible refine FinR.self ?_; first | refine FinR.bl rfl ?_ | refine FinR.bs rfl ?_ | refine FinR.blh rfl ?_ rfl | refine FinR.bsh rfl ?_ rfl))
    all_goals (try simp (disch := omega) only [hA, OK, emaU, Int.reduceToNat, s_bat, Bool.false_eq_true, true_iff, false_iff, eq_self, iff_true, iff_false])
    all_goals exact fun h => by have h1 := h.1; have h2 := h.2.1; have h3 := h.2.2.1; have h4 := h.2.2.2.1; omega
end Go.Proofs.YtecephhhjhpcjaaGreatDoor.Stats
end
section
set_option linter.unusedVariables false
set_option linter.unusedSimpArgs false
-- emaX: s_bat
namespace Go.Proofs.YtecephhhjhpcjaaGreatDoor.Stats
open Go Go.Proofs.YtecephhhjhpcjaaGreatDoor Go.Proofs.YtecephhhjhpcjaaGreatDoor.Em
structure StP where
  rows : Int
  nulls : Int
  has : Bool
  l : VP
  m : VP
def StP.cells (s : StP) : List EV := [.lit (.int .i64 s.rows), .lit (.int .i64 s.nulls), .lit (.bool s.has)] ++ s.l.cells ++ s.m.cells
def StP.ok (s : StP) : Prop := i64r s.rows ∧ i64r s.nulls ∧ s.l.ok ∧ s.m.ok
def StP.may (k : Int) (s : StP) : Prop := statP k s.rows s.nulls s.has s.l s.m
def vp0 : VP := ⟨false, 0, ⟨#[]⟩, 0, []⟩
def st0 : StP := ⟨0, 0, false, vp0, vp0⟩
def VP.same (v w : VP) : Prop := v.b = w.b ∧ v.n = w.n ∧ v.t = w.t ∧ v.ln = 0 ∧ w.ln = 0
def StP.same (s t : StP) : Prop := s.rows = t.rows ∧ s.nulls = t.nulls ∧ s.has = t.has ∧ s.l.same t.l ∧ s.m.same t.m
noncomputable def ck (f : Fld) : Int := open Classical in if h : ∃ g, Core f g then (Classical.choose h).kind else 0
theorem ck_eq {f g : Fld} (h : Core f g) : ck f = g.kind := by
  have hx : ∃ g, Core f g := ⟨g, h⟩
  rw [ck, dif_pos hx, (Classical.choose_spec hx).det h]
theorem Up.agg {l m : List EV} (h : l.length = m.length) (k : ∀ (j : Nat) (x y : EV), l[j]? = some x → m[j]? = some y → Up x y) : Up (.agg l) (.agg m) := fun w I ρ cv hr => by
  cases hr with
  | agg _ c vs hl hc =>
    refine .agg _ _ _ (by rw [← h]; exact hl) fun j e v he hv => ?_
    have hj : j < l.length := by rw [h]; exact (List.getElem?_eq_some_iff.1 he).1
    exact k j l[j] e (List.getElem?_eq_getElem hj) he _ _ _ _ (hc j _ v (List.getElem?_eq_getElem hj) hv)
theorem same0 : vp0.same vp0 := ⟨rfl, rfl, rfl, rfl, rfl⟩
end Go.Proofs.YtecephhhjhpcjaaGreatDoor.Stats
end
section
set_option linter.unusedVariables false
set_option linter.unusedSimpArgs false
-- emaX: s_bat
namespace Go.Proofs.YtecephhhjhpcjaaGreatDoor.Stats
open Go Go.Proofs.YtecephhhjhpcjaaGreatDoor Go.Proofs.YtecephhhjhpcjaaGreatDoor.Em
set_option maxRecDepth 100000 in
set_option maxHeartbeats 4000000 in
theorem sameVR_ok (v w : VP) (e : v.same w) (h : EH) : Tri Tryz.prog gs 23 [.agg v.cells, .agg w.cells] h fun v h' => IsP True v ∧ h' = h := by
  obtain ⟨b, n, t, l, c⟩ := v
  obtain ⟨b', n', t', l', c'⟩ := w
  obtain ⟨e1, e2, e3, e4, e5⟩ := e
  simp only at e1 e2 e3 e4 e5
  subst e1; subst e2; subst e3; subst e4; subst e5
  refine Tri.boolC rfl (Tri_of F23_ok fun I0 ρ0 w0 Q hρ hQ => ?_) h
  obtain ⟨A, hA⟩ : ∃ A, A = stdA := ⟨_, rfl⟩
  simp only [VP.cells]
  have hne := s_neqB t t
  cases b
  all_goals
    with_reducible refine runS hA hd hQ 200 ?hk ?_
    case hk => exact trivial
    conv => arg 9; cbv
    try simp only [OK]
    repeat' first | (with_reducible refine OKK.loop ?_) | (with_reducible refine OKK.again ?_) | ((with_reducible refine ⟨fun hbr => ?_, fun hbr => ?_⟩) <;> (try simp (disch := omega) only [hA, OK, emaU, Int.reduceToNat, s_bat, reduceCtorEq , s_neqB, ne_eq, not_true_eq_false, decide_false] at hbr) <;> (try (with_reducible exfalso; omega))) | ((with_reducible refine runK hA hd hQ 200 ?hk ?_); (case hk => exact trivial); (conv => arg 9; cbv); (try simp only [OK])) | ((with_reducible refine need_of ?hn ?_); (case hn => ((simp (disch := omega) only [hA, OK, emaU, Int.reduceToNat, s_bat , s_neqB, ne_eq, not_true_eq_false, decide_false]) <;> omega)))
  all_goals (try (with_reducible refine FinR.self ?_; first | refine FinR.bl rfl ?_ | refine FinR.bs rfl ?_ | refine FinR.blh rfl ?_ rfl | refine FinR.bsh rfl ?_ rfl))
  all_goals (try simp (disch := omega) only [hA, OK, emaU, Int.reduceToNat, s_bat, Bool.false_eq_true, true_iff, false_iff, eq_self, iff_true, iff_false])
  all_goals first
    | exact absurd trivial (by assumption)
    | exact absurd (by assumption : (false == false) = false) (by decide)
    | exact absurd (by assumption : (true == true) = false) (by decide)
    | (refine OKs.loop (fun s => s = _) (fun _ => 0) (fun s hs _ => ?_) rfl; subst hs)
  all_goals
    with_reducible refine runS hA hd hQ 200 ?hk ?_
    case hk => exact trivial
    conv => arg 9; cbv
    try simp only [OK]
    repeat' first | (with_reducible refine OKK.loop ?_) | (with_reducible refine OKK.again ?_) | ((with_reducible refine ⟨fun hbr => ?_, fun hbr => ?_⟩) <;> (try simp (disch := omega) only [hA, OK, emaU, Int.reduceToNat, s_bat, reduceCtorEq] at hbr) <;> (try (with_reducible exfalso; omega))) | ((with_reducible refine runK hA hd hQ 200 ?hk ?_); (case hk => exact trivial); (conv => arg 9; cbv); (try simp only [OK])) | ((with_reducible refine need_of ?hn ?_); (case hn => ((simp (disch := omega) only [hA, OK, emaU, Int.reduceToNat, s_bat]) <;> omega)))
  all_goals (try (with_reducible refine FinR.self ?_; first | refine FinR.bl rfl ?_ | refine FinR.bs rfl ?_ | refine FinR.blh rfl ?_ rfl | refine FinR.bsh rfl ?_ rfl))
  all_goals (try simp (disch := omega) only [hA, OK, emaU, Int.reduceToNat, s_bat, Bool.false_eq_true, true_iff, false_iff, eq_self, iff_true, iff_false])
  all_goals first
    | exact absurd trivial (by assumption)
    | exact absurd (by assumption : (false == false) = false) (by decide)
    | exact absurd (by assumption : (true == true) = false) (by decide)
    | (simp_all; done)
    | omega
set_option maxRecDepth 100000 in
set_option maxHeartbeats 4000000 in
theorem sameSR_ok (s t : StP) (e : s.same t) (h : EH) : Tri Tryz.prog gs 8 [.agg s.cells, .agg t.cells] h fun v h' => IsP True v ∧ h' = h := by
  have h1 := sameVR_ok s.l t.l e.2.2.2.1
  have h2 := sameVR_ok s.m t.m e.2.2.2.2
  obtain ⟨r, n, hs, ⟨b, m, x, l, c⟩, ⟨b2, m2, x2, l2, c2⟩⟩ := s
  obtain ⟨r', n', hs', ⟨b', m', x', l', c'⟩, ⟨b2', m2', x2', l2', c2'⟩⟩ := t
  obtain ⟨e1, e2, e3, ⟨e4, e5, e6, e7, e8⟩, ⟨e9, e10, e11, e12, e13⟩⟩ := e
  simp only at e1 e2 e3 e4 e5 e6 e7 e8 e9 e10 e11 e12 e13
  subst e1; subst e2; subst e3; subst e4; subst e5; subst e6; subst e7; subst e8; subst e9; subst e10; subst e11; subst e12; subst e13
  refine Tri.boolC rfl (Tri_of F8_ok fun I0 ρ0 w0 Q hρ hQ => ?_) h
  obtain ⟨A, hA⟩ : ∃ A, A = stdA := ⟨_, rfl⟩
  simp only [StP.cells, VP.cells, List.cons_append, List.nil_append, List.append_assoc] at *
  cases hs
  all_goals
    with_reducible refine runS hA hd hQ 200 ?hk ?_
    case hk => exact trivial
    conv => arg 9; cbv
    try simp only [OK]
    repeat' first | ((with_reducible refine ⟨fun hbr => ?_, fun hbr => ?_⟩) <;> (try simp (disch := omega) only [hA, OK, emaU, Int.reduceToNat, s_bat, reduceCtorEq] at hbr) <;> (try (with_reducible exfalso; omega))) | ((with_reducible refine runK hA hd hQ 200 ?hk ?_); (case hk => exact trivial); (conv => arg 9; cbv); (try simp only [OK])) | ((with_reducible refine need_of ?hn ?_); (case hn => ((simp (disch := omega) only [hA, OK, emaU, Int.reduceToNat, s_bat]) <;> omega))) | (refine CallOK.of (goodF_of F23_ok) (Tri.mono (h1 _) fun v hh hx => ?_); (obtain ⟨⟨b, hv, hb⟩, he⟩ := hx; subst hv; subst he; cases b <;> simp (disch := omega) only [hA, OK, emaU, Int.reduceToNat, s_bat, Bool.false_eq_true, true_iff, false_iff, eq_self, reduceCtorEq] at hb) <;> (try (with_reducible exfalso; omega))) | (refine CallOK.of (goodF_of F23_ok) (Tri.mono (h2 _) fun v hh hx => ?_); (obtain ⟨⟨b, hv, hb⟩, he⟩ := hx; subst hv; subst he; cases b <;> simp (disch := omega) only [hA, OK, emaU, Int.reduceToNat, s_bat, Bool.false_eq_true, true_iff, false_iff, eq_self, reduceCtorEq] at hb) <;> (try (with_reducible exfalso; omega)))
  all_goals (try (with_reducible refine FinR.self ?_; first | refine FinR.bl rfl ?_ | refine FinR.bs rfl ?_ | refine FinR.blh rfl ?_ rfl | refine FinR.bsh rfl ?_ rfl))
  all_goals (try simp (disch := omega) only [hA, OK, emaU, Int.reduceToNat, s_bat, Bool.false_eq_true, true_iff, false_iff, eq_self, iff_true, iff_false])
  all_goals first
    | exact absurd trivial (by assumption)
    | exact absurd (by assumption : (false == false) = false) (by decide)
    | exact absurd (by assumption : (true == true) = false) (by decide)
    | (simp_all; done)
    | omega
end Go.Proofs.YtecephhhjhpcjaaGreatDoor.Stats
end
section
set_option linter.unusedVariables false
namespace Go.Proofs.YtecephhhjhpcjaaGreatDoor.Stats
open Go Go.Proofs.YtecephhhjhpcjaaGreatDoor Go.Proofs.YtecephhhjhpcjaaGreatDoor.Em
def F5 : FC := ⟨53, [.tmp 4],
  (sQ [o 2 (.box (q 0)), o 4 (.mov kF)]
  (sQ [o 12 (.load true 2 (q 2)), oM 13 1, o 14 (.call 12 [.tmp 12, .tmp 13]), oM 11 14, o 15 (.extract (q 11) 0), o 16 (.extract (q 11) 1), oM 5 15, oM 6 16]
  (sQ [o 18 (.load true 2 (q 2)), oM 19 1, o 20 (.call 13 [.tmp 18, .tmp 19]), oM 17 20, o 21 (.extract (q 17) 0), o 22 (.extract (q 17) 1), oM 7 21, oM 8 22]
  (.seq (sQ [oM 23 6, oM 24 8, o 25 (.bin .neq (q 23) (q 24) tI), oM 26 25, og 27 (.mov (q 5)) 26 false, og 28 (.mov (q 7)) 26 false, og 29 (.call 14 [.tmp 27, .tmp 28]) 26 false, og 30 (.un .not (q 29)) 26 false, o 31 (.pick (q 26) kT (q 30))]
  (.cond (q 31)
  (sQ [o 4 (.mov kF)]
  .ret)
  .skip))
  (.seq (sQ [oM 32 6, o 33 (.bin .eql (q 32) (kI 0) tI)]
  (.cond (q 33)
  (sQ [o 35 (.load true 2 (q 2)), oM 36 5, o 37 (.call 10 [.tmp 35, .tmp 36]), oM 34 37, o 38 (.extract (q 34) 0), o 39 (.extract (q 34) 1), oM 9 38, oM 10 39]
  (sQ [oM 40 10, o 41 (.bin .eql (q 40) (kI 0) tI), oM 42 41, og 43 (.mov (q 9)) 42 true, og 44 (.b2s (q 43)) 42 true, og 45 (.mov (q 1)) 42 true, og 46 (.b2s (q 45)) 42 true, og 47 (.bin .eql (q 44) (q 46) (some .string)) 42 true, o 48 (.pick (q 42) (q 47) kF), oM 49 48, og 50 (.call 9 []) 49 true, o 51 (.pick (q 49) (q 50) kF), oM 4 51]
  .ret))
  .skip))
  (sQ [o 52 (.call 9 []), oM 4 52]
  .ret))))))⟩
theorem F5_ok : compF Tryz.prog 5 = some F5 := by kernel_rfl
def F10 : FC := ⟨59, [.tmp 4, .tmp 5],
  (sQ [o 2 (.box (q 0)), o 4 (.mov (.const (.slice none 0 0))), o 5 (.mov (kI 0))]
  (.seq (sQ [o 11 (.load true 2 (q 2)), oM 12 1, o 13 (.call 25 [.tmp 11, .tmp 12]), oM 6 13]
  (sQ [oM 14 6, o 15 (.bin .neq (q 14) (kI 0) tI)]
  (.cond (q 15)
  (sQ [oM 16 6, o 4 (.mov (.const (.slice none 0 0))), oM 5 16]
  .ret)
  .skip)))
  (sQ [o 7 (.mov (.const (.slice none 0 0)))]
  (.seq (sQ [oM 17 1, o 18 (.len 1 (q 17)), o 19 (.mov (kI 0))]
  (.block 0 (.loop (sQ [o 20 (.bin .lss (q 19) (q 18) tI)]
  (.seq (.cond (q 20)
  .skip
  (.exit 0))
  (.seq (.block 1 (sQ [oM 21 19, o 22 (.indexAddr 11 (q 17) (q 19)), o 23 (.load true 11 (q 22)), o 9 (.alloc zaZ), oM 8 21, oS 11 9 23]
  (sQ [oM 24 7, oA 25 0 9, oL 26 25, o 27 (.call 26 [.tmp 24, .tmp 26, (kI 4)]), oM 7 27]
  (sQ [oM 28 7, oA 29 1 9, oL 30 29, o 31 (.call 26 [.tmp 28, .tmp 30, (kI 4)]), oM 7 31]
  (.seq (sQ [oA 32 2 9, oL 33 32, o 34 (.un .not (q 33))]
  (.cond (q 34)
  (sQ [oM 35 7, o 36 (.buildSlice 1 1 [.int .u8 0] [(0, 1, (.const (.int .u8 0)))]), o 37 (.append 1 1 (q 35) (q 36)), oM 7 37]
  (.exit 1))
  .skip))
  (sQ [oA 38 0 2, oL 39 38, oM 40 8, o 41 (.indexAddr 7 (q 39) (q 40)), o 42 (.load true 7 (q 41)), o 43 (.call 17 [.tmp 42]), o 44 (.field true 2 5 (q 43)), o 45 (.field false 0 1 (q 44)), oM 10 45]
  (.ops [oM 46 7, oM 49 10, oA 50 3 9, o 51 (.load true 4 (q 50)), oM 53 10, oA 54 7 9, o 55 (.load true 4 (q 54)), o 47 (.buildSlice 1 1 [.int .u8 0] [(0, 1, (.const (.int .u8 1)))]), ⟨none, .again 55 true 4 (q 54), none⟩, ⟨none, .again 51 true 4 (q 50), none⟩, o 48 (.append 1 1 (q 46) (q 47)), ⟨none, .again 55 true 4 (q 54), none⟩, ⟨none, .again 51 true 4 (q 50), none⟩, o 52 (.call 27 [.tmp 48, .tmp 49, .tmp 51]), ⟨none, .again 55 true 4 (q 54), none⟩, o 56 (.call 27 [.tmp 52, .tmp 53, .tmp 55]), oM 7 56])))))))
  (.ops [o 57 (.bin .add (q 19) (kI 1) tI), oM 19 57])))))))
  (sQ [oM 58 7, oM 4 58, o 5 (.mov (kI 0))]
  .ret)))))⟩
theorem F10_ok : compF Tryz.prog 10 = some F10 := by kernel_rfl
def F12 : FC := ⟨78, [.tmp 4, .tmp 5],
  (sQ [o 2 (.box (q 0)), o 4 (.mov (.const (.slice none 0 0))), o 5 (.mov (kI 0))]
  (.seq (sQ [o 14 (.load true 2 (q 2)), o 15 (.call 31 [.tmp 14]), o 16 (.field false 0 1 (q 15)), o 17 (.bin .neq (q 16) (kI 0) tI)]
  (.cond (q 17)
  (sQ [o 4 (.mov (.const (.slice none 0 0))), o 5 (.mov (kI 5))]
  .ret)
  .skip))
  (sQ [oM 18 1, o 19 (.build [.slice none 0 0, .bool false] [(0, 1, (q 18))]), o 20 (.box (q 19)), oM 6 20]
  (sQ [o 7 (.mov (.const (.slice none 0 0)))]
  (.seq (sQ [oA 21 0 2, oL 22 21, o 23 (.len 1 (q 22)), o 24 (.mov (kI 0))]
  (.block 0 (.loop (sQ [o 25 (.bin .lss (q 24) (q 23) tI)]
  (.seq (.cond (q 25)
  .skip
  (.exit 0))
  (.seq (.block 1 (sQ [o 26 (.indexAddr 7 (q 22) (q 24)), o 27 (.load true 7 (q 26)), o 9 (.alloc zbZ), oS 7 9 27]
  (sQ [oM 28 6, o 29 (.call 32 [.tmp 28, (kI 4)]), o 30 (.build zaZ [(0, 1, (q 29))]), o 10 (.alloc zaZ), oS 11 10 30]
  (sQ [oM 31 6, o 32 (.call 32 [.tmp 31, (kI 4)]), oA 33 1 10, oS 1 33 32]
  (sQ [oM 34 6, o 35 (.call 32 [.tmp 34, (kI 1)]), o 36 (.bin .eql (q 35) (kI 1) tI), oA 37 2 10, oS 1 37 36]
  (.seq (sQ [oA 38 2 10, oL 39 38]
  (.cond (q 39)
  (sQ [o 40 (.load true 7 (q 9)), o 41 (.call 17 [.tmp 40]), o 42 (.field true 2 5 (q 41)), o 43 (.field false 0 1 (q 42)), oM 11 43]
  (sQ [oM 44 6, oM 45 11, o 46 (.call 33 [.tmp 44, .tmp 45]), oA 47 3 10, oS 4 47 46]
  (.ops [oM 48 6, oM 49 11, o 50 (.call 33 [.tmp 48, .tmp 49]), oA 51 7 10, oS 4 51 50])))
  .skip))
  (.ops [oM 52 7, o 53 (.load true 11 (q 10)), o 54 (.buildSlice 11 1 zaZ [(0, 11, (q 53))]), o 55 (.append 11 136 (q 52) (q 54)), oM 7 55])))))))
  (.ops [o 56 (.bin .add (q 24) (kI 1) tI), oM 24 56])))))))
  (sQ [o 58 (.load true 2 (q 2)), oM 59 7, o 60 (.call 10 [.tmp 58, .tmp 59]), oM 57 60, o 61 (.extract (q 57) 0), o 62 (.extract (q 57) 1), oM 12 61, oM 13 62]
  (.seq (sQ [oM 63 6, o 64 (.nilCheck (q 63)), oA 65 1 64, oL 66 65, oM 67 66, og 68 (.mov (q 13)) 67 false, og 69 (.bin .neq (q 68) (kI 0) tI) 67 false, o 70 (.pick (q 67) kT (q 69)), oM 71 70, og 72 (.mov (q 12)) 71 false, og 73 (.mov (q 1)) 71 false, og 74 (.call 34 [.tmp 72, .tmp 73]) 71 false, og 75 (.un .not (q 74)) 71 false, o 76 (.pick (q 71) kT (q 75))]
  (.cond (q 76)
  (sQ [o 4 (.mov (.const (.slice none 0 0))), o 5 (.mov (kI 8))]
  .ret)
  .skip))
  (sQ [oM 77 7, oM 4 77, o 5 (.mov (kI 0))]
  .ret))))))))⟩
theorem F12_ok : compF Tryz.prog 12 = some F12 := by kernel_rfl
def F13 : FC := ⟨89, [.tmp 4, .tmp 5],
  (sQ [o 2 (.box (q 0)), o 4 (.mov (.const (.slice none 0 0))), o 5 (.mov (kI 0))]
  (sQ [o 14 (.load true 2 (q 2)), o 15 (.call 28 [.tmp 14]), o 6 (.alloc [.int .i64 0, .slice none 0 0, .int .i64 0]), oS 3 6 15]
  (.seq (sQ [oA 16 0 6, oL 17 16, o 18 (.bin .neq (q 17) (kI 0) tI)]
  (.cond (q 18)
  (sQ [o 4 (.mov (.const (.slice none 0 0))), o 5 (.mov (kI 5))]
  .ret)
  .skip))
  (sQ [oM 19 1, o 20 (.build [.slice none 0 0, .bool false] [(0, 1, (q 19))]), o 21 (.box (q 20)), oM 7 21]
  (sQ [o 22 (.buildSlice 11 0 [] []), oM 8 22]
  (.seq (sQ [o 9 (.mov (kI 0))]
  (.block 0 (.loop (.seq (sQ [oM 23 9, oA 24 0 2, oL 25 24, o 26 (.len 1 (q 25)), o 27 (.bin .lss (q 23) (q 26) tI)]
  (.cond (q 27)
  .skip
  (.exit 0)))
  (.seq (.block 1 (sQ [o 10 (.alloc zaZ)]
  (sQ [oM 30 7, o 31 (.call 35 [.tmp 30, (kI 4)]), o 32 (.conv .i64 (q 31)), oA 33 0 10, oS 1 33 32]
  (sQ [oM 34 7, o 35 (.call 35 [.tmp 34, (kI 4)]), o 36 (.conv .i64 (q 35)), oA 37 1 10, oS 1 37 36]
  (sQ [oM 38 7, o 39 (.call 35 [.tmp 38, (kI 1)]), oM 11 39]
  (sQ [oM 40 11, o 41 (.bin .eql (q 40) (.const (.int .u64 1)) (some (.int .u64))), oA 42 2 10, oS 1 42 41]
  (.seq (sQ [oA 43 2 10, oL 44 43]
  (.cond (q 44)
  (sQ [oA 45 0 2, oL 46 45, oM 47 9, o 48 (.indexAddr 7 (q 46) (q 47)), o 49 (.load true 7 (q 48)), o 50 (.call 21 [.tmp 49]), oM 12 50]
  (sQ [oM 51 7, oM 52 12, o 53 (.call 36 [.tmp 51, .tmp 52]), oA 54 3 10, oS 4 54 53]
  (.ops [oM 55 7, oM 56 12, o 57 (.call 36 [.tmp 55, .tmp 56]), oA 58 7 10, oS 4 58 57])))
  .skip))
  (sQ [oA 59 0 2, oL 60 59, oM 61 9, o 62 (.indexAddr 7 (q 60) (q 61)), o 63 (.load true 7 (q 62)), o 64 (.load true 11 (q 10)), o 65 (.call 20 [.tmp 63, .tmp 64]), oM 13 65]
  (.seq (sQ [oM 66 7, o 67 (.nilCheck (q 66)), oA 68 1 67, oL 69 68, oM 70 69, og 71 (.mov (q 11)) 70 false, og 72 (.bin .gtr (q 71) (.const (.int .u64 1)) (some (.int .u64))) 70 false, o 73 (.pick (q 70) kT (q 72)), oM 74 73, og 75 (.mov (q 13)) 74 false, og 76 (.un .not (q 75)) 74 false, o 77 (.pick (q 74) kT (q 76))]
  (.cond (q 77)
  (sQ [o 4 (.mov (.const (.slice none 0 0))), o 5 (.mov (kI 8))]
  .ret)
  .skip))
  (.ops [oM 78 8, o 79 (.load true 11 (q 10)), o 80 (.buildSlice 11 1 zaZ [(0, 11, (q 79))]), o 81 (.append 11 136 (q 78) (q 80)), oM 8 81]))))))))))
  (.ops [oM 28 9, o 29 (.bin .add (q 28) (kI 1) tI), oM 9 29]))))))
  (.seq (sQ [oM 82 7, o 83 (.nilCheck (q 82)), oA 84 0 83, oL 85 84, o 86 (.len 1 (q 85)), o 87 (.bin .gtr (q 86) (kI 0) tI)]
  (.cond (q 87)
  (sQ [o 4 (.mov (.const (.slice none 0 0))), o 5 (.mov (kI 8))]
  .ret)
  .skip))
  (sQ [oM 88 8, oM 4 88, o 5 (.mov (kI 0))]
  .ret))))))))⟩
theorem F13_ok : compF Tryz.prog 13 = some F13 := by kernel_rfl
def F14 : FC := ⟨27, [.tmp 4],
  (sQ [o 4 (.mov kF)]
  (.seq (sQ [oM 6 0, o 7 (.len 1 (q 6)), oM 8 1, o 9 (.len 1 (q 8)), o 10 (.bin .neq (q 7) (q 9) tI)]
  (.cond (q 10)
  (sQ [o 4 (.mov kF)]
  .ret)
  .skip))
  (.seq (sQ [o 5 (.mov (kI 0))]
  (.block 0 (.loop (.seq (sQ [oM 11 5, oM 12 0, o 13 (.len 1 (q 12)), o 14 (.bin .lss (q 11) (q 13) tI)]
  (.cond (q 14)
  .skip
  (.exit 0)))
  (.seq (.block 1 (sQ [oM 17 0, oM 18 5, o 19 (.indexAddr 11 (q 17) (q 18)), o 20 (.load true 11 (q 19)), oM 21 1, oM 22 5, o 23 (.indexAddr 11 (q 21) (q 22)), o 24 (.load true 11 (q 23)), o 25 (.call 8 [.tmp 20, .tmp 24]), o 26 (.un .not (q 25))]
  (.cond (q 26)
  (sQ [o 4 (.mov kF)]
  .ret)
  .skip)))
  (.ops [oM 15 5, o 16 (.bin .add (q 15) (kI 1) tI), oM 5 16]))))))
  (sQ [o 4 (.mov kT)]
  .ret))))⟩
theorem F14_ok : compF Tryz.prog 14 = some F14 := by kernel_rfl
def F25 : FC := ⟨35, [.tmp 4],
  (sQ [o 2 (.box (q 0)), o 4 (.mov (kI 0))]
  (.seq (.block 0 (sQ [o 8 (.load true 2 (q 2)), o 9 (.call 31 [.tmp 8]), o 10 (.field false 0 1 (q 9)), o 11 (.bin .neq (q 10) (kI 0) tI), oM 7 11]
  (.cond (q 7)
  (sQ [o 4 (.mov (kI 5))]
  .ret)
  (sQ [oM 13 1, o 14 (.len 1 (q 13)), oA 15 0 2, oL 16 15, o 17 (.len 1 (q 16)), o 18 (.bin .neq (q 14) (q 17) tI), oM 12 18]
  (.cond (q 12)
  (sQ [o 4 (.mov (kI 6))]
  .ret)
  .skip)))))
  (.seq (sQ [oM 19 1, o 20 (.len 1 (q 19)), o 21 (.mov (kI 0))]
  (.block 1 (.loop (sQ [o 22 (.bin .lss (q 21) (q 20) tI)]
  (.seq (.cond (q 22)
  .skip
  (.exit 1))
  (.seq (.block 2 (sQ [oM 23 21, o 24 (.indexAddr 11 (q 19) (q 21)), o 25 (.load true 11 (q 24)), o 6 (.alloc zaZ), oM 5 23, oS 11 6 25]
  (sQ [oA 26 0 2, oL 27 26, oM 28 5, o 29 (.indexAddr 7 (q 27) (q 28)), o 30 (.load true 7 (q 29)), o 31 (.load true 11 (q 6)), o 32 (.call 16 [.tmp 30, .tmp 31]), o 33 (.un .not (q 32))]
  (.cond (q 33)
  (sQ [o 4 (.mov (kI 7))]
  .ret)
  .skip))))
  (.ops [o 34 (.bin .add (q 21) (kI 1) tI), oM 21 34])))))))
  (sQ [o 4 (.mov (kI 0))]
  .ret))))⟩
theorem F25_ok : compF Tryz.prog 25 = some F25 := by kernel_rfl
def F26 : FC := ⟨19, [.tmp 6],
  (sQ [o 6 (.mov (.const (.slice none 0 0)))]
  (.seq (sQ [oM 7 2, o 8 (.mov (kI 0))]
  (.block 0 (.loop (sQ [o 9 (.bin .lss (q 8) (q 7) tI)]
  (.seq (.cond (q 9)
  .skip
  (.exit 0))
  (.seq (.block 1 (sQ [oM 10 0, oM 11 1, o 12 (.conv .u8 (q 11)), o 13 (.buildSlice 1 1 [.int .u8 0] [(0, 1, (q 12))]), o 14 (.append 1 1 (q 10) (q 13)), oM 0 14]
  (.ops [oM 15 1, o 16 (.bin .shr (q 15) (.const (.int .u64 8)) tI), oM 1 16])))
  (.ops [o 17 (.bin .add (q 8) (kI 1) tI), oM 8 17])))))))
  (sQ [oM 18 0, oM 6 18]
  .ret)))⟩
theorem F26_ok : compF Tryz.prog 26 = some F26 := by kernel_rfl
def F27 : FC := ⟨23, [.tmp 6],
  (sQ [o 5 (.box (q 2)), o 6 (.mov (.const (.slice none 0 0)))]
  (.seq (sQ [oM 7 1, o 8 (.call 40 [.tmp 7])]
  (.cond (q 8)
  (sQ [oM 9 0, oA 10 2 5, oL 11 10, o 12 (.len 0 (q 11)), o 13 (.conv .u8 (q 12)), oA 16 2 5, oL 17 16, o 14 (.buildSlice 1 1 [.int .u8 0] [(0, 1, (q 13))]), ⟨none, .again 17 false 1 (q 16), none⟩, o 15 (.append 1 1 (q 9) (q 14)), ⟨none, .again 17 false 1 (q 16), none⟩, o 18 (.append 1 1 (q 15) (q 17)), oM 6 18]
  .ret)
  .skip))
  (sQ [oM 19 0, oA 20 1 5, oL 21 20, o 22 (.call 26 [.tmp 19, .tmp 21, (kI 8)]), oM 6 22]
  .ret)))⟩
theorem F27_ok : compF Tryz.prog 27 = some F27 := by kernel_rfl
def F32 : FC := ⟨27, [.tmp 4],
  (sQ [o 4 (.mov (kI 0))]
  (sQ [o 5 (.mov (.const (.int .u64 0)))]
  (.seq (sQ [oM 8 0, oM 9 1, o 10 (.call 60 [.tmp 8, .tmp 9]), o 11 (.len 1 (q 10)), o 12 (.mov (kI 0))]
  (.block 0 (.loop (sQ [o 13 (.bin .lss (q 12) (q 11) tI)]
  (.seq (.cond (q 13)
  .skip
  (.exit 0))
  (.seq (.block 1 (sQ [oM 14 12, o 15 (.indexAddr 1 (q 10) (q 12)), oL 16 15, oM 6 14, oM 7 16]
  (.ops [oM 17 5, oM 18 7, o 19 (.conv .u64 (q 18)), oM 20 6, o 21 (.bin .mul (kI 8) (q 20) tI), o 22 (.bin .shl (q 19) (q 21) (some (.int .u64))), o 23 (.bin .or (q 17) (q 22) (some (.int .u64))), oM 5 23])))
  (.ops [o 24 (.bin .add (q 12) (kI 1) tI), oM 12 24])))))))
  (sQ [oM 25 5, o 26 (.conv .i64 (q 25)), oM 4 26]
  .ret))))⟩
theorem F32_ok : compF Tryz.prog 32 = some F32 := by kernel_rfl
def F33 : FC := ⟨16, [.cell 4 true 4],
  (sQ [o 4 (.alloc zcZ)]
  (.seq (sQ [oM 5 1, o 6 (.call 40 [.tmp 5])]
  (.cond (q 6)
  (sQ [oM 7 0, oM 8 0, o 9 (.call 32 [.tmp 8, (kI 1)]), o 10 (.call 60 [.tmp 7, .tmp 9]), o 11 (.b2s (q 10)), o 12 (.build zcZ [(2, 1, (q 11))]), oS 4 4 12]
  .ret)
  .skip))
  (sQ [oM 13 0, o 14 (.call 32 [.tmp 13, (kI 8)]), o 15 (.build zcZ [(1, 1, (q 14))]), oS 4 4 15]
  .ret)))⟩
theorem F33_ok : compF Tryz.prog 33 = some F33 := by kernel_rfl
def F34 : FC := ⟨26, [.tmp 4],
  (sQ [o 4 (.mov kF)]
  (.seq (sQ [oM 6 0, o 7 (.len 1 (q 6)), oM 8 1, o 9 (.len 1 (q 8)), o 10 (.bin .neq (q 7) (q 9) tI)]
  (.cond (q 10)
  (sQ [o 4 (.mov kF)]
  .ret)
  .skip))
  (.seq (sQ [oM 11 0, o 12 (.len 1 (q 11)), o 13 (.mov (kI 0))]
  (.block 0 (.loop (sQ [o 14 (.bin .lss (q 13) (q 12) tI)]
  (.seq (.cond (q 14)
  .skip
  (.exit 0))
  (.seq (.block 1 (sQ [oM 15 13, oM 5 15]
  (sQ [oM 16 0, oM 17 5, o 18 (.indexAddr 1 (q 16) (q 17)), oL 19 18, oM 20 1, oM 21 5, o 22 (.indexAddr 1 (q 20) (q 21)), oL 23 22, o 24 (.bin .neq (q 19) (q 23) (some (.int .u8)))]
  (.cond (q 24)
  (sQ [o 4 (.mov kF)]
  .ret)
  .skip))))
  (.ops [o 25 (.bin .add (q 13) (kI 1) tI), oM 13 25])))))))
  (sQ [o 4 (.mov kT)]
  .ret))))⟩
theorem F34_ok : compF Tryz.prog 34 = some F34 := by kernel_rfl
def F35 : FC := ⟨26, [.tmp 4],
  (sQ [o 4 (.mov (.const (.int .u64 0)))]
  (sQ [oM 8 0, oM 9 1, o 10 (.call 61 [.tmp 8, .tmp 9]), oM 5 10]
  (sQ [o 6 (.mov (.const (.int .u64 0)))]
  (.seq (sQ [oM 11 1, o 12 (.bin .sub (q 11) (kI 1) tI), oM 7 12]
  (.block 0 (.loop (.seq (sQ [oM 13 7, o 14 (.bin .geq (q 13) (kI 0) tI)]
  (.cond (q 14)
  .skip
  (.exit 0)))
  (.seq (.block 1 (.ops [oM 17 6, o 18 (.bin .mul (.const (.int .u64 256)) (q 17) (some (.int .u64))), oM 19 5, oM 20 7, o 21 (.indexAddr 1 (q 19) (q 20)), oL 22 21, o 23 (.conv .u64 (q 22)), o 24 (.bin .add (q 18) (q 23) (some (.int .u64))), oM 6 24]))
  (.ops [oM 15 7, o 16 (.bin .sub (q 15) (kI 1) tI), oM 7 16]))))))
  (sQ [oM 25 6, oM 4 25]
  .ret)))))⟩
theorem F35_ok : compF Tryz.prog 35 = some F35 := by kernel_rfl
def F36 : FC := ⟨20, [.cell 4 true 4],
  (sQ [o 4 (.alloc zcZ)]
  (.seq (sQ [oM 6 1, o 7 (.call 57 [.tmp 6])]
  (.cond (q 7)
  (sQ [oM 8 0, o 9 (.call 35 [.tmp 8, (kI 1)]), o 10 (.conv .i64 (q 9)), oM 5 10]
  (sQ [oM 11 0, oM 12 5, o 13 (.call 61 [.tmp 11, .tmp 12]), o 14 (.b2s (q 13)), o 15 (.build zcZ [(2, 1, (q 14))]), oS 4 4 15]
  .ret))
  .skip))
  (sQ [oM 16 0, o 17 (.call 35 [.tmp 16, (kI 8)]), o 18 (.conv .i64 (q 17)), o 19 (.build zcZ [(1, 1, (q 18))]), oS 4 4 19]
  .ret)))⟩
theorem F36_ok : compF Tryz.prog 36 = some F36 := by kernel_rfl
def F60 : FC := ⟨40, [.tmp 4],
  (sQ [o 4 (.mov (.const (.slice none 0 0)))]
  (.seq (sQ [oM 6 0, o 7 (.nilCheck (q 6)), oA 8 1 7, oL 9 8, oM 10 9, og 11 (.mov (q 1)) 10 false, og 12 (.mov (q 0)) 10 false, og 13 (.nilCheck (q 12)) 10 false, og 14 (.fieldAddr 0 (q 13)) 10 false, og 15 (.load false 1 (q 14)) 10 false, og 16 (.len 1 (q 15)) 10 false, og 17 (.bin .gtr (q 11) (q 16) tI) 10 false, o 18 (.pick (q 10) kT (q 17))]
  (.cond (q 18)
  (sQ [oM 19 0, o 20 (.nilCheck (q 19)), oA 21 1 20, ⟨none, .store 1 (q 21) kT, none⟩]
  (sQ [oM 22 1, o 23 (.mkSlice 1 1 [.int .u8 0] (q 22) (q 22)), oM 4 23]
  .ret))
  .skip))
  (sQ [oM 24 0, o 25 (.nilCheck (q 24)), oA 26 0 25, oL 27 26, oM 28 1, o 29 (.slice 1 (q 27) none (some (q 28)) none), oM 5 29]
  (sQ [oM 30 0, oM 31 0, o 32 (.nilCheck (q 31)), oA 33 0 32, oL 34 33, oM 35 1, o 36 (.slice 1 (q 34) (some (q 35)) none none), o 37 (.nilCheck (q 30)), oA 38 0 37, oS 1 38 36]
  (sQ [oM 39 5, oM 4 39]
  .ret)))))⟩
theorem F60_ok : compF Tryz.prog 60 = some F60 := by kernel_rfl
def F61 : FC := ⟨35, [.tmp 4],
  (sQ [o 4 (.mov (.const (.slice none 0 0)))]
  (.seq (sQ [oM 6 1, oM 7 0, o 8 (.nilCheck (q 7)), oA 9 0 8, oL 10 9, o 11 (.len 1 (q 10)), o 12 (.bin .gtr (q 6) (q 11) tI)]
  (.cond (q 12)
  (sQ [oM 13 0, o 14 (.nilCheck (q 13)), oA 15 1 14, ⟨none, .store 1 (q 15) kT, none⟩]
  (sQ [oM 16 1, o 17 (.mkSlice 1 1 [.int .u8 0] (q 16) (q 16)), oM 4 17]
  .ret))
  .skip))
  (sQ [oM 18 0, o 19 (.nilCheck (q 18)), oA 20 0 19, oL 21 20, oM 22 1, o 23 (.slice 1 (q 21) none (some (q 22)) none), o 24 (.append 1 1 (.const (.slice none 0 0)) (q 23)), oM 5 24]
  (sQ [oM 25 0, oM 26 0, o 27 (.nilCheck (q 26)), oA 28 0 27, oL 29 28, oM 30 1, o 31 (.slice 1 (q 29) (some (q 30)) none none), o 32 (.nilCheck (q 25)), oA 33 0 32, oS 1 33 31]
  (sQ [oM 34 5, oM 4 34]
  .ret)))))⟩
theorem F61_ok : compF Tryz.prog 61 = some F61 := by kernel_rfl
end Go.Proofs.YtecephhhjhpcjaaGreatDoor.Stats
end
