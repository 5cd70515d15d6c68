/- YtmckingimnhoaaaGreatDoorMf: the texts Ct12, Ct13, Ct9, Ct10, Ct11, Ct14, Ct15, Ct16, Ct17, Scf, Ct18, brought together. No conditions. -/
import Derived.Test.YtmckingimnhoaaaGreatDoorMe
import Derived.Test.YtmckingimnhoaaaGreatDoorX22
import Derived.Test.YtmckingimnhoaaaGreatDoorProg
import Derived.KernelRfl
set_option linter.unusedVariables false
set_option linter.unusedSimpArgs false
namespace Go.Proofs.YtmckingimnhoaaaGreatDoor.Stats
open Go Go.Proofs.YtmckingimnhoaaaGreatDoor Go.Proofs.YtmckingimnhoaaaGreatDoor.Em
-- emaX: s_bat
theorem pf_mem {l : List PF} {j : Nat} (h : j < l.length) : l.getD j pf0 ∈ l := by
  rw [List.getD_eq_getElem?_getD, List.getElem?_eq_getElem h]; exact List.getElem_mem _
theorem pf_all {l : List PF} {q : PF → Prop} (h : ∀ j, j < l.length → q (l.getD j pf0)) : ∀ p ∈ l, q p := fun p hp => by
  obtain ⟨j, hj, rfl⟩ := List.getElem_of_mem hp
  have := h j hj
  rwa [List.getD_eq_getElem?_getD, List.getElem?_eq_getElem hj] at this
theorem isWhole_ok (k : Int) (h : EH) : Tri Tryz.prog gs 59 [.lit (.int .i64 k)] h fun v h' => IsP (3 ≤ k ∧ k ≤ 10) v ∧ h' = h := by
  refine Tri.boolC rfl (Tri_of F59_ok fun I0 ρ0 w0 Q hρ hQ => ?_) h
  obtain ⟨A, hA⟩ : ∃ A, A = stdA := ⟨_, rfl⟩
  with_reducible refine runS hA hd hQ 200 ?hk ?_
  case hk => exact trivial
  conv => arg 9; cbv
  try simp only [OK]
  repeat' first | ((with_reducible refine ⟨fun hbr => ?_, fun hbr => ?_⟩) <;> (try simp (disch := omega) only [hA, OK, emaU, Int.reduceToNat, s_bat, reduceCtorEq] at hbr) <;> (try (with_reducible exfalso; omega))) | ((with_reducible refine runK hA hd hQ 200 ?hk ?_); (case hk => exact trivial); (conv => arg 9; cbv); (try simp only [OK])) | ((with_reducible refine need_of ?hn ?_); (case hn => ((simp (disch := omega) only [hA, OK, emaU, Int.reduceToNat, s_bat]) <;> omega))) | fail
  all_goals (try (with_reducible refine FinR.self ?_; first | refine FinR.bl rfl ?_ | refine FinR.bs rfl ?_ | refine FinR.blh rfl ?_ rfl | refine FinR.bsh rfl ?_ rfl))
  all_goals (try simp (disch := omega) only [hA, OK, emaU, Int.reduceToNat, s_bat, Bool.false_eq_true, true_iff, false_iff, eq_self, iff_true, iff_false])
  all_goals omega
theorem isSigned_ok (k : Int) (h : EH) : Tri Tryz.prog gs 63 [.lit (.int .i64 k)] h fun v h' => IsP (3 ≤ k ∧ k ≤ 6) v ∧ h' = h := by
  refine Tri.boolC rfl (Tri_of F63_ok fun I0 ρ0 w0 Q hρ hQ => ?_) h
  obtain ⟨A, hA⟩ : ∃ A, A = stdA := ⟨_, rfl⟩
  with_reducible refine runS hA hd hQ 200 ?hk ?_
  case hk => exact trivial
  conv => arg 9; cbv
  try simp only [OK]
  repeat' first | ((with_reducible refine ⟨fun hbr => ?_, fun hbr => ?_⟩) <;> (try simp (disch := omega) only [hA, OK, emaU, Int.reduceToNat, s_bat, reduceCtorEq] at hbr) <;> (try (with_reducible exfalso; omega))) | ((with_reducible refine runK hA hd hQ 200 ?hk ?_); (case hk => exact trivial); (conv => arg 9; cbv); (try simp only [OK])) | ((with_reducible refine need_of ?hn ?_); (case hn => ((simp (disch := omega) only [hA, OK, emaU, Int.reduceToNat, s_bat]) <;> omega))) | fail
  all_goals (try (with_reducible refine FinR.self ?_; first | refine FinR.bl rfl ?_ | refine FinR.bs rfl ?_ | refine FinR.blh rfl ?_ rfl | refine FinR.bsh rfl ?_ rfl))
  all_goals (try simp (disch := omega) only [hA, OK, emaU, Int.reduceToNat, s_bat, Bool.false_eq_true, true_iff, false_iff, eq_self, iff_true, iff_false])
  all_goals omega
theorem isTextC_ok (k : Int) (h : EH) : Tri Tryz.prog gs 69 [.lit (.int .i64 k)] h fun v h' => IsP (k = 12 ∨ k = 13) v ∧ h' = h := by
  refine Tri.boolC rfl (Tri_of F69_ok fun I0 ρ0 w0 Q hρ hQ => ?_) h
  obtain ⟨A, hA⟩ : ∃ A, A = stdA := ⟨_, rfl⟩
  with_reducible refine runS hA hd hQ 200 ?hk ?_
  case hk => exact trivial
  conv => arg 9; cbv
  try simp only [OK]
  repeat' first | ((with_reducible refine ⟨fun hbr => ?_, fun hbr => ?_⟩) <;> (try simp (disch := omega) only [hA, OK, emaU, Int.reduceToNat, s_bat, reduceCtorEq] at hbr) <;> (try (with_reducible exfalso; omega))) | ((with_reducible refine runK hA hd hQ 200 ?hk ?_); (case hk => exact trivial); (conv => arg 9; cbv); (try simp only [OK])) | ((with_reducible refine need_of ?hn ?_); (case hn => ((simp (disch := omega) only [hA, OK, emaU, Int.reduceToNat, s_bat]) <;> omega))) | fail
  all_goals (try (with_reducible refine FinR.self ?_; first | refine FinR.bl rfl ?_ | refine FinR.bs rfl ?_ | refine FinR.blh rfl ?_ rfl | refine FinR.bsh rfl ?_ rfl))
  all_goals (try simp (disch := omega) only [hA, OK, emaU, Int.reduceToNat, s_bat, Bool.false_eq_true, true_iff, false_iff, eq_self, iff_true, iff_false])
  all_goals omega
theorem never_ok (l : List PF) (h : EH) : Tri Tryz.prog gs 35 [islP l] h fun v h' => IsP False v ∧ h' = h := by
  refine Tri.boolC rfl (Tri_of F35_ok fun I0 ρ0 w0 Q hρ hQ => ?_) h
  obtain ⟨A, hA⟩ : ∃ A, A = stdA := ⟨_, rfl⟩
  unfold islP
  generalize cellsPF l = c, l.length = n
  with_reducible refine runS hA hd hQ 200 ?hk ?_
  case hk => exact trivial
  conv => arg 9; cbv
  try simp only [OK]
  repeat' first | ((with_reducible refine ⟨fun hbr => ?_, fun hbr => ?_⟩) <;> (try simp (disch := omega) only [hA, OK, emaU, Int.reduceToNat, s_bat, reduceCtorEq] at hbr) <;> (try (with_reducible exfalso; omega))) | ((with_reducible refine runK hA hd hQ 200 ?hk ?_); (case hk => exact trivial); (conv => arg 9; cbv); (try simp only [OK])) | ((with_reducible refine need_of ?hn ?_); (case hn => ((simp (disch := omega) only [hA, OK, emaU, Int.reduceToNat, s_bat]) <;> omega))) | fail
  all_goals (try (with_reducible refine FinR.self ?_; first | refine FinR.bl rfl ?_ | refine FinR.bs rfl ?_ | refine FinR.blh rfl ?_ rfl | refine FinR.bsh rfl ?_ rfl))
  all_goals (try simp (disch := omega) only [hA, OK, emaU, Int.reduceToNat, s_bat, Bool.false_eq_true, true_iff, false_iff, eq_self, iff_true, iff_false])
def LP (l : List PF) (n : Nat) (c : List EV) : Prop := n = l.length ∧ n ≤ 140737488351232 ∧ ∀ j, j < n → List.take 7 (List.drop (j * 7) c) = (l.getD j pf0).cells
theorem LP.of {l : List PF} (h : l.length ≤ 140737488351232) : LP l l.length (cellsPF l) := ⟨rfl, h, fun j hj => pf_get l j hj⟩
theorem LP.part {l : List PF} {n : Nat} {c : List EV} (h : LP l n c) {i o k : Nat} (hi : i < n) (hk : o + k ≤ 7) : (c.drop (i * 7 + o)).take k = ((l.getD i pf0).cells.drop o).take k := by
  rw [← h.2.2 i hi, List.drop_take, List.take_take, Nat.min_eq_left (by omega), List.drop_drop]
theorem LP.tail {l : List PF} {n : Nat} {c : List EV} (h : LP l n c) (h0 : 0 < n) : LP (l.drop 1) (n - 1) (c.drop 7) := by
  refine ⟨by rw [List.length_drop, h.1], by have := h.2.1; omega, fun j hj => ?_⟩
  have := h.2.2 (j + 1) (by omega)
  rw [List.drop_drop, show 7 + j * 7 = (j + 1) * 7 by omega, this]
  simp only [List.getD_eq_getElem?_getD, List.getElem?_drop]
  rw [Nat.add_comm]
set_option maxHeartbeats 4000000 in
theorem oneLets_ok (l : List PF) (n : Nat) (c : List EV) (hl : LP l n c) (h : EH) :
    Tri Tryz.prog gs 24 [.isl n none c] h fun v h' => IsP (∃ p ∈ l, p.nul = true) v ∧ h' = h := by
  refine Tri.boolC rfl (Tri_of F24_ok fun I0 ρ0 w0 Q hρ hQ => ?_) h
  obtain ⟨A, hA⟩ : ∃ A, A = stdA := ⟨_, rfl⟩
  have hn := hl.1
  have hll := hl.2.1
  with_reducible refine runS hA hd hQ 200 ?hk ?_
  case hk => exact trivial
  conv => arg 9; cbv
  try simp only [OK]
  repeat' first | (with_reducible refine OKK.loop ?_) | (with_reducible refine OKK.again ?_) | ((with_reducible refine ⟨fun hbr => ?_, fun hbr => ?_⟩) <;> (try simp (disch := omega) only [hA, OK, emaU, Int.reduceToNat, s_bat, reduceCtorEq] at hbr) <;> (try (with_reducible exfalso; omega))) | ((with_reducible refine runK hA hd hQ 200 ?hk ?_); (case hk => exact trivial); (conv => arg 9; cbv); (try simp only [OK])) | ((with_reducible refine need_of ?hn ?_); (case hn => ((simp (disch := omega) only [hA, OK, emaU, Int.reduceToNat, s_bat]) <;> omega))) | fail
  refine OKs.mask (msk 14 [5, 6, 7]) ?_
  refine OKs.loopN (fun m st => ∃ z : Int, st = ⟨mkT 14 [(5, .isl n none c), (6, .lit (.int .i64 (A.ofn n))), (7, .lit (.int .i64 z))], []⟩ ∧ m = (n - z).toNat ∧ 0 ≤ z ∧ z ≤ n ∧ ∀ j, j < z.toNat → (l.getD j pf0).nul = false) (fun m st hs' ih => ?_) ⟨0, rfl, rfl, by omega, by omega, fun j hj => absurd hj (by simp)⟩
  obtain ⟨z, rfl, hm, hz1, hz2, hz3⟩ := hs'
  have hst := allP_step (p := fun j => (l.getD j pf0).nul = false) hz1 hz3
  have hmem : z < n → l.getD z.toNat pf0 ∈ l := fun hz => pf_mem (by omega)
  have hL : z < n → List.take 7 (List.drop (A.idx 0 z 7) c) = (l.getD z.toNat pf0).cells := fun hz => by rw [hA, s_idx, Nat.zero_add, hl.2.2 z.toNat (by omega)]
  obtain ⟨p, hp⟩ : ∃ p, p = l.getD z.toNat pf0 := ⟨_, rfl⟩
  rw [← hp] at hst hmem hL
  obtain ⟨nm, nul, g⟩ := p
  simp only [PF.cells, tyC] at hL hst
  generalize cellsFs g.kids = kc, g.kids.length = kn, g.kind = k, g.width = w, g.id = i, g.idx = x at hL
  cases nul
  ·
    with_reducible refine runS hA hd hQ 200 ?hk ?_
    case hk => exact trivial
    conv => arg 9; cbv
    try simp only [OK]
    repeat' first | (with_reducible refine OKK.loop ?_) | (with_reducible refine OKK.again ?_) | ((with_reducible refine ⟨fun hbr => ?_, fun hbr => ?_⟩) <;> (try simp (disch := omega) only [hA, OK, emaU, Int.reduceToNat, s_bat, reduceCtorEq] at hbr) <;> (try (with_reducible exfalso; omega))) | ((with_reducible refine runK hA hd hQ 200 ?hk ?_); (case hk => exact trivial); (conv => arg 9; cbv); (try simp only [OK])) | ((with_reducible refine need_of ?hn ?_); (case hn => ((simp (disch := omega) only [hA, OK, emaU, Int.reduceToNat, s_bat]) <;> omega))) | ((refine ⟨_, _, ?l1, (hL (by omega)), rfl, ?_⟩); (case l1 => exact rfl)) | fail
    · refine OKs.mask (msk 14 [5, 6, 7]) (OKs.mv [] [] (by rw [hρ]; rfl) ⟨by decide, by simp [sizeH], by simp⟩ (ih _ _ ⟨_, rfl, rfl, ?_, ?_, ?_⟩ ?_))
      all_goals simp (disch := omega) only [hA, OK, emaU, Int.reduceToNat, s_bat]
      all_goals first
        | omega
        | exact hst rfl
    ·
      all_goals (try (with_reducible refine FinR.self ?_; first | refine FinR.bl rfl ?_ | refine FinR.bs rfl ?_ | refine FinR.blh rfl ?_ rfl | refine FinR.bsh rfl ?_ rfl))
      all_goals (try simp (disch := omega) only [hA, OK, emaU, Int.reduceToNat, s_bat, Bool.false_eq_true, true_iff, false_iff, eq_self, iff_true, iff_false])
      rintro ⟨q, hq, hqn⟩
      have := pf_all (q := fun p => p.nul = false) (fun j hj => hz3 j (by omega)) q hq
      rw [this] at hqn
      cases hqn
  ·
    with_reducible refine runS hA hd hQ 200 ?hk ?_
    case hk => exact trivial
    conv => arg 9; cbv
    try simp only [OK]
    repeat' first | (with_reducible refine OKK.loop ?_) | (with_reducible refine OKK.again ?_) | ((with_reducible refine ⟨fun hbr => ?_, fun hbr => ?_⟩) <;> (try simp (disch := omega) only [hA, OK, emaU, Int.reduceToNat, s_bat, reduceCtorEq] at hbr) <;> (try (with_reducible exfalso; omega))) | ((with_reducible refine runK hA hd hQ 200 ?hk ?_); (case hk => exact trivial); (conv => arg 9; cbv); (try simp only [OK])) | ((with_reducible refine need_of ?hn ?_); (case hn => ((simp (disch := omega) only [hA, OK, emaU, Int.reduceToNat, s_bat]) <;> omega))) | ((refine ⟨_, _, ?l1, (hL (by omega)), rfl, ?_⟩); (case l1 => exact rfl)) | fail
    ·
      all_goals (try (with_reducible refine FinR.self ?_; first | refine FinR.bl rfl ?_ | refine FinR.bs rfl ?_ | refine FinR.blh rfl ?_ rfl | refine FinR.bsh rfl ?_ rfl))
      all_goals (try simp (disch := omega) only [hA, OK, emaU, Int.reduceToNat, s_bat, Bool.false_eq_true, true_iff, false_iff, eq_self, iff_true, iff_false])
      exact ⟨_, hmem hbr, rfl⟩
    ·
      all_goals (try (with_reducible refine FinR.self ?_; first | refine FinR.bl rfl ?_ | refine FinR.bs rfl ?_ | refine FinR.blh rfl ?_ rfl | refine FinR.bsh rfl ?_ rfl))
      all_goals (try simp (disch := omega) only [hA, OK, emaU, Int.reduceToNat, s_bat, Bool.false_eq_true, true_iff, false_iff, eq_self, iff_true, iff_false])
      rintro ⟨q, hq, hqn⟩
      have := pf_all (q := fun p => p.nul = false) (fun j hj => hz3 j (by omega)) q hq
      rw [this] at hqn
      cases hqn
set_option maxHeartbeats 4000000 in
theorem bothLet_ok (l : List PF) (n : Nat) (c : List EV) (hl : LP l n c) (h2 : n = 2) (h : EH) :
    Tri Tryz.prog gs 38 [.isl n none c] h fun v h' => IsP ((l.getD 0 pf0).nul = true ∧ (l.getD 1 pf0).nul = true) v ∧ h' = h := by
  refine Tri.boolC rfl (Tri_of F38_ok fun I0 ρ0 w0 Q hρ hQ => ?_) h
  obtain ⟨A, hA⟩ : ∃ A, A = stdA := ⟨_, rfl⟩
  have h0 : List.take 1 (List.drop (A.add (A.idx 0 0 7) 1) c) = [.lit (.bool (l.getD 0 pf0).nul)] := by rw [hA]; exact hl.part (i := 0) (o := 1) (by omega) (by omega)
  have h1 : List.take 1 (List.drop (A.add (A.idx 0 1 7) 1) c) = [.lit (.bool (l.getD 1 pf0).nul)] := by rw [hA]; exact hl.part (i := 1) (o := 1) (by omega) (by omega)
  generalize (l.getD 0 pf0).nul = a at *
  generalize (l.getD 1 pf0).nul = b at *
  cases a <;> cases b
  all_goals
    with_reducible refine runS hA hd hQ 200 ?hk ?_
    case hk => exact trivial
    conv => arg 9; cbv
    try simp only [OK]
    repeat' first | ((with_reducible refine ⟨fun hbr => ?_, fun hbr => ?_⟩) <;> (try simp (disch := omega) only [hA, OK, emaU, Int.reduceToNat, s_bat, reduceCtorEq] at hbr) <;> (try (with_reducible exfalso; omega))) | ((with_reducible refine runK hA hd hQ 200 ?hk ?_); (case hk => exact trivial); (conv => arg 9; cbv); (try simp only [OK])) | ((with_reducible refine need_of ?hn ?_); (case hn => ((simp (disch := omega) only [hA, OK, emaU, Int.reduceToNat, s_bat]) <;> omega))) | ((refine ⟨_, _, ?l1, h0, rfl, ?_⟩); (case l1 => exact rfl)) | ((refine ⟨_, _, ?l1, h1, rfl, ?_⟩); (case l1 => exact rfl)) | fail
    all_goals (try (with_reducible refine FinR.self ?_; first | refine FinR.bl rfl ?_ | refine FinR.bs rfl ?_ | refine FinR.blh rfl ?_ rfl | refine FinR.bsh rfl ?_ rfl))
    all_goals (try simp (disch := omega) only [hA, OK, emaU, Int.reduceToNat, s_bat, Bool.false_eq_true, true_iff, false_iff, eq_self, iff_true, iff_false])
  all_goals simp
set_option maxHeartbeats 4000000 in
theorem branchLets_ok (l : List PF) (n : Nat) (c : List EV) (hl : LP l n c) (h2 : 0 < n) (h : EH) :
    Tri Tryz.prog gs 41 [.isl n none c] h fun v h' => IsP (∃ p ∈ l.drop 1, p.nul = true) v ∧ h' = h := by
  refine Tri.boolC rfl (Tri_of F41_ok fun I0 ρ0 w0 Q hρ hQ => ?_) h
  obtain ⟨A, hA⟩ : ∃ A, A = stdA := ⟨_, rfl⟩
  have hn := hl.1
  have hll := hl.2.1
  have hc : ∀ h : EH, Tri Tryz.prog gs 24 [.isl (A.sub (A.tn (A.ofn n)) (A.tn 1)) none (A.drp (A.mul (A.tn 1) 7) c)] h fun v h' => IsP (∃ p ∈ l.drop 1, p.nul = true) v ∧ h' = h := by
    rw [hA]; exact oneLets_ok _ _ _ (hl.tail h2)
  generalize (∃ p ∈ l.drop 1, p.nul = true) = P at *
  with_reducible refine runS hA hd hQ 200 ?hk ?_
  case hk => exact trivial
  conv => arg 9; cbv
  try simp only [OK]
  repeat' first | ((with_reducible refine ⟨fun hbr => ?_, fun hbr => ?_⟩) <;> (try simp (disch := omega) only [hA, OK, emaU, Int.reduceToNat, s_bat, reduceCtorEq] at hbr) <;> (try (with_reducible exfalso; omega))) | ((with_reducible refine runK hA hd hQ 200 ?hk ?_); (case hk => exact trivial); (conv => arg 9; cbv); (try simp only [OK])) | ((with_reducible refine need_of ?hn ?_); (case hn => ((simp (disch := omega) only [hA, OK, emaU, Int.reduceToNat, s_bat]) <;> omega))) | (refine CallOK.of (goodF_of F24_ok) (Tri.mono (hc _) fun v hh hx => ?_); (obtain ⟨⟨b, hv, hb⟩, he⟩ := hx; subst hv; subst he; cases b <;> simp (disch := omega) only [hA, OK, emaU, Int.reduceToNat, s_bat, Bool.false_eq_true, true_iff, false_iff, eq_self, reduceCtorEq] at hb) <;> (try (with_reducible exfalso; omega))) | fail
  all_goals (try (with_reducible refine FinR.self ?_; first | refine FinR.bl rfl ?_ | refine FinR.bs rfl ?_ | refine FinR.blh rfl ?_ rfl | refine FinR.bsh rfl ?_ rfl))
  all_goals (try simp (disch := omega) only [hA, OK, emaU, Int.reduceToNat, s_bat, Bool.false_eq_true, true_iff, false_iff, eq_self, iff_true, iff_false])
  all_goals simp_all
-- emaX: s_bat
set_option maxHeartbeats 4000000 in
theorem measured_ok (l : List PF) (n : Nat) (c : List EV) (hl : LP l n c) (h2 : 0 < n) (h : EH) :
    Tri Tryz.prog gs 45 [.isl n none c] h fun v h' => IsT (12 ≤ (l.getD 0 pf0).g.kind ∧ (l.getD 0 pf0).g.kind ≤ 16) (zt 6) v ∧ h' = h := by
  refine Tri.typC rfl (Tri_of F45_ok fun I0 ρ0 w0 Q hρ hQ => ?_) h
  obtain ⟨A, hA⟩ : ∃ A, A = stdA := ⟨_, rfl⟩
  have h0 : List.take 1 (List.drop (A.add (A.add (A.idx 0 0 7) 2) 0) c) = [.lit (.int .i64 (l.getD 0 pf0).g.kind)] := by rw [hA]; exact hl.part (i := 0) (o := 2) (by omega) (by omega)
  generalize (l.getD 0 pf0).g.kind = k at *
  with_reducible refine runS hA hd hQ 200 ?hk ?_
  case hk => exact trivial
  conv => arg 9; cbv
  try simp only [OK]
  repeat' first | ((with_reducible refine ⟨fun hbr => ?_, fun hbr => ?_⟩) <;> (try simp (disch := omega) only [hA, OK, emaU, Int.reduceToNat, s_bat, reduceCtorEq] at hbr) <;> (try (with_reducible exfalso; omega))) | ((with_reducible refine runK hA hd hQ 200 ?hk ?_); (case hk => exact trivial); (conv => arg 9; cbv); (try simp only [OK])) | ((with_reducible refine need_of ?hn ?_); (case hn => ((simp (disch := omega) only [hA, OK, emaU, Int.reduceToNat, s_bat]) <;> omega))) | ((refine ⟨_, _, ?l1, h0, rfl, ?_⟩); (case l1 => exact rfl)) | fail
  all_goals refine FinR.ty rfl (by first | exact Up.refl _ | exact Up.nil []) (by first | exact Up.refl _ | exact Up.sb _) ?_ ?_
  all_goals first
    | exact fun _ => rfl
    | exact iff_of_true rfl trivial
    | exact iff_of_true rfl (by omega)
    | exact iff_of_false (by simp) (by omega)
    | exact fun h => absurd h (by omega)
    | (simp (disch := omega) only [hA, OK, emaU, Int.reduceToNat, s_bat]; omega)
theorem anything_ok (n : Nat) (c : List EV) (h : EH) :
    Tri Tryz.prog gs 34 [.isl n none c] h fun v h' => IsT True (zt 2) v ∧ h' = h := by
  refine Tri.typC rfl (Tri_of F34_ok fun I0 ρ0 w0 Q hρ hQ => ?_) h
  obtain ⟨A, hA⟩ : ∃ A, A = stdA := ⟨_, rfl⟩
  with_reducible refine runS hA hd hQ 200 ?hk ?_
  case hk => exact trivial
  conv => arg 9; cbv
  try simp only [OK]
  repeat' first | ((with_reducible refine ⟨fun hbr => ?_, fun hbr => ?_⟩) <;> (try simp (disch := omega) only [hA, OK, emaU, Int.reduceToNat, s_bat, reduceCtorEq] at hbr) <;> (try (with_reducible exfalso; omega))) | ((with_reducible refine runK hA hd hQ 200 ?hk ?_); (case hk => exact trivial); (conv => arg 9; cbv); (try simp only [OK])) | ((with_reducible refine need_of ?hn ?_); (case hn => ((simp (disch := omega) only [hA, OK, emaU, Int.reduceToNat, s_bat]) <;> omega))) | fail
  all_goals refine FinR.ty rfl (by first | exact Up.refl _ | exact Up.nil []) (by first | exact Up.refl _ | exact Up.sb _) ?_ ?_
  all_goals first
    | exact fun _ => rfl
    | exact iff_of_true rfl trivial
    | exact iff_of_true rfl (by omega)
    | exact iff_of_false (by simp) (by omega)
    | exact fun h => absurd h (by omega)
    | (simp (disch := omega) only [hA, OK, emaU, Int.reduceToNat, s_bat]; omega)
set_option maxHeartbeats 4000000 in
theorem texts_ok (l : List PF) (n : Nat) (c : List EV) (hl : LP l n c) (h2 : n = 2) (h : EH) :
    Tri Tryz.prog gs 43 [.isl n none c] h fun v h' => IsT (((l.getD 0 pf0).g.kind = 12 ∨ (l.getD 0 pf0).g.kind = 13) ∧ (l.getD 1 pf0).g.kind = (l.getD 0 pf0).g.kind) (zt (l.getD 0 pf0).g.kind) v ∧ h' = h := by
  refine Tri.typC rfl (Tri_of F43_ok fun I0 ρ0 w0 Q hρ hQ => ?_) h
  obtain ⟨A, hA⟩ : ∃ A, A = stdA := ⟨_, rfl⟩
  have h0 : List.take 1 (List.drop (A.add (A.add (A.idx 0 0 7) 2) 0) c) = [.lit (.int .i64 (l.getD 0 pf0).g.kind)] := by rw [hA]; exact hl.part (i := 0) (o := 2) (by omega) (by omega)
  have h1 : List.take 1 (List.drop (A.add (A.add (A.idx 0 1 7) 2) 0) c) = [.lit (.int .i64 (l.getD 1 pf0).g.kind)] := by rw [hA]; exact hl.part (i := 1) (o := 2) (by omega) (by omega)
  generalize (l.getD 0 pf0).g.kind = k, (l.getD 1 pf0).g.kind = k1 at *
  with_reducible refine runS hA hd hQ 200 ?hk ?_
  case hk => exact trivial
  conv => arg 9; cbv
  try simp only [OK]
  repeat' first | (with_reducible refine And.intro trivial ?_) | ((with_reducible refine ⟨fun hbr => ?_, fun hbr => ?_⟩) <;> (try simp (disch := omega) only [hA, OK, emaU, Int.reduceToNat, s_bat, reduceCtorEq] at hbr) <;> (try (with_reducible exfalso; omega))) | ((with_reducible refine runK hA hd hQ 200 ?hk ?_); (case hk => exact trivial); (conv => arg 9; cbv); (try simp only [OK])) | ((with_reducible refine need_of ?hn ?_); (case hn => ((simp (disch := omega) only [hA, OK, emaU, Int.reduceToNat, s_bat]) <;> omega))) | ((refine ⟨_, _, ?l1, h0, rfl, ?_⟩); (case l1 => exact rfl)) | ((refine ⟨_, _, ?l1, h1, rfl, ?_⟩); (case l1 => exact rfl)) | (refine CallOK.of (goodF_of F69_ok) (Tri.mono (isTextC_ok k _) fun v hh hx => ?_); (obtain ⟨⟨b, hv, hb⟩, he⟩ := hx; subst hv; subst he; cases b <;> simp (disch := omega) only [hA, OK, emaU, Int.reduceToNat, s_bat, Bool.false_eq_true, true_iff, false_iff, eq_self, reduceCtorEq] at hb) <;> (try (with_reducible exfalso; omega))) | fail
  all_goals refine FinR.ty rfl (by first | exact Up.refl _ | exact Up.nil []) (by first | exact Up.refl _ | exact Up.sb _) ?_ ?_
  all_goals first
    | exact fun _ => rfl
    | exact iff_of_true rfl trivial
    | exact iff_of_true rfl (by omega)
    | exact iff_of_false (by simp) (by omega)
    | exact fun h => absurd h (by omega)
    | (simp (disch := omega) only [hA, OK, emaU, Int.reduceToNat, s_bat]; omega)
set_option maxHeartbeats 4000000 in
theorem tested_ok (l : List PF) (n : Nat) (c : List EV) (hl : LP l n c) (h2 : n = 2) (h : EH) :
    Tri Tryz.prog gs 47 [.isl n none c] h fun v h' => IsT (((l.getD 0 pf0).g.kind = 12 ∨ (l.getD 0 pf0).g.kind = 13) ∧ (l.getD 1 pf0).g.kind = (l.getD 0 pf0).g.kind) (zt 2) v ∧ h' = h := by
  refine Tri.typC rfl (Tri_of F47_ok fun I0 ρ0 w0 Q hρ hQ => ?_) h
  obtain ⟨A, hA⟩ : ∃ A, A = stdA := ⟨_, rfl⟩
  have hc := texts_ok l n c hl h2
  generalize (l.getD 0 pf0).g.kind = k, (l.getD 1 pf0).g.kind = k1 at *
  with_reducible refine runS hA hd hQ 200 ?hk ?_
  case hk => exact trivial
  conv => arg 9; cbv
  try simp only [OK]
  repeat' first | ((with_reducible refine ⟨fun hbr => ?_, fun hbr => ?_⟩) <;> (try simp (disch := omega) only [hA, OK, emaU, Int.reduceToNat, s_bat, reduceCtorEq] at hbr) <;> (try (with_reducible exfalso; omega))) | ((with_reducible refine runK hA hd hQ 200 ?hk ?_); (case hk => exact trivial); (conv => arg 9; cbv); (try simp only [OK])) | ((with_reducible refine need_of ?hn ?_); (case hn => ((simp (disch := omega) only [hA, OK, emaU, Int.reduceToNat, s_bat]) <;> omega))) | fail
  refine CallOK.of (goodF_of F43_ok) (Tri.mono (hc _) fun v hh hx => ?_)
  obtain ⟨⟨b, tk, tw, ti, tx, tn, tc, hv, hb, ht⟩, hh'⟩ := hx
  subst hv; subst hh'
  with_reducible refine runK hA hd hQ 1 ?hk ?_
  case hk => exact trivial
  conv => arg 9; cbv
  try simp only [OK]
  repeat' first | ((with_reducible refine ⟨fun hbr => ?_, fun hbr => ?_⟩) <;> (try simp (disch := omega) only [hA, OK, emaU, Int.reduceToNat, s_bat, reduceCtorEq] at hbr) <;> (try (with_reducible exfalso; omega))) | ((with_reducible refine runK hA hd hQ 200 ?hk ?_); (case hk => exact trivial); (conv => arg 9; cbv); (try simp only [OK])) | ((with_reducible refine need_of ?hn ?_); (case hn => ((simp (disch := omega) only [hA, OK, emaU, Int.reduceToNat, s_bat]) <;> omega))) | fail
  all_goals refine FinR.ty rfl (by first | exact Up.refl _ | exact Up.nil []) (by first | exact Up.refl _ | exact Up.sb _) hb ?_
  exact fun _ => rfl
set_option maxHeartbeats 4000000 in
theorem bools_ok (l : List PF) (n : Nat) (c : List EV) (hl : LP l n c) (h : EH) :
    Tri Tryz.prog gs 31 [.isl n none c] h fun v h' => IsT (∀ p ∈ l, p.g.kind = 2) (zt 2) v ∧ h' = h := by
  refine Tri.typC rfl (Tri_of F31_ok fun I0 ρ0 w0 Q hρ hQ => ?_) h
  obtain ⟨A, hA⟩ : ∃ A, A = stdA := ⟨_, rfl⟩
  have hn := hl.1
  have hll := hl.2.1
  with_reducible refine runS hA hd hQ 200 ?hk ?_
  case hk => exact trivial
  conv => arg 9; cbv
  try simp only [OK]
  repeat' first | (with_reducible refine OKK.loop ?_) | (with_reducible refine OKK.again ?_) | ((with_reducible refine ⟨fun hbr => ?_, fun hbr => ?_⟩) <;> (try simp (disch := omega) only [hA, OK, emaU, Int.reduceToNat, s_bat, reduceCtorEq] at hbr) <;> (try (with_reducible exfalso; omega))) | ((with_reducible refine runK hA hd hQ 200 ?hk ?_); (case hk => exact trivial); (conv => arg 9; cbv); (try simp only [OK])) | ((with_reducible refine need_of ?hn ?_); (case hn => ((simp (disch := omega) only [hA, OK, emaU, Int.reduceToNat, s_bat]) <;> omega))) | fail
  refine OKs.mask (msk 19 [2, 6, 7, 8]) ?_
  refine OKs.loopN (fun m st => ∃ z : Int, st = ⟨mkT 19 [(2, .ptr 0 0), (6, .isl n none c), (7, .lit (.int .i64 (A.ofn n))), (8, .lit (.int .i64 z))], [.blk [.lit (.int .i64 0), .lit (.int .i64 0), .lit (.int .i64 0), .lit (.int .i64 0), .lit (.slice none 0 0)]]⟩ ∧ m = (n - z).toNat ∧ 0 ≤ z ∧ z ≤ n ∧ ∀ j, j < z.toNat → (l.getD j pf0).g.kind = 2) (fun m st hs' ih => ?_) ⟨0, rfl, rfl, by omega, by omega, fun j hj => absurd hj (by simp)⟩
  obtain ⟨z, rfl, hm, hz1, hz2, hz3⟩ := hs'
  have hst := allP_step (p := fun j => (l.getD j pf0).g.kind = 2) hz1 hz3
  have hmem : z < n → l.getD z.toNat pf0 ∈ l := fun hz => pf_mem (by omega)
  have hL : z < n → List.take 7 (List.drop (A.idx 0 z 7) c) = (l.getD z.toNat pf0).cells := fun hz => by rw [hA, s_idx, Nat.zero_add, hl.2.2 z.toNat (by omega)]
  have hbad : z < n → ¬ (l.getD z.toNat pf0).g.kind = 2 → ¬ ∀ p ∈ l, p.g.kind = 2 := fun hz h1 h2 => h1 (h2 _ (hmem hz))
  have hgood : z = n → ∀ p ∈ l, p.g.kind = 2 := fun hz => pf_all (q := fun p => p.g.kind = 2) (fun j hj => hz3 j (by omega))
  generalize (∀ p ∈ l, p.g.kind = 2) = P at *
  obtain ⟨p, hp⟩ : ∃ p, p = l.getD z.toNat pf0 := ⟨_, rfl⟩
  rw [← hp] at hst hbad hL
  obtain ⟨nm, nul, g⟩ := p
  simp only [PF.cells, tyC] at hL hst hbad
  generalize cellsFs g.kids = kc, g.kids.length = kn, g.kind = k, g.width = w, g.id = i, g.idx = x at hL hst hbad
  with_reducible refine runS hA hd hQ 200 ?hk ?_
  case hk => exact trivial
  conv => arg 9; cbv
  try simp only [OK]
  repeat' first | (with_reducible refine OKK.loop ?_) | (with_reducible refine OKK.again ?_) | ((with_reducible refine ⟨fun hbr => ?_, fun hbr => ?_⟩) <;> (try simp (disch := omega) only [hA, OK, emaU, Int.reduceToNat, s_bat, reduceCtorEq] at hbr) <;> (try (with_reducible exfalso; omega))) | ((with_reducible refine runK hA hd hQ 200 ?hk ?_); (case hk => exact trivial); (conv => arg 9; cbv); (try simp only [OK])) | ((with_reducible refine need_of ?hn ?_); (case hn => ((simp (disch := omega) only [hA, OK, emaU, Int.reduceToNat, s_bat]) <;> omega))) | ((refine ⟨_, _, ?l1, (hL (by omega)), rfl, ?_⟩); (case l1 => exact rfl)) | fail
  all_goals try (refine FinR.ty rfl (by first | exact Up.refl _ | exact Up.nil []) (by first | exact Up.refl _ | exact Up.sb _) ?_ ?_)
  all_goals first
    | exact fun _ => rfl
    | exact iff_of_false (by simp) (hbad (by omega) (by omega))
    | exact fun h => absurd h (hbad (by omega) (by omega))
    | exact iff_of_true rfl (hgood (by omega))
    | skip
  refine OKs.mask (msk 19 [2, 6, 7, 8]) (OKs.mv [0] [] (by rw [hρ]; rfl) ⟨by decide, by simp [sizeH], by simp⟩ (ih _ _ ⟨_, rfl, rfl, ?_, ?_, ?_⟩ ?_))
  all_goals simp (disch := omega) only [hA, OK, emaU, Int.reduceToNat, s_bat]
  all_goals first
    | omega
    | exact hst (by omega)
set_option maxHeartbeats 4000000 in
theorem numbers_ok (l : List PF) (n : Nat) (c : List EV) (hl : LP l n c) (h0 : 0 < n) (h : EH) :
    Tri Tryz.prog gs 23 [.isl n none c] h fun v h' => IsT ((∀ p ∈ l, p.g.kind = (l.getD 0 pf0).g.kind) ∧ 3 ≤ (l.getD 0 pf0).g.kind ∧ (l.getD 0 pf0).g.kind ≤ 11) (zt (l.getD 0 pf0).g.kind) v ∧ h' = h := by
  refine Tri.typC rfl (Tri_of F23_ok fun I0 ρ0 w0 Q hρ hQ => ?_) h
  obtain ⟨A, hA⟩ : ∃ A, A = stdA := ⟨_, rfl⟩
  have hn := hl.1
  have hll := hl.2.1
  have hk0 : List.take 1 (List.drop (A.add (A.add (A.idx 0 0 7) 2) 0) c) = [.lit (.int .i64 (l.getD 0 pf0).g.kind)] := by rw [hA]; exact hl.part (i := 0) (o := 2) (by omega) (by omega)
  generalize (l.getD 0 pf0).g.kind = k0 at *
  with_reducible refine runS hA hd hQ 200 ?hk ?_
  case hk => exact trivial
  conv => arg 9; cbv
  try simp only [OK]
  repeat' first | (with_reducible refine OKK.loop ?_) | (with_reducible refine OKK.again ?_) | ((with_reducible refine ⟨fun hbr => ?_, fun hbr => ?_⟩) <;> (try simp (disch := omega) only [hA, OK, emaU, Int.reduceToNat, s_bat, reduceCtorEq] at hbr) <;> (try (with_reducible exfalso; omega))) | ((with_reducible refine runK hA hd hQ 200 ?hk ?_); (case hk => exact trivial); (conv => arg 9; cbv); (try simp only [OK])) | ((with_reducible refine need_of ?hn ?_); (case hn => ((simp (disch := omega) only [hA, OK, emaU, Int.reduceToNat, s_bat]) <;> omega))) | ((refine ⟨_, _, ?l1, hk0, rfl, ?_⟩); (case l1 => exact rfl)) | fail
  refine OKs.mask (msk 33 [2, 4, 12, 13, 14]) ?_
  refine OKs.loopN (fun m st => ∃ z : Int, st = ⟨mkT 33 [(2, .ptr 0 0), (4, .lit (.int .i64 k0)), (12, .isl n none c), (13, .lit (.int .i64 (A.ofn n))), (14, .lit (.int .i64 z))], [.blk [.lit (.int .i64 0), .lit (.int .i64 0), .lit (.int .i64 0), .lit (.int .i64 0), .lit (.slice none 0 0)]]⟩ ∧ m = (n - z).toNat ∧ 0 ≤ z ∧ z ≤ n ∧ ∀ j, j < z.toNat → (l.getD j pf0).g.kind = k0) (fun m st hs' ih => ?_) ⟨0, rfl, rfl, by omega, by omega, fun j hj => absurd hj (by simp)⟩
  obtain ⟨z, rfl, hm, hz1, hz2, hz3⟩ := hs'
  have hst := allP_step (p := fun j => (l.getD j pf0).g.kind = k0) hz1 hz3
  have hmem : z < n → l.getD z.toNat pf0 ∈ l := fun hz => pf_mem (by omega)
  have hL : z < n → List.take 7 (List.drop (A.idx 0 z 7) c) = (l.getD z.toNat pf0).cells := fun hz => by rw [hA, s_idx, Nat.zero_add, hl.2.2 z.toNat (by omega)]
  have hbad : z < n → ¬ (l.getD z.toNat pf0).g.kind = k0 → ¬ ∀ p ∈ l, p.g.kind = k0 := fun hz h1 h2 => h1 (h2 _ (hmem hz))
  have hgood : z = n → ∀ p ∈ l, p.g.kind = k0 := fun hz => pf_all (q := fun p => p.g.kind = k0) (fun j hj => hz3 j (by omega))
  generalize (∀ p ∈ l, p.g.kind = k0) = P at *
  obtain ⟨p, hp⟩ : ∃ p, p = l.getD z.toNat pf0 := ⟨_, rfl⟩
  rw [← hp] at hst hbad hL
  obtain ⟨nm, nul, g⟩ := p
  simp only [PF.cells, tyC] at hL hst hbad
  generalize cellsFs g.kids = kc, g.kids.length = kn, g.kind = k, g.width = w, g.id = i, g.idx = x at hL hst hbad
  with_reducible refine runS hA hd hQ 200 ?hk ?_
  case hk => exact trivial
  conv => arg 9; cbv
  try simp only [OK]
  repeat' first | (with_reducible refine OKK.loop ?_) | (with_reducible refine OKK.again ?_) | ((with_reducible refine ⟨fun hbr => ?_, fun hbr => ?_⟩) <;> (try simp (disch := omega) only [hA, OK, emaU, Int.reduceToNat, s_bat, reduceCtorEq] at hbr) <;> (try (with_reducible exfalso; omega))) | ((with_reducible refine runK hA hd hQ 200 ?hk ?_); (case hk => exact trivial); (conv => arg 9; cbv); (try simp only [OK])) | ((with_reducible refine need_of ?hn ?_); (case hn => ((simp (disch := omega) only [hA, OK, emaU, Int.reduceToNat, s_bat]) <;> omega))) | ((refine ⟨_, _, ?l1, (hL (by omega)), rfl, ?_⟩); (case l1 => exact rfl)) | (refine CallOK.of (goodF_of F59_ok) (Tri.mono (isWhole_ok k0 _) fun v hh hx => ?_); (obtain ⟨⟨b, hv, hb⟩, he⟩ := hx; subst hv; subst he; cases b <;> simp (disch := omega) only [hA, OK, emaU, Int.reduceToNat, s_bat, Bool.false_eq_true, true_iff, false_iff, eq_self, reduceCtorEq] at hb) <;> (try (with_reducible exfalso; omega))) | fail
  all_goals try (refine FinR.ty rfl (by first | exact Up.refl _ | exact Up.nil []) (by first | exact Up.refl _ | exact Up.sb _) ?_ ?_)
  all_goals first
    | exact fun _ => rfl
    | exact iff_of_false (by simp) fun h => hbad (by omega) (by omega) h.1
    | exact fun h => absurd h.1 (hbad (by omega) (by omega))
    | exact iff_of_true rfl ⟨hgood (by omega), by omega, by omega⟩
    | exact iff_of_false (by simp) fun h => by omega
    | skip
  refine OKs.mask (msk 33 [2, 4, 12, 13, 14]) (OKs.mv [0] [] (by rw [hρ]; rfl) ⟨by decide, by simp [sizeH], by simp⟩ (ih _ _ ⟨_, rfl, rfl, ?_, ?_, ?_⟩ ?_))
  all_goals simp (disch := omega) only [hA, OK, emaU, Int.reduceToNat, s_bat]
  all_goals first
    | omega
    | exact hst (by omega)
    | exact ⟨fun h => ⟨hgood (by omega), by omega, by omega⟩, fun h => by have := h.2; omega⟩
def sameF (x y : Fld) : Prop := x.nm = y.nm ∧ x.nul = y.nul ∧ sameT x y
theorem sameTs_iff : ∀ {l m : List Fld}, sameTs l m ↔ l.length = m.length ∧ ∀ j, j < l.length → sameF (l.getD j fld0) (m.getD j fld0)
  | [], [] => by simp [sameTs]
  | [], q :: m => by simp [sameTs]
  | p :: l, [] => by simp [sameTs]
  | p :: l, q :: m => by
    rw [sameTs, sameTs_iff]
    constructor
    · rintro ⟨a1, a2, a3, h2, h3⟩
      refine ⟨by simp [h2], fun j hj => ?_⟩
      cases j with
      | zero => exact ⟨a1, a2, a3⟩
      | succ j => exact h3 j (by simpa using hj)
    · rintro ⟨h1, h2⟩
      have h0 := h2 0 (by simp)
      exact ⟨h0.1, h0.2.1, h0.2.2, by simpa using h1, fun j hj => h2 (j + 1) (by simpa using hj)⟩
theorem sizeFs {l : List Fld} {x : Fld} (h : x ∈ l) : SizeOf.sizeOf x < SizeOf.sizeOf l := List.sizeOf_lt_of_mem h
theorem sizeF_kids (f : Fld) : SizeOf.sizeOf f.kids < SizeOf.sizeOf f := by
  obtain ⟨a1, a2, a3, a4, a5, a6, a7⟩ := f
  show SizeOf.sizeOf a7 < _
  simp
  omega
theorem okFs_mem : ∀ {l : List Fld} {x : Fld}, okFs l → x ∈ l → okF x
  | [], x, _, h => by cases h
  | f :: l, x, h, hx => by
    rcases List.mem_cons.1 hx with rfl | hx
    · exact h.1
    · exact okFs_mem h.2 hx
theorem ok_kids {f : Fld} (h : okF f) : okFs f.kids ∧ f.kids.length ≤ 140737488351232 := by
  obtain ⟨a1, a2, a3, a4, a5, a6, a7⟩ := f; exact ⟨h.2.2.2.2.2.2, h.2.2.2.2.2.1⟩
theorem mem_getD {l : List Fld} {j : Nat} (h : j < l.length) : l.getD j fld0 ∈ l := by
  rw [List.getD_eq_getElem?_getD, List.getElem?_eq_getElem h]; exact List.getElem_mem _
-- emaX: s_bat, s_eqlB, s_neqB
set_option maxHeartbeats 4000000 in
theorem eqFunc_ok (l m : List Fld) (hll : l.length ≤ 140737488351232) (hml : m.length ≤ 140737488351232)
    (ihc : ∀ x ∈ l, ∀ y ∈ m, ∀ h : EH, Tri Tryz.prog gs 134 [.agg (cellsF x), .agg (cellsF y)] h fun v h' => IsP (sameF x y) v ∧ h' = h) (h : EH) :
    Tri Tryz.prog gs 133 [.isl l.length none (cellsFs l), .isl m.length none (cellsFs m), .fn (.func 134) [] []] h fun v h' => IsP (sameTs l m) v ∧ h' = h := by
  rw [sameTs_iff]
  have hgl := fs_get l
  have hgm := fs_get m
  obtain ⟨ln, hln⟩ : ∃ n, n = l.length := ⟨_, rfl⟩
  obtain ⟨lc, hlc⟩ : ∃ n, n = cellsFs l := ⟨_, rfl⟩
  obtain ⟨mn, hmn⟩ : ∃ n, n = m.length := ⟨_, rfl⟩
  obtain ⟨mc, hmc⟩ : ∃ n, n = cellsFs m := ⟨_, rfl⟩
  rw [← hln, ← hlc, ← hmn, ← hmc]
  refine Tri.boolC rfl (Tri_of F133_ok fun I0 ρ0 w0 Q hρ hQ => ?_) h
  obtain ⟨A, hA⟩ : ∃ A, A = stdA := ⟨_, rfl⟩
  with_reducible refine runS hA hd hQ 200 ?hk ?_
  case hk => exact trivial
  conv => arg 9; cbv
  try simp only [OK]
  repeat' first | (with_reducible refine OKK.loop ?_) | (with_reducible refine OKK.again ?_) | ((with_reducible refine ⟨fun hbr => ?_, fun hbr => ?_⟩) <;> (try simp (disch := omega) only [hA, OK, emaU, Int.reduceToNat, s_bat, s_eqlB, s_neqB, reduceCtorEq] at hbr) <;> (try (with_reducible exfalso; omega))) | ((with_reducible refine runK hA hd hQ 200 ?hk ?_); (case hk => exact trivial); (conv => arg 9; cbv); (try simp only [OK])) | ((with_reducible refine need_of ?hn ?_); (case hn => ((simp (disch := omega) only [hA, OK, emaU, Int.reduceToNat, s_bat, s_eqlB, s_neqB]) <;> omega))) | fail
  ·
    all_goals (try (with_reducible refine FinR.self ?_; first | refine FinR.bl rfl ?_ | refine FinR.bs rfl ?_ | refine FinR.blh rfl ?_ rfl | refine FinR.bsh rfl ?_ rfl))
    all_goals (try simp (disch := omega) only [hA, OK, emaU, Int.reduceToNat, s_bat, s_eqlB, s_neqB, Bool.false_eq_true, true_iff, false_iff, eq_self, iff_true, iff_false])
    exact fun h => absurd h.1 (by omega)
  refine OKs.mask (msk 32 [1, 2, 15, 16, 17]) ?_
  refine OKs.loopN (fun n st => ∃ z : Int, st = ⟨mkT 32 [(1, .isl mn none mc), (2, .fn (.func 134) [] []), (15, .isl ln none lc), (16, .lit (.int .i64 (A.ofn ln))), (17, .lit (.int .i64 z))], []⟩ ∧ n = (ln - z).toNat ∧ 0 ≤ z ∧ z ≤ ln ∧ ∀ j, j < z.toNat → sameF (l.getD j fld0) (m.getD j fld0)) (fun n st hs' ih => ?_) ⟨0, rfl, rfl, by omega, by omega, fun j hj => absurd hj (by simp)⟩
  obtain ⟨z, rfl, hn, hz1, hz2, hz3⟩ := hs'
  have hst := allP_step (p := fun j => sameF (l.getD j fld0) (m.getD j fld0)) hz1 hz3
  obtain ⟨x, hx⟩ : ∃ x, x = l.getD z.toNat fld0 := ⟨_, rfl⟩
  obtain ⟨y, hy⟩ : ∃ y, y = m.getD z.toNat fld0 := ⟨_, rfl⟩
  have hL : z < ln → List.take 7 (List.drop (A.idx 0 z 7) lc) = cellsF x := fun hz => by rw [hA, s_idx, Nat.zero_add, hlc, hgl z.toNat (by omega), ← hx]
  have hM : z < ln → List.take 7 (List.drop (A.idx 0 z 7) mc) = cellsF y := fun hz => by rw [hA, s_idx, Nat.zero_add, hmc, hgm z.toNat (by omega), ← hy]
  have hc : z < ln → ∀ h : EH, Tri Tryz.prog gs 134 [.agg (cellsF x), .agg (cellsF y)] h fun v h' => IsP (sameF x y) v ∧ h' = h := fun hz => ihc x (by rw [hx]; exact mem_getD (by omega)) y (by rw [hy]; exact mem_getD (by omega))
  have hall : (∀ j, j < ln → sameF (l.getD j fld0) (m.getD j fld0)) → z < ln → sameF x y := fun h hz => by rw [hx, hy]; exact h _ (by omega)
  simp only [← hx, ← hy] at hst
  generalize sameF x y = P at hst hc hall
  rw [cellsF_eq, cellsF_eq] at hc
  rw [cellsF_eq] at hL hM
  generalize cellsFs x.kids = kc, x.kids.length = kn, x.nm = nm, x.nul = nul, x.kind = k, x.width = w, x.id = i, x.idx = ix at hL hc
  generalize cellsFs y.kids = kc', y.kids.length = kn', y.nm = nm', y.nul = nul', y.kind = k', y.width = w', y.id = i', y.idx = ix' at hM hc
  with_reducible refine runS hA hd hQ 200 ?hk ?_
  case hk => exact trivial
  conv => arg 9; cbv
  try simp only [OK]
  repeat' first | (with_reducible refine OKK.loop ?_) | (with_reducible refine OKK.again ?_) | ((with_reducible refine ⟨fun hbr => ?_, fun hbr => ?_⟩) <;> (try simp (disch := omega) only [hA, OK, emaU, Int.reduceToNat, s_bat, s_eqlB, s_neqB, reduceCtorEq] at hbr) <;> (try (with_reducible exfalso; omega))) | ((with_reducible refine runK hA hd hQ 200 ?hk ?_); (case hk => exact trivial); (conv => arg 9; cbv); (try simp only [OK])) | ((with_reducible refine need_of ?hn ?_); (case hn => ((simp (disch := omega) only [hA, OK, emaU, Int.reduceToNat, s_bat, s_eqlB, s_neqB]) <;> omega))) | ((refine ⟨_, _, ?l1, (hL (by omega)), rfl, ?_⟩); (case l1 => exact rfl)) | ((refine ⟨_, _, ?l1, (hM (by omega)), rfl, ?_⟩); (case l1 => exact rfl)) | (refine CallOK.of (goodF_of F134_ok) (Tri.mono (hc (by omega) _) fun v hh hx => ?_); (obtain ⟨⟨b, hv, hb⟩, he⟩ := hx; subst hv; subst he; cases b <;> simp (disch := omega) only [hA, OK, emaU, Int.reduceToNat, s_bat, s_eqlB, s_neqB, Bool.false_eq_true, true_iff, false_iff, eq_self, reduceCtorEq] at hb) <;> (try (with_reducible exfalso; omega))) | fail
  all_goals try
    refine OKs.mask (msk 32 [1, 2, 15, 16, 17]) (OKs.mv [] [] (by rw [hρ]; rfl) ⟨by decide, by simp [sizeH], by simp⟩ (ih _ _ ⟨_, rfl, rfl, ?_, ?_, ?_⟩ ?_))
    all_goals simp (disch := omega) only [hA, OK, emaU, Int.reduceToNat, s_bat, s_eqlB, s_neqB]
    all_goals first
      | omega
      | exact hst hb
  all_goals (try (with_reducible refine FinR.self ?_; first | refine FinR.bl rfl ?_ | refine FinR.bs rfl ?_ | refine FinR.blh rfl ?_ rfl | refine FinR.bsh rfl ?_ rfl))
  all_goals (try simp (disch := omega) only [hA, OK, emaU, Int.reduceToNat, s_bat, s_eqlB, s_neqB, Bool.false_eq_true, true_iff, false_iff, eq_self, iff_true, iff_false])
  all_goals first
    | exact fun h => hb (hall h.2 (by omega))
    | exact ⟨by omega, fun j hj => hz3 j (by omega)⟩
    | trace_state
-- emaX: s_bat, s_eqlB, s_neqB
set_option maxHeartbeats 4000000 in
theorem sameC_ok (x y : Fld) (ih : ∀ h : EH, Tri Tryz.prog gs 94 [.agg (tyC x), .agg (tyC y)] h fun v h' => IsP (sameT x y) v ∧ h' = h) (h : EH) :
    Tri Tryz.prog gs 134 [.agg (cellsF x), .agg (cellsF y)] h fun v h' => IsP (sameF x y) v ∧ h' = h := by
  unfold sameF
  generalize sameT x y = P at ih ⊢
  unfold tyC at ih
  rw [cellsF_eq, cellsF_eq]
  generalize cellsFs x.kids = kc, x.kids.length = kn, x.nm = nm, x.nul = nul, x.kind = k, x.width = w, x.id = i, x.idx = ix at *
  generalize cellsFs y.kids = kc', y.kids.length = kn', y.nm = nm', y.nul = nul', y.kind = k', y.width = w', y.id = i', y.idx = ix' at *
  refine Tri.boolC rfl (Tri_of F134_ok fun I0 ρ0 w0 Q hρ hQ => ?_) h
  obtain ⟨A, hA⟩ : ∃ A, A = stdA := ⟨_, rfl⟩
  cases nul <;> cases nul'
  all_goals
    with_reducible refine runS hA hd hQ 200 ?hk ?_
    case hk => exact trivial
    conv => arg 9; cbv
    try simp only [OK]
    repeat' first | ((with_reducible refine ⟨fun hbr => ?_, fun hbr => ?_⟩) <;> (try simp (disch := omega) only [hA, OK, emaU, Int.reduceToNat, s_bat, s_eqlB, s_neqB, reduceCtorEq] at hbr) <;> (try (with_reducible exfalso; omega))) | ((with_reducible refine runK hA hd hQ 200 ?hk ?_); (case hk => exact trivial); (conv => arg 9; cbv); (try simp only [OK])) | ((with_reducible refine need_of ?hn ?_); (case hn => ((simp (disch := omega) only [hA, OK, emaU, Int.reduceToNat, s_bat, s_eqlB, s_neqB]) <;> omega))) | (refine CallOK.of (goodF_of F94_ok) (Tri.mono (ih _) fun v hh hx => ?_); (obtain ⟨⟨b, hv, hb⟩, he⟩ := hx; subst hv; subst he; cases b <;> simp (disch := omega) only [hA, OK, emaU, Int.reduceToNat, s_bat, s_eqlB, s_neqB, Bool.false_eq_true, true_iff, false_iff, eq_self, reduceCtorEq] at hb) <;> (try (with_reducible exfalso; omega))) | fail
    all_goals (try (with_reducible refine FinR.self ?_; first | refine FinR.bl rfl ?_ | refine FinR.bs rfl ?_ | refine FinR.blh rfl ?_ rfl | refine FinR.bsh rfl ?_ rfl))
    all_goals (try simp (disch := omega) only [hA, OK, emaU, Int.reduceToNat, s_bat, s_eqlB, s_neqB, Bool.false_eq_true, true_iff, false_iff, eq_self, iff_true, iff_false])
  all_goals simp_all
set_option maxHeartbeats 4000000 in
theorem same_at (x y : Fld) (hx : okF x) (hy : okF y) (ih : ∀ h : EH, Tri Tryz.prog gs 133 [.isl x.kids.length none (cellsFs x.kids), .isl y.kids.length none (cellsFs y.kids), .fn (.func 134) [] []] h fun v h' => IsP (sameTs x.kids y.kids) v ∧ h' = h) (h : EH) :
    Tri Tryz.prog gs 94 [.agg (tyC x), .agg (tyC y)] h fun v h' => IsP (sameT x y) v ∧ h' = h := by
  rw [sameT_iff]
  have hix := hx
  generalize sameTs x.kids y.kids = P at ih ⊢
  unfold tyC
  generalize cellsFs x.kids = kc, x.kids.length = kn, x.kind = k, x.width = w, x.id = i, x.idx = ix at *
  generalize cellsFs y.kids = kc', y.kids.length = kn', y.kind = k', y.width = w', y.id = i', y.idx = ix' at *
  refine Tri.boolC rfl (Tri_of F94_ok fun I0 ρ0 w0 Q hρ hQ => ?_) h
  obtain ⟨A, hA⟩ : ∃ A, A = stdA := ⟨_, rfl⟩
  with_reducible refine runS hA hd hQ 200 ?hk ?_
  case hk => exact trivial
  conv => arg 9; cbv
  try simp only [OK]
  repeat' first | ((with_reducible refine ⟨fun hbr => ?_, fun hbr => ?_⟩) <;> (try simp (disch := omega) only [hA, OK, emaU, Int.reduceToNat, s_bat, s_eqlB, s_neqB, reduceCtorEq] at hbr) <;> (try (with_reducible exfalso; omega))) | ((with_reducible refine runK hA hd hQ 200 ?hk ?_); (case hk => exact trivial); (conv => arg 9; cbv); (try simp only [OK])) | ((with_reducible refine need_of ?hn ?_); (case hn => ((simp (disch := omega) only [hA, OK, emaU, Int.reduceToNat, s_bat, s_eqlB, s_neqB]) <;> omega))) | (refine CallOK.of (goodF_of F133_ok) (Tri.mono (ih _) fun v hh hx => ?_); (obtain ⟨⟨b, hv, hb⟩, he⟩ := hx; subst hv; subst he; cases b <;> simp (disch := omega) only [hA, OK, emaU, Int.reduceToNat, s_bat, s_eqlB, s_neqB, Bool.false_eq_true, true_iff, false_iff, eq_self, reduceCtorEq] at hb) <;> (try (with_reducible exfalso; omega))) | fail
  all_goals (try (with_reducible refine FinR.self ?_; first | refine FinR.bl rfl ?_ | refine FinR.bs rfl ?_ | refine FinR.blh rfl ?_ rfl | refine FinR.bsh rfl ?_ rfl))
  all_goals (try simp (disch := omega) only [hA, OK, emaU, Int.reduceToNat, s_bat, s_eqlB, s_neqB, Bool.false_eq_true, true_iff, false_iff, eq_self, iff_true, iff_false])
  all_goals simp_all
theorem same_ok : ∀ (n : Nat) (x y : Fld), SizeOf.sizeOf x ≤ n → okF x → okF y → ∀ h : EH, Tri Tryz.prog gs 94 [.agg (tyC x), .agg (tyC y)] h fun v h' => IsP (sameT x y) v ∧ h' = h := by
  intro n
  induction n with
  | zero => intro x y h; cases x; simp at h
  | succ n ih =>
    intro x y hs hx hy
    refine same_at x y hx hy fun h => eqFunc_ok _ _ (ok_kids hx).2 (ok_kids hy).2 (fun a ha b hb => sameC_ok a b (ih a b ?_ (okFs_mem (ok_kids hx).1 ha) (okFs_mem (ok_kids hy).1 hb))) h
    have h1 := sizeFs ha
    have h2 := sizeF_kids x
    omega
set_option maxRecDepth 100000 in
set_option maxHeartbeats 4000000 in
theorem alike_ok (x y : Fld) (hx : okF x) (hy : okF y) (kx : x.kind ≠ 20) (ky : y.kind ≠ 20) (h : EH) : Tri Tryz.prog gs 64 [.agg (tyC x), .agg (tyC y)] h fun v h' => IsP (alikeP x y) v ∧ h' = h := by
  have h1 := mayType_ok x hx kx
  have h2 := mayType_ok y hy ky
  have h3 := same_ok _ x y (Nat.le_refl _) hx hy
  unfold alikeP
  generalize mayF (hold x) = P1, mayF (hold y) = P2, sameT x y = P3 at *
  unfold tyC at *
  generalize cellsFs x.kids = kc, x.kids.length = kn, x.kind = k, x.width = w, x.id = i, x.idx = ix at *
  generalize cellsFs y.kids = kc', y.kids.length = kn', y.kind = k', y.width = w', y.id = i', y.idx = ix' at *
  refine Tri.boolC rfl (Tri_of F64_ok fun I0 ρ0 w0 Q hρ hQ => ?_) h
  obtain ⟨A, hA⟩ : ∃ A, A = stdA := ⟨_, rfl⟩
  with_reducible refine runS hA hd hQ 200 ?hk ?_
  case hk => exact trivial
  conv => arg 9; cbv
  try simp only [OK]
  repeat' first | ((with_reducible refine ⟨fun hbr => ?_, fun hbr => ?_⟩) <;> (try simp (disch := omega) only [hA, OK, emaU, Int.reduceToNat, s_bat, s_eqlB, s_neqB, reduceCtorEq] at hbr) <;> (try (with_reducible exfalso; omega))) | ((with_reducible refine runK hA hd hQ 200 ?hk ?_); (case hk => exact trivial); (conv => arg 9; cbv); (try simp only [OK])) | ((with_reducible refine need_of ?hn ?_); (case hn => ((simp (disch := omega) only [hA, OK, emaU, Int.reduceToNat, s_bat, s_eqlB, s_neqB]) <;> omega))) | (refine CallOK.of (goodF_of F93_ok) (Tri.mono (h1 _) fun v hh hx => ?_); (obtain ⟨⟨b, hv, hb⟩, he⟩ := hx; subst hv; subst he; cases b <;> simp (disch := omega) only [hA, OK, emaU, Int.reduceToNat, s_bat, s_eqlB, s_neqB, Bool.false_eq_true, true_iff, false_iff, eq_self, reduceCtorEq] at hb) <;> (try (with_reducible exfalso; omega))) | (refine CallOK.of (goodF_of F93_ok) (Tri.mono (h2 _) fun v hh hx => ?_); (obtain ⟨⟨b, hv, hb⟩, he⟩ := hx; subst hv; subst he; cases b <;> simp (disch := omega) only [hA, OK, emaU, Int.reduceToNat, s_bat, s_eqlB, s_neqB, Bool.false_eq_true, true_iff, false_iff, eq_self, reduceCtorEq] at hb) <;> (try (with_reducible exfalso; omega))) | (refine CallOK.of (goodF_of F94_ok) (Tri.mono (h3 _) fun v hh hx => ?_); (obtain ⟨⟨b, hv, hb⟩, he⟩ := hx; subst hv; subst he; cases b <;> simp (disch := omega) only [hA, OK, emaU, Int.reduceToNat, s_bat, s_eqlB, s_neqB, Bool.false_eq_true, true_iff, false_iff, eq_self, reduceCtorEq] at hb) <;> (try (with_reducible exfalso; omega))) | fail
  all_goals (try (with_reducible refine FinR.self ?_; first | refine FinR.bl rfl ?_ | refine FinR.bs rfl ?_ | refine FinR.blh rfl ?_ rfl | refine FinR.bsh rfl ?_ rfl))
  all_goals (try simp (disch := omega) only [hA, OK, emaU, Int.reduceToNat, s_bat, s_eqlB, s_neqB, Bool.false_eq_true, true_iff, false_iff, eq_self, iff_true, iff_false])
  all_goals simp_all
-- emaX: s_bat
set_option maxHeartbeats 4000000 in
theorem wholes_ok (l : List PF) (n : Nat) (c : List EV) (hl : LP l n c) (h0 : 0 < n) (h : EH) :
    Tri Tryz.prog gs 26 [.isl n none c] h fun v h' => IsT ((∀ p ∈ l, p.g.kind = (l.getD 0 pf0).g.kind) ∧ 3 ≤ (l.getD 0 pf0).g.kind ∧ (l.getD 0 pf0).g.kind ≤ 10) (zt (l.getD 0 pf0).g.kind) v ∧ h' = h := by
  refine Tri.typC rfl (Tri_of F26_ok fun I0 ρ0 w0 Q hρ hQ => ?_) h
  obtain ⟨A, hA⟩ : ∃ A, A = stdA := ⟨_, rfl⟩
  have hc := numbers_ok l n c hl h0
  generalize (l.getD 0 pf0).g.kind = k at *
  generalize (∀ p ∈ l, p.g.kind = k) = P at *
  with_reducible refine runS hA hd hQ 200 ?hk ?_
  case hk => exact trivial
  conv => arg 9; cbv
  try simp only [OK]
  repeat' first | ((with_reducible refine ⟨fun hbr => ?_, fun hbr => ?_⟩) <;> (try simp (disch := omega) only [hA, OK, emaU, Int.reduceToNat, s_bat, reduceCtorEq] at hbr) <;> (try (with_reducible exfalso; omega))) | ((with_reducible refine runK hA hd hQ 200 ?hk ?_); (case hk => exact trivial); (conv => arg 9; cbv); (try simp only [OK])) | ((with_reducible refine need_of ?hn ?_); (case hn => ((simp (disch := omega) only [hA, OK, emaU, Int.reduceToNat, s_bat]) <;> omega))) | fail
  refine CallOK.of (goodF_of F23_ok) (Tri.mono (hc _) fun v hh hx => ?_)
  obtain ⟨⟨b, tk, tw, ti, tx, tn, tc, hv, hb, ht⟩, hh'⟩ := hx
  subst hv; subst hh'
  have hT : b = true → P ∧ tk = k ∧ 3 ≤ k ∧ k ≤ 11 := fun h => by
    have h1 := hb.1 h
    have := ht h1
    simp [tyC, zt, kind_mk] at this
    exact ⟨h1.1, this.1.symm, h1.2⟩
  have hF : b = false → ¬ (P ∧ 3 ≤ k ∧ k ≤ 10) := fun h h1 => by
    have := hb.2 ⟨h1.1, by have := h1.2; omega, by have := h1.2; omega⟩
    rw [h] at this; cases this
  have ht' : b = true → tyC (zt k) = [.lit (.int .i64 tk), .lit (.int .i64 tw), .lit (.int .i64 ti), .lit (.int .i64 tx), .isl tn none tc] := fun h => ht (hb.1 h)
  clear ht hb hc
  cases b
  all_goals
    with_reducible refine runK hA hd hQ 1 ?hk ?_
    case hk => exact trivial
    conv => arg 9; cbv
    try simp only [OK]
    repeat' first | (with_reducible refine And.intro trivial ?_) | ((with_reducible refine ⟨fun hbr => ?_, fun hbr => ?_⟩) <;> (try simp (disch := omega) only [hA, OK, emaU, Int.reduceToNat, s_bat, reduceCtorEq] at hbr) <;> (try (with_reducible exfalso; omega))) | ((with_reducible refine runK hA hd hQ 200 ?hk ?_); (case hk => exact trivial); (conv => arg 9; cbv); (try simp only [OK])) | ((with_reducible refine need_of ?hn ?_); (case hn => ((simp (disch := omega) only [hA, OK, emaU, Int.reduceToNat, s_bat]) <;> omega))) | (refine CallOK.of (goodF_of F59_ok) (Tri.mono (isWhole_ok tk _) fun v hh hx => ?_); (obtain ⟨⟨b, hv, hb⟩, he⟩ := hx; subst hv; subst he; cases b <;> simp (disch := omega) only [hA, OK, emaU, Int.reduceToNat, s_bat, Bool.false_eq_true, true_iff, false_iff, eq_self, reduceCtorEq] at hb) <;> (try (with_reducible exfalso; omega))) | fail
  all_goals refine FinR.ty rfl (by first | exact Up.refl _ | exact Up.nil []) (by first | exact Up.refl _ | exact Up.sb _) ?_ ?_
  all_goals first
    | exact iff_of_false (by simp) (hF rfl)
    | exact fun h => absurd h (hF rfl)
    | exact fun _ => ht' rfl
    | (have hq := (hT rfl).2; first | exact iff_of_true rfl ⟨(hT rfl).1, by omega⟩ | exact iff_of_true rfl ⟨(hT rfl).1, by omega, by omega⟩ | exact iff_of_false (by simp) fun h => by have := h.2; omega)
    | (have hq := (hT rfl).2; simp (disch := omega) only [hA, OK, emaU, Int.reduceToNat, s_bat]; exact ⟨fun h => ⟨(hT rfl).1, by omega⟩, fun h => by have := h.2; omega⟩)
set_option maxHeartbeats 4000000 in
theorem negatives_ok (l : List PF) (n : Nat) (c : List EV) (hl : LP l n c) (h0 : 0 < n) (h : EH) :
    Tri Tryz.prog gs 27 [.isl n none c] h fun v h' => IsT ((∀ p ∈ l, p.g.kind = (l.getD 0 pf0).g.kind) ∧ (3 ≤ (l.getD 0 pf0).g.kind ∧ (l.getD 0 pf0).g.kind ≤ 6 ∨ (l.getD 0 pf0).g.kind = 11)) (zt (l.getD 0 pf0).g.kind) v ∧ h' = h := by
  refine Tri.typC rfl (Tri_of F27_ok fun I0 ρ0 w0 Q hρ hQ => ?_) h
  obtain ⟨A, hA⟩ : ∃ A, A = stdA := ⟨_, rfl⟩
  have hc := numbers_ok l n c hl h0
  generalize (l.getD 0 pf0).g.kind = k at *
  generalize (∀ p ∈ l, p.g.kind = k) = P at *
  with_reducible refine runS hA hd hQ 200 ?hk ?_
  case hk => exact trivial
  conv => arg 9; cbv
  try simp only [OK]
  repeat' first | ((with_reducible refine ⟨fun hbr => ?_, fun hbr => ?_⟩) <;> (try simp (disch := omega) only [hA, OK, emaU, Int.reduceToNat, s_bat, reduceCtorEq] at hbr) <;> (try (with_reducible exfalso; omega))) | ((with_reducible refine runK hA hd hQ 200 ?hk ?_); (case hk => exact trivial); (conv => arg 9; cbv); (try simp only [OK])) | ((with_reducible refine need_of ?hn ?_); (case hn => ((simp (disch := omega) only [hA, OK, emaU, Int.reduceToNat, s_bat]) <;> omega))) | fail
  refine CallOK.of (goodF_of F23_ok) (Tri.mono (hc _) fun v hh hx => ?_)
  obtain ⟨⟨b, tk, tw, ti, tx, tn, tc, hv, hb, ht⟩, hh'⟩ := hx
  subst hv; subst hh'
  have hT : b = true → P ∧ tk = k ∧ 3 ≤ k ∧ k ≤ 11 := fun h => by
    have h1 := hb.1 h
    have := ht h1
    simp [tyC, zt, kind_mk] at this
    exact ⟨h1.1, this.1.symm, h1.2⟩
  have hF : b = false → ¬ (P ∧ (3 ≤ k ∧ k ≤ 6 ∨ k = 11)) := fun h h1 => by
    have := hb.2 ⟨h1.1, by have := h1.2; omega, by have := h1.2; omega⟩
    rw [h] at this; cases this
  have ht' : b = true → tyC (zt k) = [.lit (.int .i64 tk), .lit (.int .i64 tw), .lit (.int .i64 ti), .lit (.int .i64 tx), .isl tn none tc] := fun h => ht (hb.1 h)
  clear ht hb hc
  cases b
  all_goals
    with_reducible refine runK hA hd hQ 1 ?hk ?_
    case hk => exact trivial
    conv => arg 9; cbv
    try simp only [OK]
    repeat' first | (with_reducible refine And.intro trivial ?_) | ((with_reducible refine ⟨fun hbr => ?_, fun hbr => ?_⟩) <;> (try simp (disch := omega) only [hA, OK, emaU, Int.reduceToNat, s_bat, reduceCtorEq] at hbr) <;> (try (with_reducible exfalso; omega))) | ((with_reducible refine runK hA hd hQ 200 ?hk ?_); (case hk => exact trivial); (conv => arg 9; cbv); (try simp only [OK])) | ((with_reducible refine need_of ?hn ?_); (case hn => ((simp (disch := omega) only [hA, OK, emaU, Int.reduceToNat, s_bat]) <;> omega))) | (refine CallOK.of (goodF_of F63_ok) (Tri.mono (isSigned_ok tk _) fun v hh hx => ?_); (obtain ⟨⟨b, hv, hb⟩, he⟩ := hx; subst hv; subst he; cases b <;> simp (disch := omega) only [hA, OK, emaU, Int.reduceToNat, s_bat, Bool.false_eq_true, true_iff, false_iff, eq_self, reduceCtorEq] at hb) <;> (try (with_reducible exfalso; omega))) | fail
  all_goals refine FinR.ty rfl (by first | exact Up.refl _ | exact Up.nil []) (by first | exact Up.refl _ | exact Up.sb _) ?_ ?_
  all_goals first
    | exact iff_of_false (by simp) (hF rfl)
    | exact fun h => absurd h (hF rfl)
    | exact fun _ => ht' rfl
    | (have hq := (hT rfl).2; first | exact iff_of_true rfl ⟨(hT rfl).1, by omega⟩ | exact iff_of_true rfl ⟨(hT rfl).1, by omega, by omega⟩ | exact iff_of_false (by simp) fun h => by have := h.2; omega)
    | (have hq := (hT rfl).2; simp (disch := omega) only [hA, OK, emaU, Int.reduceToNat, s_bat]; exact ⟨fun h => ⟨(hT rfl).1, by omega⟩, fun h => by have := h.2; omega⟩)
set_option maxHeartbeats 4000000 in
theorem compared_ok (l : List PF) (n : Nat) (c : List EV) (hl : LP l n c) (h2 : n = 2) (hp : ∀ p ∈ l, okPF p) (h : EH) :
    Tri Tryz.prog gs 29 [.isl n none c] h fun v h' => IsT (alikeP (l.getD 0 pf0).g (l.getD 1 pf0).g) (zt 2) v ∧ h' = h := by
  have hn := hl.1
  have o0 := hp _ (pf_mem (l := l) (j := 0) (by omega))
  have o1 := hp _ (pf_mem (l := l) (j := 1) (by omega))
  refine Tri.typC rfl (Tri_of F29_ok fun I0 ρ0 w0 Q hρ hQ => ?_) h
  obtain ⟨A, hA⟩ : ∃ A, A = stdA := ⟨_, rfl⟩
  have hc := alike_ok _ _ o0.1 o1.1 o0.2.2.2 o1.2.2.2
  have h0 : List.take 5 (List.drop (A.add (A.idx 0 0 7) 2) c) = tyC (l.getD 0 pf0).g := by rw [hA]; exact hl.part (i := 0) (o := 2) (by omega) (by omega)
  have h1 : List.take 5 (List.drop (A.add (A.idx 0 1 7) 2) c) = tyC (l.getD 1 pf0).g := by rw [hA]; exact hl.part (i := 1) (o := 2) (by omega) (by omega)
  generalize (l.getD 0 pf0).g = x at *
  generalize (l.getD 1 pf0).g = y at *
  generalize alikeP x y = P at *
  unfold tyC at *
  generalize cellsFs x.kids = kc, x.kids.length = kn, x.kind = k, x.width = w, x.id = i, x.idx = ix at *
  generalize cellsFs y.kids = kc', y.kids.length = kn', y.kind = k', y.width = w', y.id = i', y.idx = ix' at *
  with_reducible refine runS hA hd hQ 200 ?hk ?_
  case hk => exact trivial
  conv => arg 9; cbv
  try simp only [OK]
  repeat' first | (with_reducible refine And.intro trivial ?_) | ((with_reducible refine ⟨fun hbr => ?_, fun hbr => ?_⟩) <;> (try simp (disch := omega) only [hA, OK, emaU, Int.reduceToNat, s_bat, reduceCtorEq] at hbr) <;> (try (with_reducible exfalso; omega))) | ((with_reducible refine runK hA hd hQ 200 ?hk ?_); (case hk => exact trivial); (conv => arg 9; cbv); (try simp only [OK])) | ((with_reducible refine need_of ?hn ?_); (case hn => ((simp (disch := omega) only [hA, OK, emaU, Int.reduceToNat, s_bat]) <;> omega))) | ((refine ⟨_, _, ?l1, h0, rfl, ?_⟩); (case l1 => exact rfl)) | ((refine ⟨_, _, ?l1, h1, rfl, ?_⟩); (case l1 => exact rfl)) | (refine CallOK.of (goodF_of F64_ok) (Tri.mono (hc _) fun v hh hx => ?_); (obtain ⟨⟨b, hv, hb⟩, he⟩ := hx; subst hv; subst he; cases b <;> simp (disch := omega) only [hA, OK, emaU, Int.reduceToNat, s_bat, Bool.false_eq_true, true_iff, false_iff, eq_self, reduceCtorEq] at hb) <;> (try (with_reducible exfalso; omega))) | fail
  all_goals refine FinR.ty rfl (by first | exact Up.refl _ | exact Up.nil []) (by first | exact Up.refl _ | exact Up.sb _) ?_ ?_
  all_goals first
    | exact iff_of_false (by simp) hb
    | exact iff_of_true rfl hb
    | exact fun _ => rfl
set_option maxHeartbeats 4000000 in
theorem either_ok (l : List PF) (n : Nat) (c : List EV) (hl : LP l n c) (h2 : n = 2) (hp : ∀ p ∈ l, okPF p) (h : EH) :
    Tri Tryz.prog gs 37 [.isl n none c] h fun v h' => IsT (alikeP (l.getD 0 pf0).g (l.getD 1 pf0).g) (l.getD 0 pf0).g v ∧ h' = h := by
  have hn := hl.1
  have o0 := hp _ (pf_mem (l := l) (j := 0) (by omega))
  have o1 := hp _ (pf_mem (l := l) (j := 1) (by omega))
  refine Tri.typC rfl (Tri_of F37_ok fun I0 ρ0 w0 Q hρ hQ => ?_) h
  obtain ⟨A, hA⟩ : ∃ A, A = stdA := ⟨_, rfl⟩
  have hc := alike_ok _ _ o0.1 o1.1 o0.2.2.2 o1.2.2.2
  have h0 : List.take 5 (List.drop (A.add (A.idx 0 0 7) 2) c) = tyC (l.getD 0 pf0).g := by rw [hA]; exact hl.part (i := 0) (o := 2) (by omega) (by omega)
  have h1 : List.take 5 (List.drop (A.add (A.idx 0 1 7) 2) c) = tyC (l.getD 1 pf0).g := by rw [hA]; exact hl.part (i := 1) (o := 2) (by omega) (by omega)
  generalize (l.getD 0 pf0).g = x at *
  generalize (l.getD 1 pf0).g = y at *
  generalize alikeP x y = P at *
  have hty : tyC x = tyC x := rfl
  conv at hty => rhs; unfold tyC
  generalize tyC x = T at hty hc h0 ⊢
  subst hty
  unfold tyC at hc h1
  generalize hkc : cellsFs x.kids = kc, hkn : x.kids.length = kn, hk : x.kind = k, hw : x.width = w, hi : x.id = i, hix : x.idx = ix at *
  generalize cellsFs y.kids = kc', y.kids.length = kn', y.kind = k', y.width = w', y.id = i', y.idx = ix' at *
  with_reducible refine runS hA hd hQ 200 ?hk ?_
  case hk => exact trivial
  conv => arg 9; cbv
  try simp only [OK]
  repeat' first | (with_reducible refine And.intro trivial ?_) | ((with_reducible refine ⟨fun hbr => ?_, fun hbr => ?_⟩) <;> (try simp (disch := omega) only [hA, OK, emaU, Int.reduceToNat, s_bat, reduceCtorEq] at hbr) <;> (try (with_reducible exfalso; omega))) | ((with_reducible refine runK hA hd hQ 200 ?hk ?_); (case hk => exact trivial); (conv => arg 9; cbv); (try simp only [OK])) | ((with_reducible refine need_of ?hn ?_); (case hn => ((simp (disch := omega) only [hA, OK, emaU, Int.reduceToNat, s_bat]) <;> omega))) | ((refine ⟨_, _, ?l1, h0, rfl, ?_⟩); (case l1 => exact rfl)) | ((refine ⟨_, _, ?l1, h1, rfl, ?_⟩); (case l1 => exact rfl)) | (refine CallOK.of (goodF_of F64_ok) (Tri.mono (hc _) fun v hh hx => ?_); (obtain ⟨⟨b, hv, hb⟩, he⟩ := hx; subst hv; subst he; cases b <;> simp (disch := omega) only [hA, OK, emaU, Int.reduceToNat, s_bat, Bool.false_eq_true, true_iff, false_iff, eq_self, reduceCtorEq] at hb) <;> (try (with_reducible exfalso; omega))) | fail
  all_goals refine FinR.ty rfl (by first | exact Up.refl _ | exact Up.nil []) (by first | exact Up.refl _ | exact Up.sb _) ?_ ?_
  all_goals first
    | exact iff_of_false (by simp) hb
    | exact iff_of_true rfl hb
    | exact fun _ => by rw [← hkc, ← hkn, ← hk, ← hw, ← hi, ← hix]; rfl
    | trace_state
set_option maxHeartbeats 4000000 in
theorem branches_ok (l : List PF) (n : Nat) (c : List EV) (hl : LP l n c) (h3 : n = 3) (hp : ∀ p ∈ l, okPF p) (h : EH) :
    Tri Tryz.prog gs 40 [.isl n none c] h fun v h' => IsT (alikeP (l.getD 1 pf0).g (l.getD 2 pf0).g ∧ (l.getD 0 pf0).g.kind = 2) (l.getD 1 pf0).g v ∧ h' = h := by
  refine Tri.typC rfl (Tri_of F40_ok fun I0 ρ0 w0 Q hρ hQ => ?_) h
  obtain ⟨A, hA⟩ : ∃ A, A = stdA := ⟨_, rfl⟩
  have hn := hl.1
  have hk0 : List.take 1 (List.drop (A.add (A.add (A.idx 0 0 7) 2) 0) c) = [.lit (.int .i64 (l.getD 0 pf0).g.kind)] := by rw [hA]; exact hl.part (i := 0) (o := 2) (by omega) (by omega)
  have hc : ∀ h : EH, Tri Tryz.prog gs 37 [.isl (A.sub (A.tn (A.ofn n)) (A.tn 1)) none (A.drp (A.mul (A.tn 1) 7) c)] h fun v h' => IsT (alikeP (l.getD 1 pf0).g (l.getD 2 pf0).g) (l.getD 1 pf0).g v ∧ h' = h := by
    rw [hA]
    have := either_ok _ _ _ (hl.tail (by omega)) (by omega) (fun p hp' => hp p (List.mem_of_mem_drop hp'))
    simp only [List.getD_eq_getElem?_getD, List.getElem?_drop] at this ⊢
    exact this
  generalize (l.getD 0 pf0).g.kind = k at *
  generalize alikeP (l.getD 1 pf0).g (l.getD 2 pf0).g = P at *
  generalize (l.getD 1 pf0).g = T at *
  with_reducible refine runS hA hd hQ 200 ?hk ?_
  case hk => exact trivial
  conv => arg 9; cbv
  try simp only [OK]
  repeat' first | ((with_reducible refine ⟨fun hbr => ?_, fun hbr => ?_⟩) <;> (try simp (disch := omega) only [hA, OK, emaU, Int.reduceToNat, s_bat, reduceCtorEq] at hbr) <;> (try (with_reducible exfalso; omega))) | ((with_reducible refine runK hA hd hQ 200 ?hk ?_); (case hk => exact trivial); (conv => arg 9; cbv); (try simp only [OK])) | ((with_reducible refine need_of ?hn ?_); (case hn => ((simp (disch := omega) only [hA, OK, emaU, Int.reduceToNat, s_bat]) <;> omega))) | fail
  refine CallOK.of (goodF_of F37_ok) (Tri.mono (hc _) fun v hh hx => ?_)
  obtain ⟨⟨b, tk, tw, ti, tx, tn, tc, hv, hb, ht⟩, hh'⟩ := hx
  subst hv; subst hh'
  cases b
  all_goals
    with_reducible refine runK hA hd hQ 1 ?hk ?_
    case hk => exact trivial
    conv => arg 9; cbv
    try simp only [OK]
    repeat' first | (with_reducible refine And.intro trivial ?_) | ((with_reducible refine ⟨fun hbr => ?_, fun hbr => ?_⟩) <;> (try simp (disch := omega) only [hA, OK, emaU, Int.reduceToNat, s_bat, reduceCtorEq] at hbr) <;> (try (with_reducible exfalso; omega))) | ((with_reducible refine runK hA hd hQ 200 ?hk ?_); (case hk => exact trivial); (conv => arg 9; cbv); (try simp only [OK])) | ((with_reducible refine need_of ?hn ?_); (case hn => ((simp (disch := omega) only [hA, OK, emaU, Int.reduceToNat, s_bat]) <;> omega))) | ((refine ⟨_, _, ?l1, hk0, rfl, ?_⟩); (case l1 => exact rfl)) | fail
  all_goals refine FinR.ty rfl (by first | exact Up.refl _ | exact Up.nil []) (by first | exact Up.refl _ | exact Up.sb _) ?_ ?_
  all_goals first
    | exact iff_of_false Bool.false_ne_true fun h => Bool.false_ne_true (hb.2 h.1)
    | exact fun h => ht h.1
    | (simp (disch := omega) only [hA, OK, emaU, Int.reduceToNat, s_bat]; exact ⟨fun h => ⟨hb.1 rfl, h⟩, fun h => h.2⟩)
    | trace_state
-- emaX: s_bat
theorem fs_step {l : List Fld} {z : Nat} (h : z < l.length) : cellsFs (l.take (z + 1)) = cellsFs (l.take z) ++ cellsF (l.getD z fld0) := by
  rw [List.take_add_one, fs_app, List.getD_eq_getElem?_getD, List.getElem?_eq_getElem h]
  simp [cellsFs]
theorem Up.agg7 {a b c d e f g g' : EV} (h : Up g g') : Up (.agg [a, b, c, d, e, f, g]) (.agg [a, b, c, d, e, f, g']) := fun w I ρ cv hr => by
  cases hr with
  | agg _ cc vs hl hc =>
    refine .agg _ _ _ (by simpa using hl) fun j x v he hv => ?_
    match j, he with
    | 0, he => simp at he; subst he; exact hc 0 _ v rfl hv
    | 1, he => simp at he; subst he; exact hc 1 _ v rfl hv
    | 2, he => simp at he; subst he; exact hc 2 _ v rfl hv
    | 3, he => simp at he; subst he; exact hc 3 _ v rfl hv
    | 4, he => simp at he; subst he; exact hc 4 _ v rfl hv
    | 5, he => simp at he; subst he; exact hc 5 _ v rfl hv
    | 6, he => simp at he; subst he; exact h _ _ _ _ (hc 6 _ v rfl hv)
mutual
def smallF : Fld → Prop
  | .mk _ _ _ _ _ _ kids => kids.length ≤ 32 ∧ smallFs kids
def smallFs : List Fld → Prop
  | [] => True
  | f :: l => smallF f ∧ smallFs l
end
theorem fits_len {k w i x : Int} {n : Nat} (h : fitsP k w i x n) : n ≤ 32 := by
  obtain ⟨_, _, h⟩ := h
  split at h
  · omega
  split at h
  · omega
  split at h
  · omega
  split at h
  · omega
  split at h
  · omega
  split at h
  · omega
  · omega
mutual
theorem all_small : ∀ {f : Fld}, allF f → smallF f
  | .mk nm nul k w i x kids, h => by
    rw [allF] at h
    rw [smallF]
    exact ⟨fits_len h.2.1, alls_small h.2.2.2⟩
theorem alls_small : ∀ {l : List Fld}, allFs l → smallFs l
  | [], _ => trivial
  | f :: l, h => by
    rw [allFs] at h
    rw [smallFs]
    exact ⟨all_small h.1, alls_small h.2⟩
end
theorem small_kids {f : Fld} (h : smallF f) : smallFs f.kids ∧ f.kids.length ≤ 32 := by
  obtain ⟨a1, a2, a3, a4, a5, a6, a7⟩ := f
  rw [smallF] at h; exact ⟨h.2, h.1⟩
theorem smalls_mem : ∀ {l : List Fld} {x : Fld}, smallFs l → x ∈ l → smallF x
  | [], x, _, h => by cases h
  | f :: l, x, h, hx => by
    rw [smallFs] at h
    rcases List.mem_cons.1 hx with rfl | hx
    · exact h.1
    · exact smalls_mem h.2 hx
def OwnF (nm : ByteArray) (nul : Bool) (k w i x : Int) (kn : Nat) (kc : List EV) (v : EV) (h : EH) : Prop := ∃ y : EV, v = .agg [.lit (.string nm), .lit (.bool nul), .lit (.int .i64 k), .lit (.int .i64 w), .lit (.int .i64 i), .lit (.int .i64 x), y] ∧
  ((kn = 0 ∧ kc = [] ∧ y = .lit (.slice none 0 0)) ∨ (y = .sl 7 2 0 kn none ∧ ∃ a b t, h = a :: b :: .blk kc :: t))
set_option maxRecDepth 100000 in
set_option maxHeartbeats 8000000 in
theorem copied_at (f : Fld) (hf : smallF f) (ih0 : ∀ c ∈ f.kids, ∀ h : EH, Tri Tryz.prog gs 22 [.agg (cellsF c)] h fun v h' => v = .agg (cellsF c) ∧ h' = h) :
    Tri Tryz.prog gs 22 [.agg (cellsF f)] [] fun v h' => OwnF f.nm f.nul f.kind f.width f.id f.idx f.kids.length (cellsFs f.kids) v h' := by
  have hg := fs_get f.kids
  have hstep := fun z => fs_step (l := f.kids) (z := z)
  have hll := (small_kids hf).2
  rw [cellsF_eq]
  generalize f.nm = nm, f.nul = nul, f.kind = k, f.width = w, f.id = i, f.idx = x at *
  generalize f.kids = L at *
  obtain ⟨kn, hkn⟩ : ∃ n, n = L.length := ⟨_, rfl⟩
  obtain ⟨kc, hkc⟩ : ∃ n, n = cellsFs L := ⟨_, rfl⟩
  rw [← hkn, ← hkc]
  refine Tri_of F22_ok fun I0 ρ0 w0 Q hρ hQ => ?_
  obtain ⟨A, hA⟩ : ∃ A, A = stdA := ⟨_, rfl⟩
  with_reducible refine runS hA hd hQ 200 ?hk ?_
  case hk => exact trivial
  conv => arg 9; cbv
  try simp only [OK]
  repeat' first | (with_reducible refine OKK.loop ?_) | (with_reducible refine OKK.again ?_) | ((with_reducible refine ⟨fun hbr => ?_, fun hbr => ?_⟩) <;> (try simp (disch := omega) only [hA, OK, emaU, Int.reduceToNat, s_bat, reduceCtorEq] at hbr) <;> (try (with_reducible exfalso; omega))) | ((with_reducible refine runK hA hd hQ 200 ?hk ?_); (case hk => exact trivial); (conv => arg 9; cbv); (try simp only [OK])) | ((with_reducible refine need_of ?hn ?_); (case hn => ((simp (disch := omega) only [hA, OK, emaU, Int.reduceToNat, s_bat]) <;> omega))) | fail
  refine OKs.mask (msk 24 [1, 2, 3, 8, 9, 10]) ?_
  refine OKs.loopN (fun n st => ∃ (z : Int) (bn : Nat) (bc : List EV), ((bn = 0 ∧ st = ⟨mkT 24 [(1, .ptr 0 0), (2, .ptr 1 0), (3, .lit (.slice none 0 0)), (8, .isl kn none kc), (9, .lit (.int .i64 (A.ofn kn))), (10, .lit (.int .i64 z))], [.blk [.lit (.string nm), .lit (.bool nul), .lit (.int .i64 k), .lit (.int .i64 w), .lit (.int .i64 i), .lit (.int .i64 x), .isl kn none kc], .blk [.lit (.string ⟨#[]⟩), .lit (.bool false), .lit (.int .i64 0), .lit (.int .i64 0), .lit (.int .i64 0), .lit (.int .i64 0), .lit (.slice none 0 0)]]⟩) ∨
      st = ⟨mkT 24 [(1, .ptr 0 0), (2, .ptr 1 0), (3, .sl 7 2 0 bn none), (8, .isl kn none kc), (9, .lit (.int .i64 (A.ofn kn))), (10, .lit (.int .i64 z))], [.blk [.lit (.string nm), .lit (.bool nul), .lit (.int .i64 k), .lit (.int .i64 w), .lit (.int .i64 i), .lit (.int .i64 x), .isl kn none kc], .blk [.lit (.string ⟨#[]⟩), .lit (.bool false), .lit (.int .i64 0), .lit (.int .i64 0), .lit (.int .i64 0), .lit (.int .i64 0), .lit (.slice none 0 0)], .blk bc]⟩) ∧
      n = (kn - z).toNat ∧ 0 ≤ z ∧ z ≤ kn ∧ bn = z.toNat ∧ bc = cellsFs (L.take z.toNat)) (fun n st hs' ih => ?_)
    ⟨0, 0, [], .inl ⟨rfl, rfl⟩, rfl, by omega, by omega, rfl, rfl⟩
  obtain ⟨z, bn, bc, hst, hn, hz1, hz2, hbn, hbc⟩ := hs'
  have hbl : bc.length = 7 * bn := by rw [hbc, cellsFs_length, List.length_take]; omega
  have hmv : ∀ g z, mvL g z bc = bc := fun g z => mvL_cl _ _ _ (by rw [hbc]; exact clFs _)
  have hL : z < kn → List.take 7 (List.drop (A.idx 0 z 7) kc) = cellsF (L.getD z.toNat fld0) := fun hz => by rw [hA, s_idx, Nat.zero_add, hkc, hg z.toNat (by omega)]
  have hc : z < kn → ∀ h : EH, Tri Tryz.prog gs 22 [.agg (cellsF (L.getD z.toNat fld0))] h fun v h' => v = .agg (cellsF (L.getD z.toNat fld0)) ∧ h' = h := fun hz => ih0 _ (mem_getD (by omega))
  have hs2 : z < kn → cellsFs (L.take (z.toNat + 1)) = bc ++ cellsF (L.getD z.toNat fld0) := fun hz => by rw [hbc]; exact hstep _ (by omega)
  have hend : z = kn → bc = kc := fun hz => by rw [hbc, hkc, List.take_of_length_le (by omega)]
  rw [cellsF_eq] at hL hc hs2
  generalize L.getD z.toNat fld0 = c at *
  generalize c.nm = nm', c.nul = nul', c.kind = k', c.width = w', c.id = i', c.idx = x', c.kids.length = kn', cellsFs c.kids = kc' at *
  rcases hst with ⟨h0, rfl⟩ | rfl
  all_goals
    with_reducible refine runS hA hd hQ 200 ?hk ?_
    case hk => exact trivial
    conv => arg 9; cbv
    try simp only [OK]
    repeat' first | (with_reducible refine OKK.loop ?_) | (with_reducible refine OKK.again ?_) | ((with_reducible refine ⟨fun hbr => ?_, fun hbr => ?_⟩) <;> (try simp (disch := omega) only [hA, OK, emaU, Int.reduceToNat, s_bat, reduceCtorEq] at hbr) <;> (try (with_reducible exfalso; omega))) | ((with_reducible refine runK hA hd hQ 200 ?hk ?_); (case hk => exact trivial); (conv => arg 9; cbv); (try simp only [OK])) | ((with_reducible refine need_of ?hn ?_); (case hn => ((simp (disch := omega) only [hA, OK, emaU, Int.reduceToNat, s_bat]) <;> omega))) | ((refine ⟨_, _, ?l1, (hL (by omega)), rfl, ?_⟩); (case l1 => exact rfl)) | fail
  all_goals try
    refine CallOK.of (goodF_of F22_ok) (Tri.mono (hc (by omega) _) fun v hh hx => ?_)
    obtain ⟨hv, hh'⟩ := hx
    subst hv; subst hh'
    with_reducible refine runK hA hd hQ 1 ?hk ?_
    case hk => exact trivial
    conv => arg 9; cbv
    try simp only [OK]
    repeat' first | (with_reducible refine OKK.loop ?_) | (with_reducible refine OKK.again ?_) | ((with_reducible refine ⟨fun hbr => ?_, fun hbr => ?_⟩) <;> (try simp (disch := omega) only [hA, OK, emaU, Int.reduceToNat, s_bat, reduceCtorEq] at hbr) <;> (try (with_reducible exfalso; omega))) | ((with_reducible refine runK hA hd hQ 200 ?hk ?_); (case hk => exact trivial); (conv => arg 9; cbv); (try simp only [OK])) | ((with_reducible refine need_of ?hn ?_); (case hn => ((simp (disch := omega) only [hA, OK, emaU, Int.reduceToNat, s_bat]) <;> omega))) | fail
  · have hz1' : (A.ib .add .i64 z 1).toNat = z.toNat + 1 := by simp (disch := omega) only [hA, OK, emaU, Int.reduceToNat, s_bat]; omega
    have hb0 : bc = [] := List.length_eq_zero_iff.1 (by omega)
    refine OKs.mask (msk 24 [1, 2, 3, 8, 9, 10]) (OKs.mv [0, 1, 4] [] (by rw [hρ]; rfl) ⟨by decide, by simp [sizeH], by simp⟩ (ih _ _ ⟨A.ib .add .i64 z 1, _, _, .inr rfl, rfl, ?_, ?_, ?_, ?_⟩ ?_))
    · simp (disch := omega) only [hA, OK, emaU, Int.reduceToNat, s_bat]; omega
    · simp (disch := omega) only [hA, OK, emaU, Int.reduceToNat, s_bat]; omega
    · rw [hz1']; omega
    · rw [hz1', hs2 (by omega), hb0, List.nil_append, hA]
      exact mvL_cl _ _ _ rfl
    · simp (disch := omega) only [hA, OK, emaU, Int.reduceToNat, s_bat]; omega
  · exact FinR.intro rfl ⟨_, rfl, .inl ⟨by omega, by rw [← hend (by omega)]; exact List.length_eq_zero_iff.1 (by omega), rfl⟩⟩
  · have hz1' : (A.ib .add .i64 z 1).toNat = z.toNat + 1 := by simp (disch := omega) only [hA, OK, emaU, Int.reduceToNat, s_bat]; omega
    have hpush : A.app (A.tak (A.mul bn 7) (A.drp 0 bc)) (A.tak (A.mul 1 7) (A.drp 0 [.lit (.string nm'), .lit (.bool nul'), .lit (.int .i64 k'), .lit (.int .i64 w'), .lit (.int .i64 i'), .lit (.int .i64 x'), .isl kn' none kc'])) = bc ++ [.lit (.string nm'), .lit (.bool nul'), .lit (.int .i64 k'), .lit (.int .i64 w'), .lit (.int .i64 i'), .lit (.int .i64 x'), .isl kn' none kc'] := by
      rw [hA]
      simp only [s_app, s_tak, s_drp, s_mulN, List.drop_zero]
      rw [List.take_of_length_le (by omega)]
      rfl
    refine OKs.mask (msk 24 [1, 2, 3, 8, 9, 10]) (OKs.mv [0, 1, 5] [] (by rw [hρ]; rfl) ⟨by decide, by simp [sizeH], by simp⟩ (ih _ _ ⟨A.ib .add .i64 z 1, _, _, .inr rfl, rfl, ?_, ?_, ?_, ?_⟩ ?_))
    · simp (disch := omega) only [hA, OK, emaU, Int.reduceToNat, s_bat]; omega
    · simp (disch := omega) only [hA, OK, emaU, Int.reduceToNat, s_bat]; omega
    · rw [hz1', hA]; show bn + 1 = _; omega
    · rw [hz1', hs2 (by omega)]
      exact (congrArg _ hpush).trans (mvL_cl _ _ _ (by rw [← hs2 (by omega)]; exact clFs _))
    · simp (disch := omega) only [hA, OK, emaU, Int.reduceToNat, s_bat]; omega
  · refine FinR.intro rfl ⟨_, rfl, .inr ⟨by rw [show kn = bn by omega], _, _, [], by rw [← hend (by omega)]⟩⟩
theorem copied_ok : ∀ (n : Nat) (f : Fld), SizeOf.sizeOf f ≤ n → smallF f → ∀ h : EH, Tri Tryz.prog gs 22 [.agg (cellsF f)] h fun v h' => v = .agg (cellsF f) ∧ h' = h := by
  intro n
  induction n with
  | zero => intro f h; cases f; simp at h
  | succ n ih =>
    intro f hs hf h
    have t1 := Tri.mv (R' := fun v h' => ∃ v', v' = .agg (cellsF f) ∧ Up v v') (copied_at f hf fun c hc h => ih c (by have h1 := sizeFs hc; have h2 := sizeF_kids f; omega) (smalls_mem (small_kids hf).1 hc) h) fun v h' hr => by
      obtain ⟨y, hv, hor⟩ := hr
      rcases hor with ⟨e0, e1, e2⟩ | ⟨e2, a, b, t, e1⟩ <;> subst e2 <;> subst hv
      · refine ⟨[], [], rfl, ⟨by simp, by simp, by simp⟩, .agg (cellsF f), rfl, ?_⟩
        rw [cellsF_eq, e0, e1]
        exact Up.agg7 (Up.nil _)
      · subst e1
        refine ⟨[], [2], rfl, ⟨by simp, by simp, fun id hid => by simp at hid; subst hid; exact ⟨_, rfl, clFs _⟩⟩, .agg (cellsF f), rfl, ?_⟩
        rw [cellsF_eq]
        exact Up.refl _
    exact Tri.valK (by rw [cellsF_eq]; rfl) (by rw [cellsF_eq]; rfl) (Tri.up t1 fun v h' ⟨v', h1, h2⟩ => ⟨v', h1, h2⟩) h
-- emaX: s_bat, s_eqlB, s_neqB, Bool.true_beq, Bool.false_beq, Bool.not_true, Bool.not_false
set_option maxHeartbeats 4000000 in
theorem eqFields_at (l : List Fld) (hll : l.length ≤ 32)
    (ihc : ∀ x ∈ l, ∀ h : EH, Tri Tryz.prog gs 6 [.agg (cellsF x), .agg (cellsF x)] h fun v h' => IsP True v ∧ h' = h) (h : EH) :
    Tri Tryz.prog gs 17 [.isl l.length none (cellsFs l), .isl l.length none (cellsFs l)] h fun v h' => IsP True v ∧ h' = h := by
  have hgl := fs_get l
  obtain ⟨ln, hln⟩ : ∃ n, n = l.length := ⟨_, rfl⟩
  obtain ⟨lc, hlc⟩ : ∃ n, n = cellsFs l := ⟨_, rfl⟩
  rw [← hln, ← hlc]
  refine Tri.boolC rfl (Tri_of F17_ok fun I0 ρ0 w0 Q hρ hQ => ?_) h
  obtain ⟨A, hA⟩ : ∃ A, A = stdA := ⟨_, rfl⟩
  with_reducible refine runS hA hd hQ 200 ?hk ?_
  case hk => exact trivial
  conv => arg 9; cbv
  try simp only [OK]
  repeat' first | (with_reducible refine OKK.loop ?_) | (with_reducible refine OKK.again ?_) | ((with_reducible refine ⟨fun hbr => ?_, fun hbr => ?_⟩) <;> (try simp (disch := omega) only [hA, OK, emaU, Int.reduceToNat, s_bat, s_eqlB, s_neqB, Bool.true_beq, Bool.false_beq, Bool.not_true, Bool.not_false, reduceCtorEq] at hbr) <;> (try (with_reducible exfalso; omega))) | ((with_reducible refine runK hA hd hQ 200 ?hk ?_); (case hk => exact trivial); (conv => arg 9; cbv); (try simp only [OK])) | ((with_reducible refine need_of ?hn ?_); (case hn => ((simp (disch := omega) only [hA, OK, emaU, Int.reduceToNat, s_bat, s_eqlB, s_neqB, Bool.true_beq, Bool.false_beq, Bool.not_true, Bool.not_false]) <;> omega))) | fail
  refine OKs.mask (msk 27 [0, 1, 12, 13]) ?_
  refine OKs.loopN (fun n st => ∃ z : Int, st = ⟨mkT 27 [(0, .isl ln none lc), (1, .isl ln none lc), (12, .lit (.int .i64 (A.ofn ln))), (13, .lit (.int .i64 z))], []⟩ ∧ n = (ln - z).toNat ∧ 0 ≤ z ∧ z ≤ ln) (fun n st hs' ih => ?_) ⟨0, rfl, rfl, by omega, by omega⟩
  obtain ⟨z, rfl, hn, hz1, hz2⟩ := hs'
  have hL : z < ln → List.take 7 (List.drop (A.idx 0 z 7) lc) = cellsF (l.getD z.toNat fld0) := fun hz => by rw [hA, s_idx, Nat.zero_add, hlc, hgl z.toNat (by omega)]
  have hc : z < ln → ∀ h : EH, Tri Tryz.prog gs 6 [.agg (cellsF (l.getD z.toNat fld0)), .agg (cellsF (l.getD z.toNat fld0))] h fun v h' => IsP True v ∧ h' = h := fun hz => ihc _ (mem_getD (by omega))
  generalize l.getD z.toNat fld0 = x at *
  rw [cellsF_eq] at hL hc
  generalize cellsFs x.kids = kc, x.kids.length = kn, x.nm = nm, x.nul = nul, x.kind = k, x.width = w, x.id = i, x.idx = ix at hL hc
  with_reducible refine runS hA hd hQ 200 ?hk ?_
  case hk => exact trivial
  conv => arg 9; cbv
  try simp only [OK]
  repeat' first | (with_reducible refine OKK.loop ?_) | (with_reducible refine OKK.again ?_) | ((with_reducible refine ⟨fun hbr => ?_, fun hbr => ?_⟩) <;> (try simp (disch := omega) only [hA, OK, emaU, Int.reduceToNat, s_bat, s_eqlB, s_neqB, Bool.true_beq, Bool.false_beq, Bool.not_true, Bool.not_false, reduceCtorEq] at hbr) <;> (try (with_reducible exfalso; omega))) | ((with_reducible refine runK hA hd hQ 200 ?hk ?_); (case hk => exact trivial); (conv => arg 9; cbv); (try simp only [OK])) | ((with_reducible refine need_of ?hn ?_); (case hn => ((simp (disch := omega) only [hA, OK, emaU, Int.reduceToNat, s_bat, s_eqlB, s_neqB, Bool.true_beq, Bool.false_beq, Bool.not_true, Bool.not_false]) <;> omega))) | ((refine ⟨_, _, ?l1, (hL (by omega)), rfl, ?_⟩); (case l1 => exact rfl)) | (refine CallOK.of (goodF_of F6_ok) (Tri.mono (hc (by omega) _) fun v hh hx => ?_); (obtain ⟨⟨b, hv, hb⟩, he⟩ := hx; subst hv; subst he; cases b <;> simp (disch := omega) only [hA, OK, emaU, Int.reduceToNat, s_bat, s_eqlB, s_neqB, Bool.true_beq, Bool.false_beq, Bool.not_true, Bool.not_false, Bool.false_eq_true, true_iff, false_iff, eq_self, reduceCtorEq] at hb) <;> (try (with_reducible exfalso; omega))) | fail
  all_goals try
    refine OKs.mask (msk 27 [0, 1, 12, 13]) (OKs.mv [] [] (by rw [hρ]; rfl) ⟨by decide, by simp [sizeH], by simp⟩ (ih _ _ ⟨_, rfl, rfl, ?_, ?_⟩ ?_))
    all_goals simp (disch := omega) only [hA, OK, emaU, Int.reduceToNat, s_bat, s_eqlB, s_neqB, Bool.true_beq, Bool.false_beq, Bool.not_true, Bool.not_false]
    all_goals omega
  all_goals (try (with_reducible refine FinR.self ?_; first | refine FinR.bl rfl ?_ | refine FinR.bs rfl ?_ | refine FinR.blh rfl ?_ rfl | refine FinR.bsh rfl ?_ rfl))
  all_goals (try simp (disch := omega) only [hA, OK, emaU, Int.reduceToNat, s_bat, s_eqlB, s_neqB, Bool.true_beq, Bool.false_beq, Bool.not_true, Bool.not_false, Bool.false_eq_true, true_iff, false_iff, eq_self, iff_true, iff_false])
  all_goals simp_all
set_option maxHeartbeats 4000000 in
theorem eqField_at (x : Fld) (ih : ∀ h : EH, Tri Tryz.prog gs 17 [.isl x.kids.length none (cellsFs x.kids), .isl x.kids.length none (cellsFs x.kids)] h fun v h' => IsP True v ∧ h' = h) (h : EH) :
    Tri Tryz.prog gs 6 [.agg (cellsF x), .agg (cellsF x)] h fun v h' => IsP True v ∧ h' = h := by
  rw [cellsF_eq]
  generalize cellsFs x.kids = kc, x.kids.length = kn, x.nm = nm, x.nul = nul, x.kind = k, x.width = w, x.id = i, x.idx = ix at *
  refine Tri.boolC rfl (Tri_of F6_ok fun I0 ρ0 w0 Q hρ hQ => ?_) h
  obtain ⟨A, hA⟩ : ∃ A, A = stdA := ⟨_, rfl⟩
  cases nul
  all_goals
    with_reducible refine runS hA hd hQ 200 ?hk ?_
    case hk => exact trivial
    conv => arg 9; cbv
    try simp only [OK]
    repeat' first | (with_reducible refine And.intro trivial ?_) | ((with_reducible refine ⟨fun hbr => ?_, fun hbr => ?_⟩) <;> (try simp (disch := omega) only [hA, OK, emaU, Int.reduceToNat, s_bat, s_eqlB, s_neqB, Bool.true_beq, Bool.false_beq, Bool.not_true, Bool.not_false, reduceCtorEq] at hbr) <;> (try (with_reducible exfalso; omega))) | ((with_reducible refine runK hA hd hQ 200 ?hk ?_); (case hk => exact trivial); (conv => arg 9; cbv); (try simp only [OK])) | ((with_reducible refine need_of ?hn ?_); (case hn => ((simp (disch := omega) only [hA, OK, emaU, Int.reduceToNat, s_bat, s_eqlB, s_neqB, Bool.true_beq, Bool.false_beq, Bool.not_true, Bool.not_false]) <;> omega))) | (refine CallOK.of (goodF_of F17_ok) (Tri.mono (ih _) fun v hh hx => ?_); (obtain ⟨⟨b, hv, hb⟩, he⟩ := hx; subst hv; subst he; cases b <;> simp (disch := omega) only [hA, OK, emaU, Int.reduceToNat, s_bat, s_eqlB, s_neqB, Bool.true_beq, Bool.false_beq, Bool.not_true, Bool.not_false, Bool.false_eq_true, true_iff, false_iff, eq_self, reduceCtorEq] at hb) <;> (try (with_reducible exfalso; omega))) | fail
    all_goals (try (with_reducible refine FinR.self ?_; first | refine FinR.bl rfl ?_ | refine FinR.bs rfl ?_ | refine FinR.blh rfl ?_ rfl | refine FinR.bsh rfl ?_ rfl))
    all_goals (try simp (disch := omega) only [hA, OK, emaU, Int.reduceToNat, s_bat, s_eqlB, s_neqB, Bool.true_beq, Bool.false_beq, Bool.not_true, Bool.not_false, Bool.false_eq_true, true_iff, false_iff, eq_self, iff_true, iff_false])
  all_goals simp_all
theorem eqField_ok : ∀ (n : Nat) (f : Fld), SizeOf.sizeOf f ≤ n → smallF f → ∀ h : EH, Tri Tryz.prog gs 6 [.agg (cellsF f), .agg (cellsF f)] h fun v h' => IsP True v ∧ h' = h := by
  intro n
  induction n with
  | zero => intro f h; cases f; simp at h
  | succ n ih =>
    intro f hs hf h
    exact eqField_at f (fun h => eqFields_at _ (small_kids hf).2 (fun c hc h => ih c (by have h1 := sizeFs hc; have h2 := sizeF_kids f; omega) (smalls_mem (small_kids hf).1 hc) h) h) h
-- emaX: s_bat
set_option maxRecDepth 100000 in
set_option maxHeartbeats 8000000 in
theorem copyFields_at (l : List Fld) (hll : l.length ≤ 32) (ihc : ∀ c ∈ l, ∀ h : EH, Tri Tryz.prog gs 53 [.agg (cellsF c)] h fun v h' => v = .agg (cellsF c) ∧ h' = h) :
    Tri Tryz.prog gs 16 [.isl l.length none (cellsFs l)] [] fun v h' => ∃ cap t, v = .sl 7 0 0 l.length cap ∧ h' = .blk (cellsFs l) :: t := by
  have hg := fs_get l
  have hstep := fun z => fs_step (l := l) (z := z)
  obtain ⟨n, hn⟩ : ∃ n, n = l.length := ⟨_, rfl⟩
  obtain ⟨c, hc⟩ : ∃ n, n = cellsFs l := ⟨_, rfl⟩
  rw [← hn, ← hc]
  refine Tri_of F16_ok fun I0 ρ0 w0 Q hρ hQ => ?_
  obtain ⟨A, hA⟩ : ∃ A, A = stdA := ⟨_, rfl⟩
  with_reducible refine runS hA hd hQ 200 ?hk ?_
  case hk => exact trivial
  conv => arg 9; cbv
  try simp only [OK]
  repeat' first | (with_reducible refine OKK.loop ?_) | (with_reducible refine OKK.again ?_) | ((with_reducible refine ⟨fun hbr => ?_, fun hbr => ?_⟩) <;> (try simp (disch := omega) only [hA, OK, emaU, Int.reduceToNat, s_bat, reduceCtorEq] at hbr) <;> (try (with_reducible exfalso; omega))) | ((with_reducible refine runK hA hd hQ 200 ?hk ?_); (case hk => exact trivial); (conv => arg 9; cbv); (try simp only [OK])) | ((with_reducible refine need_of ?hn ?_); (case hn => ((simp (disch := omega) only [hA, OK, emaU, Int.reduceToNat, s_bat]) <;> omega))) | fail
  have hrl : (A.rep [.lit (.string ⟨#[]⟩), .lit (.bool false), .lit (.int .i64 0), .lit (.int .i64 0), .lit (.int .i64 0), .lit (.int .i64 0), .lit (.slice none 0 0)] (A.tn (A.ofn n))).length = 7 * n := by
    rw [hA, s_rep, s_tn, s_ofn]
    simp
    omega
  have hrc : clL (A.rep [.lit (.string ⟨#[]⟩), .lit (.bool false), .lit (.int .i64 0), .lit (.int .i64 0), .lit (.int .i64 0), .lit (.int .i64 0), .lit (.slice none 0 0)] (A.tn (A.ofn n))) = true := by
    rw [hA, s_rep]
    refine clL_of fun x hx => ?_
    obtain ⟨q, hq, hx⟩ := List.mem_flatten.1 hx
    rw [List.eq_of_mem_replicate hq] at hx
    exact clL_mem rfl x hx
  refine OKs.mask (msk 23 [0, 3, 9, 10]) ?_
  refine OKs.loopN (fun m st => ∃ (z : Int) (bc r : List EV), st = ⟨mkT 23 [(0, .isl n none c), (3, .sl 7 0 0 (A.tn (A.ofn n)) (some (A.tn (A.ofn n)))), (9, .lit (.int .i64 (A.ofn n))), (10, .lit (.int .i64 z))], [.blk bc]⟩ ∧ m = (n - z).toNat ∧ 0 ≤ z ∧ z ≤ n ∧ bc = cellsFs (l.take z.toNat) ++ r ∧ r.length = 7 * (n - z.toNat)) (fun m st hs' ih => ?_) ⟨0, _, _, rfl, rfl, by omega, by omega, rfl, hrl⟩
  obtain ⟨z, bc, r, rfl, hm, hz1, hz2, hbc, hr⟩ := hs'
  have hxl : (cellsFs (l.take z.toNat)).length = 7 * z.toNat := by rw [cellsFs_length, List.length_take]; omega
  have hbl : bc.length = 7 * n := by rw [hbc, List.length_append, hxl, hr]; omega
  have hL : z < n → List.take 7 (List.drop (A.idx 0 z 7) c) = cellsF (l.getD z.toNat fld0) := fun hz => by rw [hA, s_idx, Nat.zero_add, hc, hg z.toNat (by omega)]
  have hcc : z < n → ∀ h : EH, Tri Tryz.prog gs 53 [.agg (cellsF (l.getD z.toNat fld0))] h fun v h' => v = .agg (cellsF (l.getD z.toNat fld0)) ∧ h' = h := fun hz => ihc _ (mem_getD (by omega))
  have hset : z < n → A.setl bc (A.idx 0 z 7) (cellsF (l.getD z.toNat fld0)) = cellsFs (l.take (z.toNat + 1)) ++ r.drop 7 := fun hz => by
    rw [hA, s_setl, s_idx, Nat.zero_add, hstep _ (by omega), hbc, List.take_append_of_le_length (by rw [hxl]; omega), List.take_of_length_le (by rw [hxl]; omega), cellsF_length, List.drop_append, List.drop_eq_nil_of_le (by rw [hxl]; omega), hxl, List.nil_append, show z.toNat * 7 + 7 - 7 * z.toNat = 7 by omega]
  have hend : z = n → bc = c := fun hz => by rw [hbc, hc, List.take_of_length_le (by omega), List.length_eq_zero_iff.1 (show r.length = 0 by rw [hr]; omega), List.append_nil]
  rw [cellsF_eq] at hL hcc hset
  generalize l.getD z.toNat fld0 = e at *
  generalize e.nm = nm', e.nul = nul', e.kind = k', e.width = w', e.id = i', e.idx = x', e.kids.length = kn', cellsFs e.kids = kc' at *
  with_reducible refine runS hA hd hQ 200 ?hk ?_
  case hk => exact trivial
  conv => arg 9; cbv
  try simp only [OK]
  repeat' first | (with_reducible refine OKK.loop ?_) | (with_reducible refine OKK.again ?_) | ((with_reducible refine ⟨fun hbr => ?_, fun hbr => ?_⟩) <;> (try simp (disch := omega) only [hA, OK, emaU, Int.reduceToNat, s_bat, reduceCtorEq] at hbr) <;> (try (with_reducible exfalso; omega))) | ((with_reducible refine runK hA hd hQ 200 ?hk ?_); (case hk => exact trivial); (conv => arg 9; cbv); (try simp only [OK])) | ((with_reducible refine need_of ?hn ?_); (case hn => ((simp (disch := omega) only [hA, OK, emaU, Int.reduceToNat, s_bat]) <;> omega))) | ((refine ⟨_, _, ?l1, (hL (by omega)), rfl, ?_⟩); (case l1 => exact rfl)) | fail
  · refine CallOK.of (goodF_of F53_ok) (Tri.mono (hcc (by omega) _) fun v hh hx => ?_)
    obtain ⟨hv, hh'⟩ := hx
    subst hv; subst hh'
    with_reducible refine runK hA hd hQ 1 ?hk ?_
    case hk => exact trivial
    conv => arg 9; cbv
    try simp only [OK]
    repeat' first | (with_reducible refine OKK.loop ?_) | (with_reducible refine OKK.again ?_) | ((with_reducible refine ⟨fun hbr => ?_, fun hbr => ?_⟩) <;> (try simp (disch := omega) only [hA, OK, emaU, Int.reduceToNat, s_bat, reduceCtorEq] at hbr) <;> (try (with_reducible exfalso; omega))) | ((with_reducible refine runK hA hd hQ 200 ?hk ?_); (case hk => exact trivial); (conv => arg 9; cbv); (try simp only [OK])) | ((with_reducible refine need_of ?hn ?_); (case hn => ((simp (disch := omega) only [hA, OK, emaU, Int.reduceToNat, s_bat]) <;> omega))) | fail
    have hz1' : (A.ib .add .i64 z 1).toNat = z.toNat + 1 := by simp (disch := omega) only [hA, OK, emaU, Int.reduceToNat, s_bat]; omega
    refine OKs.mask (msk 23 [0, 3, 9, 10]) (ih _ _ ⟨A.ib .add .i64 z 1, _, r.drop 7, rfl, rfl, ?_, ?_, ?_, ?_⟩ ?_)
    · simp (disch := omega) only [hA, OK, emaU, Int.reduceToNat, s_bat]; omega
    · simp (disch := omega) only [hA, OK, emaU, Int.reduceToNat, s_bat]; omega
    · rw [hz1']; exact hset (by omega)
    · rw [hz1', List.length_drop, hr]; omega
    · simp (disch := omega) only [hA, OK, emaU, Int.reduceToNat, s_bat]; omega
  · exact FinR.intro rfl ⟨some (A.tn (A.ofn n)), [], by rw [hA]; rfl, by rw [hend (by omega)]⟩
theorem copyField_at (f : Fld) (hf : smallF f) (ih : Tri Tryz.prog gs 16 [.isl f.kids.length none (cellsFs f.kids)] [] fun v h' => ∃ cap t, v = .sl 7 0 0 f.kids.length cap ∧ h' = .blk (cellsFs f.kids) :: t) (h : EH) :
    Tri Tryz.prog gs 53 [.agg (cellsF f)] h fun v h' => v = .agg (cellsF f) ∧ h' = h := by
  have ic : ∀ h : EH, Tri Tryz.prog gs 16 [.isl f.kids.length none (cellsFs f.kids)] h fun v h' => v = .isl f.kids.length none (cellsFs f.kids) ∧ h' = h := fun h => by
    have t1 := Tri.mv (R' := fun v h' => ∃ v', v' = EV.isl f.kids.length none (cellsFs f.kids) ∧ Up v v') ih fun v h' hr => by
      obtain ⟨cap, t, hv, hh⟩ := hr
      subst hv; subst hh
      exact ⟨[], [0], rfl, ⟨by simp, by simp, fun id hid => by simp at hid; subst hid; exact ⟨_, rfl, clFs _⟩⟩, _, rfl, Up.cap _ _ _⟩
    exact Tri.valK rfl rfl (Tri.up t1 fun v h' ⟨v', h1, h2⟩ => ⟨v', h1, h2⟩) h
  rw [cellsF_eq]
  generalize cellsFs f.kids = kc, f.kids.length = kn, f.nm = nm, f.nul = nul, f.kind = k, f.width = w, f.id = i, f.idx = ix at ic
  refine Tri.valK rfl rfl (Tri_of F53_ok fun I0 ρ0 w0 Q hρ hQ => ?_) h
  obtain ⟨A, hA⟩ : ∃ A, A = stdA := ⟨_, rfl⟩
  with_reducible refine runS hA hd hQ 200 ?hk ?_
  case hk => exact trivial
  conv => arg 9; cbv
  try simp only [OK]
  repeat' first | ((with_reducible refine ⟨fun hbr => ?_, fun hbr => ?_⟩) <;> (try simp (disch := omega) only [hA, OK, emaU, Int.reduceToNat, s_bat, reduceCtorEq] at hbr) <;> (try (with_reducible exfalso; omega))) | ((with_reducible refine runK hA hd hQ 200 ?hk ?_); (case hk => exact trivial); (conv => arg 9; cbv); (try simp only [OK])) | ((with_reducible refine need_of ?hn ?_); (case hn => ((simp (disch := omega) only [hA, OK, emaU, Int.reduceToNat, s_bat]) <;> omega))) | fail
  refine CallOK.of (goodF_of F16_ok) (Tri.mono (ic _) fun v hh hx => ?_)
  obtain ⟨hv, hh'⟩ := hx
  subst hv; subst hh'
  with_reducible refine runK hA hd hQ 1 ?hk ?_
  case hk => exact trivial
  conv => arg 9; cbv
  try simp only [OK]
  repeat' first | ((with_reducible refine ⟨fun hbr => ?_, fun hbr => ?_⟩) <;> (try simp (disch := omega) only [hA, OK, emaU, Int.reduceToNat, s_bat, reduceCtorEq] at hbr) <;> (try (with_reducible exfalso; omega))) | ((with_reducible refine runK hA hd hQ 200 ?hk ?_); (case hk => exact trivial); (conv => arg 9; cbv); (try simp only [OK])) | ((with_reducible refine need_of ?hn ?_); (case hn => ((simp (disch := omega) only [hA, OK, emaU, Int.reduceToNat, s_bat]) <;> omega))) | fail
  exact FinR.intro rfl rfl
theorem copyField_ok : ∀ (n : Nat) (f : Fld), SizeOf.sizeOf f ≤ n → smallF f → ∀ h : EH, Tri Tryz.prog gs 53 [.agg (cellsF f)] h fun v h' => v = .agg (cellsF f) ∧ h' = h := by
  intro n
  induction n with
  | zero => intro f h; cases f; simp at h
  | succ n ih =>
    intro f hs hf h
    exact copyField_at f hf (copyFields_at _ (small_kids hf).2 fun c hc h => ih c (by have h1 := sizeFs hc; have h2 := sizeF_kids f; omega) (smalls_mem (small_kids hf).1 hc) h) h
def F67 : FC := ⟨6, [.cell 2 true 4], (sQ [o 2 (.alloc zcZ)] (.seq (sQ [oM 3 0] (.cond Q3 (sQ [o 4 (.build zcZ [(1, 1, (kI 1))]), oS 4 2 4] .ret) .skip)) (sQ [o 5 (.build zcZ []), oS 4 2 5] .ret)))⟩
theorem F67_ok : compF Tryz.prog 67 = some F67 := by kernel_rfl
-- emaX: s_bat
theorem Up.top (v : EV) : Up v .top := fun w I ρ cv h => .top _ _
def IsFn (v : EV) : Prop := ∃ g : Nat, v = .fn (.func g) [] [.top]
theorem Tri.fnC {P : Program} {G : List (List EV)} {f : FuncId} {args : List EV} (ha : clL args = true) (t : Tri P G f args [] fun v _ => ∃ (g i : Nat), v = .fn (.func g) [] [.ptr i 0]) (h : EH) : Tri P G f args h fun v h' => IsFn v ∧ h' = h :=
  Tri.litC (φ := IsFn) (fun v ⟨g, e⟩ => by rw [e]; rfl) ha (Tri.mv t fun v h' ⟨g, i, e⟩ => ⟨[], [], rfl, ⟨by simp, by simp, by simp⟩, g, by rw [e]; rfl⟩) h
theorem reckon_ok (op : Int) (h : EH) : Tri Tryz.prog gs 25 [.lit (.int .i64 op)] h fun v h' => IsFn v ∧ h' = h := by
  refine Tri.fnC rfl (Tri_of F25_ok fun I0 ρ0 w0 Q hρ hQ => ?_) h
  obtain ⟨A, hA⟩ : ∃ A, A = stdA := ⟨_, rfl⟩
  with_reducible refine runS hA hd hQ 200 ?hk ?_
  case hk => exact trivial
  conv => arg 9; cbv
  try simp only [OK]
  repeat' first | ((with_reducible refine ⟨fun hbr => ?_, fun hbr => ?_⟩) <;> (try simp (disch := omega) only [hA, OK, emaU, Int.reduceToNat, s_bat, reduceCtorEq] at hbr) <;> (try (with_reducible exfalso; omega))) | ((with_reducible refine runK hA hd hQ 200 ?hk ?_); (case hk => exact trivial); (conv => arg 9; cbv); (try simp only [OK])) | ((with_reducible refine need_of ?hn ?_); (case hn => ((simp (disch := omega) only [hA, OK, emaU, Int.reduceToNat, s_bat]) <;> omega))) | fail
  all_goals exact FinR.intro rfl ⟨_, _, rfl⟩
theorem compare_ok (op : Int) (h : EH) : Tri Tryz.prog gs 30 [.lit (.int .i64 op)] h fun v h' => IsFn v ∧ h' = h := by
  refine Tri.fnC rfl (Tri_of F30_ok fun I0 ρ0 w0 Q hρ hQ => ?_) h
  obtain ⟨A, hA⟩ : ∃ A, A = stdA := ⟨_, rfl⟩
  with_reducible refine runS hA hd hQ 200 ?hk ?_
  case hk => exact trivial
  conv => arg 9; cbv
  try simp only [OK]
  repeat' first | ((with_reducible refine ⟨fun hbr => ?_, fun hbr => ?_⟩) <;> (try simp (disch := omega) only [hA, OK, emaU, Int.reduceToNat, s_bat, reduceCtorEq] at hbr) <;> (try (with_reducible exfalso; omega))) | ((with_reducible refine runK hA hd hQ 200 ?hk ?_); (case hk => exact trivial); (conv => arg 9; cbv); (try simp only [OK])) | ((with_reducible refine need_of ?hn ?_); (case hn => ((simp (disch := omega) only [hA, OK, emaU, Int.reduceToNat, s_bat]) <;> omega))) | fail
  all_goals exact FinR.intro rfl ⟨_, _, rfl⟩
def IsV (v : EV) : Prop := ∃ (n : Int), v = .agg [.lit (.bool false), .lit (.int .i64 n), .lit (.string ⟨#[]⟩), .lit (.slice none 0 0)]
theorem truth_ok (b : Bool) (h : EH) : Tri Tryz.prog gs 67 [.sb b] h fun v h' => IsV v ∧ h' = h := by
  refine Tri.litC (fun v ⟨n, e⟩ => by rw [e]; rfl) rfl (Tri_of F67_ok fun I0 ρ0 w0 Q hρ hQ => ?_) h
  obtain ⟨A, hA⟩ : ∃ A, A = stdA := ⟨_, rfl⟩
  with_reducible refine runS hA hd hQ 200 ?hk ?_
  case hk => exact trivial
  conv => arg 9; cbv
  try simp only [OK]
  repeat' first | ((with_reducible refine ⟨fun hbr => ?_, fun hbr => ?_⟩) <;> (try simp (disch := omega) only [hA, OK, emaU, Int.reduceToNat, s_bat, reduceCtorEq] at hbr) <;> (try (with_reducible exfalso; omega))) | ((with_reducible refine runK hA hd hQ 200 ?hk ?_); (case hk => exact trivial); (conv => arg 9; cbv); (try simp only [OK])) | ((with_reducible refine need_of ?hn ?_); (case hn => ((simp (disch := omega) only [hA, OK, emaU, Int.reduceToNat, s_bat]) <;> omega))) | fail
  all_goals exact FinR.intro rfl ⟨_, rfl⟩
theorem joined_ok (b : Bool) (h : EH) : Tri Tryz.prog gs 32 [.sb b] h fun v h' => IsFn v ∧ h' = h := by
  refine Tri.fnC rfl (Tri_of F32_ok fun I0 ρ0 w0 Q hρ hQ => ?_) h
  obtain ⟨A, hA⟩ : ∃ A, A = stdA := ⟨_, rfl⟩
  with_reducible refine runS hA hd hQ 200 ?hk ?_
  case hk => exact trivial
  conv => arg 9; cbv
  try simp only [OK]
  repeat' first | ((with_reducible refine ⟨fun hbr => ?_, fun hbr => ?_⟩) <;> (try simp (disch := omega) only [hA, OK, emaU, Int.reduceToNat, s_bat, reduceCtorEq] at hbr) <;> (try (with_reducible exfalso; omega))) | ((with_reducible refine runK hA hd hQ 200 ?hk ?_); (case hk => exact trivial); (conv => arg 9; cbv); (try simp only [OK])) | ((with_reducible refine need_of ?hn ?_); (case hn => ((simp (disch := omega) only [hA, OK, emaU, Int.reduceToNat, s_bat]) <;> omega))) | fail
  refine CallOK.of (goodF_of F67_ok) (Tri.mono (truth_ok _ _) fun v hh hx => ?_)
  obtain ⟨⟨n, hv⟩, hh'⟩ := hx
  subst hv; subst hh'
  with_reducible refine runK hA hd hQ 1 ?hk ?_
  case hk => exact trivial
  conv => arg 9; cbv
  try simp only [OK]
  repeat' first | ((with_reducible refine ⟨fun hbr => ?_, fun hbr => ?_⟩) <;> (try simp (disch := omega) only [hA, OK, emaU, Int.reduceToNat, s_bat, reduceCtorEq] at hbr) <;> (try (with_reducible exfalso; omega))) | ((with_reducible refine runK hA hd hQ 200 ?hk ?_); (case hk => exact trivial); (conv => arg 9; cbv); (try simp only [OK])) | ((with_reducible refine need_of ?hn ?_); (case hn => ((simp (disch := omega) only [hA, OK, emaU, Int.reduceToNat, s_bat]) <;> omega))) | fail
  all_goals exact FinR.intro rfl ⟨_, _, rfl⟩
theorem found_ok (b : Bool) (h : EH) : Tri Tryz.prog gs 48 [.sb b] h fun v h' => IsFn v ∧ h' = h := by
  refine Tri.fnC rfl (Tri_of F48_ok fun I0 ρ0 w0 Q hρ hQ => ?_) h
  obtain ⟨A, hA⟩ : ∃ A, A = stdA := ⟨_, rfl⟩
  with_reducible refine runS hA hd hQ 200 ?hk ?_
  case hk => exact trivial
  conv => arg 9; cbv
  try simp only [OK]
  repeat' first | ((with_reducible refine ⟨fun hbr => ?_, fun hbr => ?_⟩) <;> (try simp (disch := omega) only [hA, OK, emaU, Int.reduceToNat, s_bat, reduceCtorEq] at hbr) <;> (try (with_reducible exfalso; omega))) | ((with_reducible refine runK hA hd hQ 200 ?hk ?_); (case hk => exact trivial); (conv => arg 9; cbv); (try simp only [OK])) | ((with_reducible refine need_of ?hn ?_); (case hn => ((simp (disch := omega) only [hA, OK, emaU, Int.reduceToNat, s_bat]) <;> omega))) | fail
  all_goals exact FinR.intro rfl ⟨_, _, rfl⟩
def rul (n : Int) (t u : Nat) (b : Bool) (g : Nat) (d : List EV) : EV := .agg [.lit (.int .i64 n), .fn (.func t) [] [], .fn (.func u) [] [], .lit (.bool b), .fn (.func g) [] d]
def RuleP (op : Int) (v : EV) : Prop := ∃ (b : Bool) (g : Nat) (d : List EV), clL d = true ∧ (
  (1 ≤ op ∧ op ≤ 4 ∧ v = rul 2 23 24 b g d) ∨
  (op = 5 ∧ v = rul 2 26 24 b g d) ∨
  (op = 6 ∧ v = rul 1 27 24 b g d) ∨
  (7 ≤ op ∧ op ≤ 12 ∧ v = rul 2 29 24 b g d) ∨
  ((op = 13 ∨ op = 14) ∧ v = rul 2 31 24 b g d) ∨
  (op = 15 ∧ v = rul 1 31 24 b g d) ∨
  (op = 16 ∧ v = rul 1 34 35 b g d) ∨
  (op = 17 ∧ v = rul 2 37 38 b g d) ∨
  (op = 18 ∧ v = rul 3 40 41 b g d) ∨
  (op = 19 ∧ v = rul 2 43 24 b g d) ∨
  (op = 20 ∧ v = rul 1 45 24 b g d) ∨
  ((op = 21 ∨ op = 22) ∧ v = rul 2 47 24 b g d) ∨
  (¬ (1 ≤ op ∧ op ≤ 22) ∧ v = .agg [.lit (.int .i64 0), .lit .nilFunc, .lit .nilFunc, .lit (.bool false), .lit .nilFunc]))
theorem rul_cl {n : Int} {t u : Nat} {b : Bool} {g : Nat} {d : List EV} (h : clL d = true) : clE (rul n t u b g d) = true := by
  show (true && (true && (true && (true && ((true && clL d) && true))))) = true
  rw [h]; rfl
theorem RuleP.cl {op : Int} {v : EV} (h : RuleP op v) : clE v = true := by
  obtain ⟨b, g, d, hd, h⟩ := h
  rcases h with ⟨_, _, rfl⟩ | ⟨_, rfl⟩ | ⟨_, rfl⟩ | ⟨_, _, rfl⟩ | ⟨_, rfl⟩ | ⟨_, rfl⟩ | ⟨_, rfl⟩ | ⟨_, rfl⟩ | ⟨_, rfl⟩ | ⟨_, rfl⟩ | ⟨_, rfl⟩ | ⟨_, rfl⟩ | ⟨_, rfl⟩
  all_goals first | exact rul_cl hd | rfl
set_option maxRecDepth 100000 in
set_option maxHeartbeats 8000000 in
theorem ruleOf_ok (op : Int) (h : EH) : Tri Tryz.prog gs 9 [.lit (.int .i64 op)] h fun v h' => RuleP op v ∧ h' = h := by
  refine Tri.litC (φ := RuleP op) (fun v hv => hv.cl) rfl (Tri_of F9_ok fun I0 ρ0 w0 Q hρ hQ => ?_) h
  obtain ⟨A, hA⟩ : ∃ A, A = stdA := ⟨_, rfl⟩
  with_reducible refine runS hA hd hQ 200 ?hk ?_
  case hk => exact trivial
  conv => arg 9; cbv
  try simp only [OK]
  repeat' first | ((with_reducible refine ⟨fun hbr => ?_, fun hbr => ?_⟩) <;> (try simp (disch := omega) only [hA, OK, emaU, Int.reduceToNat, s_bat, reduceCtorEq] at hbr) <;> (try (with_reducible exfalso; omega))) | ((with_reducible refine runK hA hd hQ 200 ?hk ?_); (case hk => exact trivial); (conv => arg 9; cbv); (try simp only [OK])) | ((with_reducible refine need_of ?hn ?_); (case hn => ((simp (disch := omega) only [hA, OK, emaU, Int.reduceToNat, s_bat]) <;> omega))) | fail
  all_goals try
    first
    | (refine CallOK.of (goodF_of F25_ok) (Tri.mono (reckon_ok _ _) fun v hh hx => ?_))
    | (refine CallOK.of (goodF_of F30_ok) (Tri.mono (compare_ok _ _) fun v hh hx => ?_))
    | (refine CallOK.of (goodF_of F32_ok) (Tri.mono (joined_ok _ _) fun v hh hx => ?_))
    | (refine CallOK.of (goodF_of F48_ok) (Tri.mono (found_ok _ _) fun v hh hx => ?_))
    obtain ⟨⟨g, hv⟩, hh'⟩ := hx
    subst hv; subst hh'
    with_reducible refine runK hA hd hQ 1 ?hk ?_
    case hk => exact trivial
    conv => arg 9; cbv
    try simp only [OK]
    repeat' first | ((with_reducible refine ⟨fun hbr => ?_, fun hbr => ?_⟩) <;> (try simp (disch := omega) only [hA, OK, emaU, Int.reduceToNat, s_bat, reduceCtorEq] at hbr) <;> (try (with_reducible exfalso; omega))) | ((with_reducible refine runK hA hd hQ 200 ?hk ?_); (case hk => exact trivial); (conv => arg 9; cbv); (try simp only [OK])) | ((with_reducible refine need_of ?hn ?_); (case hn => ((simp (disch := omega) only [hA, OK, emaU, Int.reduceToNat, s_bat]) <;> omega))) | fail
  all_goals refine FinR.intro rfl ?_
  all_goals first
    | (refine ⟨_, _, _, ?cl, .inl ⟨by omega, by omega, rfl⟩⟩; (case cl => exact rfl))
    | (refine ⟨_, _, _, ?cl, .inr (.inl ⟨by omega, rfl⟩)⟩; (case cl => exact rfl))
    | (refine ⟨_, _, _, ?cl, .inr (.inr (.inl ⟨by omega, rfl⟩))⟩; (case cl => exact rfl))
    | (refine ⟨_, _, _, ?cl, .inr (.inr (.inr (.inl ⟨by omega, by omega, rfl⟩)))⟩; (case cl => exact rfl))
    | (refine ⟨_, _, _, ?cl, .inr (.inr (.inr (.inr (.inl ⟨by omega, rfl⟩))))⟩; (case cl => exact rfl))
    | (refine ⟨_, _, _, ?cl, .inr (.inr (.inr (.inr (.inr (.inl ⟨by omega, rfl⟩)))))⟩; (case cl => exact rfl))
    | (refine ⟨_, _, _, ?cl, .inr (.inr (.inr (.inr (.inr (.inr (.inl ⟨by omega, rfl⟩))))))⟩; (case cl => exact rfl))
    | (refine ⟨_, _, _, ?cl, .inr (.inr (.inr (.inr (.inr (.inr (.inr (.inl ⟨by omega, rfl⟩)))))))⟩; (case cl => exact rfl))
    | (refine ⟨_, _, _, ?cl, .inr (.inr (.inr (.inr (.inr (.inr (.inr (.inr (.inl ⟨by omega, rfl⟩))))))))⟩; (case cl => exact rfl))
    | (refine ⟨_, _, _, ?cl, .inr (.inr (.inr (.inr (.inr (.inr (.inr (.inr (.inr (.inl ⟨by omega, rfl⟩)))))))))⟩; (case cl => exact rfl))
    | (refine ⟨_, _, _, ?cl, .inr (.inr (.inr (.inr (.inr (.inr (.inr (.inr (.inr (.inr (.inl ⟨by omega, rfl⟩))))))))))⟩; (case cl => exact rfl))
    | (refine ⟨_, _, _, ?cl, .inr (.inr (.inr (.inr (.inr (.inr (.inr (.inr (.inr (.inr (.inr (.inl ⟨by omega, rfl⟩)))))))))))⟩; (case cl => exact rfl))
    | (refine ⟨false, 0, [], ?cl, .inr (.inr (.inr (.inr (.inr (.inr (.inr (.inr (.inr (.inr (.inr (.inr ⟨by omega, rfl⟩)))))))))))⟩; (case cl => exact rfl))
    | trace_state
end Go.Proofs.YtmckingimnhoaaaGreatDoor.Stats
