/- Pr29: turns: ten answers keep their marks. No conditions beyond those written. -/
import Derived.Test.YtplibngmgebigaaPr27
-- emaT
set_option linter.unusedVariables false
set_option linter.unusedSimpArgs false
namespace Go.Proofs.Ytplibngmgebigaa.Press
open Go Go.Proofs.Ytplibngmgebigaa Go.Proofs.Ytplibngmgebigaa.Em

set_option maxHeartbeats 8000000 in
theorem turns_ne (how : Int) (hh : 0 ≤ how ∧ how ≤ 2) (b : List Nat) (hb : AllB b) (hl : b.length ≤ 65536) (hne : b ≠ []) (r : List Nat) (hrr : r = (packL how b).1) (S : ByteArray) (hS : S = strE r) :
    Tri Try.prog [] 19 [.lit (.int .i64 how), .lit (.string S), isB b] [] fun v h => v = .lit (.bool true) := by
  refine Tri_of F19_ok fun I0 ρ0 w0 Q hρ hQ => ?_
  obtain ⟨A, hA⟩ : ∃ A, A = stdA := ⟨_, rfl⟩
  obtain ⟨N, c, hi, hN, hc⟩ := isB_open b
  obtain ⟨rn, rc, hri, hrn, hrc⟩ := isB_open r
  have hrne : r ≠ [] := hrr ▸ pack_ne how hh b hb hl hne
  have hra : AllB r := hrr ▸ pack_all how b hb
  have hrl : rn ≤ 1000000 := by
    have := pack_bound how b hb
    rw [← hrr] at this; omega
  have tP := packP_own how b hb (by omega)
  rw [pack_zero how hh b hl, ← hrr, hi] at tP
  have tU := unpackP_own how r hra (by omega) (A.ofn N)
  rw [show unL how r (A.ofn N) = (b, 0) by rw [hrr]; exact un_pack how hh b hb hl _ (by rw [hA, s_ofn, hN]), hri] at tU
  have hroom : A.room (A.bsz S) 1 = true := by rw [hA, hS, bsz_str, s_room]; omega
  have henc : A.enc S = rc := by rw [hA, hS, hrc]; exact enc_str hra
  have hbsz : A.bsz S = rn := by rw [hA, hS, hrn]; exact bsz_str r
  have hby1 : A.byt rn (A.drp 0 rc) = true := by rw [hA, s_drp, List.drop_zero, hrc, hrn]; exact byt_ok hra (Nat.le_refl _)
  have hby2 : A.byt N (A.drp 0 c) = true := by rw [hA, s_drp, List.drop_zero, hc, hN]; exact byt_ok hb (Nat.le_refl _)
  have hby3 : A.byt N c = true := by rw [hA, hc, hN]; exact byt_ok hb (Nat.le_refl _)
  have hs1 : A.ss .neq (A.dec (A.tak rn (A.drp 0 rc))) S = false := by
    rw [hA, s_drp, List.drop_zero, s_tak, hrc, hrn, bytesE_take, List.take_length, dec_bytes, hS, ss_neq hra hra]; simp
  have hs2 : A.ss .neq (A.dec (A.tak N (A.drp 0 c))) (A.dec (A.tak N c)) = false := by
    rw [hA, s_drp, List.drop_zero, s_tak, hc, hN, bytesE_take, List.take_length, dec_bytes, ss_neq hb hb]; simp
  have he0 : A.ic .neq 0 0 = false := by rw [hA, s_neq]; rfl
  rw [hi]
  with_reducible refine runS hA hd hQ 60 ?hk ?_
  case hk => exact trivial
  conv => arg 8; cbv
  try simp only [OK]
  refine OKs.mask (msk 111 [0, 1, 2, 7, 8]) ?_
  refine OKs.loop (fun s => (∃ x : Int, s = ⟨mkT 111 [(0, .lit (.int .i64 how)), (1, .lit (.string S)), (2, .isl N none c), (7, .sl 1 0 0 0 (some 0)), (8, .lit (.int .i64 x))], [.blk []]⟩ ∧ x = 0) ∨ (∃ (x : Int) (m : Nat) (Lc q1 q2 : List EV), s = ⟨mkT 111 [(0, .lit (.int .i64 how)), (1, .lit (.string S)), (2, .isl N none c), (7, .sl 1 0 0 m none), (8, .lit (.int .i64 x))], [.blk Lc, .blk q1, .blk q2]⟩ ∧ x = 1 ∧ m = 2 ∧ Lc = [.sl 1 1 0 rn none, .sl 1 2 0 N none] ∧ q1 = bytesE r ∧ q2 = bytesE b) ∨ (∃ (x : Int) (m : Nat) (Lc q1 q2 q3 q4 : List EV), s = ⟨mkT 111 [(0, .lit (.int .i64 how)), (1, .lit (.string S)), (2, .isl N none c), (7, .sl 1 0 0 m none), (8, .lit (.int .i64 x))], [.blk Lc, .blk q1, .blk q2, .blk q3, .blk q4]⟩ ∧ x = 2 ∧ m = 4 ∧ Lc = [.sl 1 1 0 rn none, .sl 1 2 0 N none, .sl 1 3 0 rn none, .sl 1 4 0 N none] ∧ q1 = bytesE r ∧ q2 = bytesE b ∧ q3 = bytesE r ∧ q4 = bytesE b) ∨ (∃ (x : Int) (m : Nat) (Lc q1 q2 q3 q4 q5 q6 : List EV), s = ⟨mkT 111 [(0, .lit (.int .i64 how)), (1, .lit (.string S)), (2, .isl N none c), (7, .sl 1 0 0 m none), (8, .lit (.int .i64 x))], [.blk Lc, .blk q1, .blk q2, .blk q3, .blk q4, .blk q5, .blk q6]⟩ ∧ x = 3 ∧ m = 6 ∧ Lc = [.sl 1 1 0 rn none, .sl 1 2 0 N none, .sl 1 3 0 rn none, .sl 1 4 0 N none, .sl 1 5 0 rn none, .sl 1 6 0 N none] ∧ q1 = bytesE r ∧ q2 = bytesE b ∧ q3 = bytesE r ∧ q4 = bytesE b ∧ q5 = bytesE r ∧ q6 = bytesE b) ∨ (∃ (x : Int) (m : Nat) (Lc q1 q2 q3 q4 q5 q6 q7 q8 : List EV), s = ⟨mkT 111 [(0, .lit (.int .i64 how)), (1, .lit (.string S)), (2, .isl N none c), (7, .sl 1 0 0 m none), (8, .lit (.int .i64 x))], [.blk Lc, .blk q1, .blk q2, .blk q3, .blk q4, .blk q5, .blk q6, .blk q7, .blk q8]⟩ ∧ x = 4 ∧ m = 8 ∧ Lc = [.sl 1 1 0 rn none, .sl 1 2 0 N none, .sl 1 3 0 rn none, .sl 1 4 0 N none, .sl 1 5 0 rn none, .sl 1 6 0 N none, .sl 1 7 0 rn none, .sl 1 8 0 N none] ∧ q1 = bytesE r ∧ q2 = bytesE b ∧ q3 = bytesE r ∧ q4 = bytesE b ∧ q5 = bytesE r ∧ q6 = bytesE b ∧ q7 = bytesE r ∧ q8 = bytesE b) ∨ (∃ (x : Int) (m : Nat) (Lc q1 q2 q3 q4 q5 q6 q7 q8 q9 q10 : List EV), s = ⟨mkT 111 [(0, .lit (.int .i64 how)), (1, .lit (.string S)), (2, .isl N none c), (7, .sl 1 0 0 m none), (8, .lit (.int .i64 x))], [.blk Lc, .blk q1, .blk q2, .blk q3, .blk q4, .blk q5, .blk q6, .blk q7, .blk q8, .blk q9, .blk q10]⟩ ∧ x = 5 ∧ m = 10 ∧ Lc = [.sl 1 1 0 rn none, .sl 1 2 0 N none, .sl 1 3 0 rn none, .sl 1 4 0 N none, .sl 1 5 0 rn none, .sl 1 6 0 N none, .sl 1 7 0 rn none, .sl 1 8 0 N none, .sl 1 9 0 rn none, .sl 1 10 0 N none] ∧ q1 = bytesE r ∧ q2 = bytesE b ∧ q3 = bytesE r ∧ q4 = bytesE b ∧ q5 = bytesE r ∧ q6 = bytesE b ∧ q7 = bytesE r ∧ q8 = bytesE b ∧ q9 = bytesE r ∧ q10 = bytesE b)) (fun s => (5 - intN (getT s.t 8)).toNat) (fun s hs ih => ?_)
    (.inl ⟨0, rfl, rfl⟩)
  rcases hs with hs | hs | hs | hs | hs | hs
  · obtain ⟨x, rfl, hx⟩ := hs
    with_reducible refine runS hA hd hQ 60 ?hk ?_
    case hk => exact trivial
    conv => arg 8; cbv
    try simp only [OK]
    refine ⟨fun h1 => ?_, fun h1 => ?_⟩
    rotate_left
    · with_reducible exfalso; (simp (disch := omega) only [hA, OK, emaT, reduceCtorEq, not_true_eq_false, not_false_eq_true] at h1 <;> omega)
    with_reducible refine runK hA hd hQ 60 ?hk ?_
    case hk => exact trivial
    conv => arg 8; cbv
    try simp only [OK]
    refine ⟨goodF_of F17_ok, (Tri.cleanO rfl rfl rfl tP).mono fun v h' hx2 => ?_⟩
    rcases hx2 with hx2 | ⟨_, hv, hh2⟩
    · exact absurd hx2.1 hrne
    rw [← hrn] at hv; rw [← hrc] at hh2
    subst hv; subst hh2
    with_reducible refine runK hA hd hQ 60 ?hk ?_
    case hk => exact trivial
    conv => arg 8; cbv
    try simp only [OK]
    refine ⟨hroom, goodF_of F14_ok, (Tri.lendO [2] (fun id hid => ?_) (fun w I ρ vs hr => ?_) rfl rfl tU).mono fun v h' hx2 => ?_⟩
    · simp at hid; subst hid
      exact ⟨_, rfl, by show clL (A.enc S) = true; rw [henc, hrc]; exact clL_bytes _⟩
    · match vs, hr with
      | [v1, v2, v3], hr =>
        have h2 : Rep w I ρ (.isl (A.bsz S) none ((A.enc S).drop 0)) v2 := hr.2.1
        rw [hbsz, henc, List.drop_zero] at h2
        exact ⟨hr.1, h2, hr.2.2.1, trivial⟩
    rcases hx2 with hx2 | ⟨_, hv, hh2⟩
    · exact absurd hx2.1 hne
    rw [← hN] at hv; rw [← hc] at hh2
    subst hv; subst hh2
    with_reducible refine runK hA hd hQ 60 ?hk ?_
    case hk => exact trivial
    conv => arg 8; cbv
    try simp only [OK]
    refine ⟨fun hbx => ?_, fun hbx => ?_⟩
    · with_reducible exfalso; exact Bool.noConfusion (hbx.symm.trans (he0))
    with_reducible refine runK hA hd hQ 60 ?hk ?_
    case hk => exact trivial
    conv => arg 8; cbv
    try simp only [OK]
    refine ⟨fun hbx => ?_, fun hbx => ?_⟩
    · with_reducible exfalso; exact Bool.noConfusion (hbx.symm.trans (he0))
    with_reducible refine runK hA hd hQ 60 ?hk ?_
    case hk => exact trivial
    conv => arg 8; cbv
    try simp only [OK]
    refine ⟨hby1, ?_⟩
    refine ⟨fun hbx => ?_, fun hbx => ?_⟩
    · with_reducible exfalso; exact Bool.noConfusion (hbx.symm.trans (hs1))
    with_reducible refine runK hA hd hQ 60 ?hk ?_
    case hk => exact trivial
    conv => arg 8; cbv
    try simp only [OK]
    refine ⟨hby2, hby3, ?_⟩
    refine ⟨fun hbx => ?_, fun hbx => ?_⟩
    · with_reducible exfalso; exact Bool.noConfusion (hbx.symm.trans (hs2))
    with_reducible refine runK hA hd hQ 60 ?hk ?_
    case hk => exact trivial
    conv => arg 8; cbv
    try simp only [OK]
    refine ⟨by simp (disch := omega) only [hA, OK, emaT] <;> omega, by simp (disch := omega) only [hA, OK, emaT] <;> omega, by simp (disch := omega) only [hA, OK, emaT] <;> omega, by simp (disch := omega) only [hA, OK, emaT] <;> omega, fun h3 => absurd h3 (by simp (disch := omega) only [hA, OK, emaT] <;> omega), fun h3 => ?_⟩
    with_reducible refine runK hA hd hQ 60 ?hk ?_
    case hk => exact trivial
    conv => arg 8; cbv
    try simp only [OK]
    refine OKs.mask (msk 111 [0, 1, 2, 7, 8]) (OKs.mv [5, 1, 3] [] (by rw [hρ]; rfl) ⟨by simp, by simp [sizeH], by simp⟩ ?_)
    have hx3 : A.ib .add .i64 x 1 = 1 := by simp (disch := omega) only [hA, OK, emaT] <;> omega
    refine ih _ (.inr (.inl (⟨A.ib .add .i64 x 1, _, _, _, _, rfl, hx3, ?_, ?_, (by rw [hrc]; exact mvL_bytes _ _ _), (by rw [hc]; exact mvL_bytes _ _ _)⟩))) (show (5 - A.ib .add .i64 x 1).toNat < (5 - x).toNat from ?_)
    · subst hA; rfl
    · subst hA; rfl
    · omega
  · obtain ⟨x, m, Lc, q1, q2, rfl, hx, hm, hLc, hq1, hq2⟩ := hs
    with_reducible refine runS hA hd hQ 60 ?hk ?_
    case hk => exact trivial
    conv => arg 8; cbv
    try simp only [OK]
    refine ⟨fun h1 => ?_, fun h1 => ?_⟩
    rotate_left
    · with_reducible exfalso; (simp (disch := omega) only [hA, OK, emaT, reduceCtorEq, not_true_eq_false, not_false_eq_true] at h1 <;> omega)
    with_reducible refine runK hA hd hQ 60 ?hk ?_
    case hk => exact trivial
    conv => arg 8; cbv
    try simp only [OK]
    refine ⟨goodF_of F17_ok, (Tri.cleanO rfl rfl rfl tP).mono fun v h' hx2 => ?_⟩
    rcases hx2 with hx2 | ⟨_, hv, hh2⟩
    · exact absurd hx2.1 hrne
    rw [← hrn] at hv; rw [← hrc] at hh2
    subst hv; subst hh2
    with_reducible refine runK hA hd hQ 60 ?hk ?_
    case hk => exact trivial
    conv => arg 8; cbv
    try simp only [OK]
    refine ⟨hroom, goodF_of F14_ok, (Tri.lendO [4] (fun id hid => ?_) (fun w I ρ vs hr => ?_) rfl rfl tU).mono fun v h' hx2 => ?_⟩
    · simp at hid; subst hid
      exact ⟨_, rfl, by show clL (A.enc S) = true; rw [henc, hrc]; exact clL_bytes _⟩
    · match vs, hr with
      | [v1, v2, v3], hr =>
        have h2 : Rep w I ρ (.isl (A.bsz S) none ((A.enc S).drop 0)) v2 := hr.2.1
        rw [hbsz, henc, List.drop_zero] at h2
        exact ⟨hr.1, h2, hr.2.2.1, trivial⟩
    rcases hx2 with hx2 | ⟨_, hv, hh2⟩
    · exact absurd hx2.1 hne
    rw [← hN] at hv; rw [← hc] at hh2
    subst hv; subst hh2
    with_reducible refine runK hA hd hQ 60 ?hk ?_
    case hk => exact trivial
    conv => arg 8; cbv
    try simp only [OK]
    refine ⟨fun hbx => ?_, fun hbx => ?_⟩
    · with_reducible exfalso; exact Bool.noConfusion (hbx.symm.trans (he0))
    with_reducible refine runK hA hd hQ 60 ?hk ?_
    case hk => exact trivial
    conv => arg 8; cbv
    try simp only [OK]
    refine ⟨fun hbx => ?_, fun hbx => ?_⟩
    · with_reducible exfalso; exact Bool.noConfusion (hbx.symm.trans (he0))
    with_reducible refine runK hA hd hQ 60 ?hk ?_
    case hk => exact trivial
    conv => arg 8; cbv
    try simp only [OK]
    refine ⟨hby1, ?_⟩
    refine ⟨fun hbx => ?_, fun hbx => ?_⟩
    · with_reducible exfalso; exact Bool.noConfusion (hbx.symm.trans (hs1))
    with_reducible refine runK hA hd hQ 60 ?hk ?_
    case hk => exact trivial
    conv => arg 8; cbv
    try simp only [OK]
    refine ⟨hby2, hby3, ?_⟩
    refine ⟨fun hbx => ?_, fun hbx => ?_⟩
    · with_reducible exfalso; exact Bool.noConfusion (hbx.symm.trans (hs2))
    with_reducible refine runK hA hd hQ 60 ?hk ?_
    case hk => exact trivial
    conv => arg 8; cbv
    try simp only [OK]
    refine ⟨by simp (disch := omega) only [hA, OK, emaT] <;> omega, by (simp (disch := omega) only [hA, OK, emaT] <;> (rw [hLc, hm]; simp)), by simp (disch := omega) only [hA, OK, emaT] <;> omega, ?_⟩
    refine OKs.mask (msk 111 [0, 1, 2, 7, 8]) (OKs.mv [7, 1, 2, 3, 5] [] (by rw [hρ]; rfl) ⟨by simp, by simp [sizeH], by simp⟩ ?_)
    have hx3 : A.ib .add .i64 x 1 = 2 := by simp (disch := omega) only [hA, OK, emaT] <;> omega
    refine ih _ (.inr (.inr (.inl (⟨A.ib .add .i64 x 1, _, _, _, _, _, _, rfl, hx3, ?_, ?_, (by rw [hq1]; exact mvL_bytes _ _ _), (by rw [hq2]; exact mvL_bytes _ _ _), (by rw [hrc]; exact mvL_bytes _ _ _), (by rw [hc]; exact mvL_bytes _ _ _)⟩)))) (show (5 - A.ib .add .i64 x 1).toNat < (5 - x).toNat from ?_)
    · subst hA; subst hm; subst hLc; rfl
    · subst hA; subst hm; subst hLc; rfl
    · omega
  · obtain ⟨x, m, Lc, q1, q2, q3, q4, rfl, hx, hm, hLc, hq1, hq2, hq3, hq4⟩ := hs
    with_reducible refine runS hA hd hQ 60 ?hk ?_
    case hk => exact trivial
    conv => arg 8; cbv
    try simp only [OK]
    refine ⟨fun h1 => ?_, fun h1 => ?_⟩
    rotate_left
    · with_reducible exfalso; (simp (disch := omega) only [hA, OK, emaT, reduceCtorEq, not_true_eq_false, not_false_eq_true] at h1 <;> omega)
    with_reducible refine runK hA hd hQ 60 ?hk ?_
    case hk => exact trivial
    conv => arg 8; cbv
    try simp only [OK]
    refine ⟨goodF_of F17_ok, (Tri.cleanO rfl rfl rfl tP).mono fun v h' hx2 => ?_⟩
    rcases hx2 with hx2 | ⟨_, hv, hh2⟩
    · exact absurd hx2.1 hrne
    rw [← hrn] at hv; rw [← hrc] at hh2
    subst hv; subst hh2
    with_reducible refine runK hA hd hQ 60 ?hk ?_
    case hk => exact trivial
    conv => arg 8; cbv
    try simp only [OK]
    refine ⟨hroom, goodF_of F14_ok, (Tri.lendO [6] (fun id hid => ?_) (fun w I ρ vs hr => ?_) rfl rfl tU).mono fun v h' hx2 => ?_⟩
    · simp at hid; subst hid
      exact ⟨_, rfl, by show clL (A.enc S) = true; rw [henc, hrc]; exact clL_bytes _⟩
    · match vs, hr with
      | [v1, v2, v3], hr =>
        have h2 : Rep w I ρ (.isl (A.bsz S) none ((A.enc S).drop 0)) v2 := hr.2.1
        rw [hbsz, henc, List.drop_zero] at h2
        exact ⟨hr.1, h2, hr.2.2.1, trivial⟩
    rcases hx2 with hx2 | ⟨_, hv, hh2⟩
    · exact absurd hx2.1 hne
    rw [← hN] at hv; rw [← hc] at hh2
    subst hv; subst hh2
    with_reducible refine runK hA hd hQ 60 ?hk ?_
    case hk => exact trivial
    conv => arg 8; cbv
    try simp only [OK]
    refine ⟨fun hbx => ?_, fun hbx => ?_⟩
    · with_reducible exfalso; exact Bool.noConfusion (hbx.symm.trans (he0))
    with_reducible refine runK hA hd hQ 60 ?hk ?_
    case hk => exact trivial
    conv => arg 8; cbv
    try simp only [OK]
    refine ⟨fun hbx => ?_, fun hbx => ?_⟩
    · with_reducible exfalso; exact Bool.noConfusion (hbx.symm.trans (he0))
    with_reducible refine runK hA hd hQ 60 ?hk ?_
    case hk => exact trivial
    conv => arg 8; cbv
    try simp only [OK]
    refine ⟨hby1, ?_⟩
    refine ⟨fun hbx => ?_, fun hbx => ?_⟩
    · with_reducible exfalso; exact Bool.noConfusion (hbx.symm.trans (hs1))
    with_reducible refine runK hA hd hQ 60 ?hk ?_
    case hk => exact trivial
    conv => arg 8; cbv
    try simp only [OK]
    refine ⟨hby2, hby3, ?_⟩
    refine ⟨fun hbx => ?_, fun hbx => ?_⟩
    · with_reducible exfalso; exact Bool.noConfusion (hbx.symm.trans (hs2))
    with_reducible refine runK hA hd hQ 60 ?hk ?_
    case hk => exact trivial
    conv => arg 8; cbv
    try simp only [OK]
    refine ⟨by simp (disch := omega) only [hA, OK, emaT] <;> omega, by (simp (disch := omega) only [hA, OK, emaT] <;> (rw [hLc, hm]; simp)), by simp (disch := omega) only [hA, OK, emaT] <;> omega, ?_⟩
    refine OKs.mask (msk 111 [0, 1, 2, 7, 8]) (OKs.mv [9, 1, 2, 3, 4, 5, 7] [] (by rw [hρ]; rfl) ⟨by simp, by simp [sizeH], by simp⟩ ?_)
    have hx3 : A.ib .add .i64 x 1 = 3 := by simp (disch := omega) only [hA, OK, emaT] <;> omega
    refine ih _ (.inr (.inr (.inr (.inl (⟨A.ib .add .i64 x 1, _, _, _, _, _, _, _, _, rfl, hx3, ?_, ?_, (by rw [hq1]; exact mvL_bytes _ _ _), (by rw [hq2]; exact mvL_bytes _ _ _), (by rw [hq3]; exact mvL_bytes _ _ _), (by rw [hq4]; exact mvL_bytes _ _ _), (by rw [hrc]; exact mvL_bytes _ _ _), (by rw [hc]; exact mvL_bytes _ _ _)⟩))))) (show (5 - A.ib .add .i64 x 1).toNat < (5 - x).toNat from ?_)
    · subst hA; subst hm; subst hLc; rfl
    · subst hA; subst hm; subst hLc; rfl
    · omega
  · obtain ⟨x, m, Lc, q1, q2, q3, q4, q5, q6, rfl, hx, hm, hLc, hq1, hq2, hq3, hq4, hq5, hq6⟩ := hs
    with_reducible refine runS hA hd hQ 60 ?hk ?_
    case hk => exact trivial
    conv => arg 8; cbv
    try simp only [OK]
    refine ⟨fun h1 => ?_, fun h1 => ?_⟩
    rotate_left
    · with_reducible exfalso; (simp (disch := omega) only [hA, OK, emaT, reduceCtorEq, not_true_eq_false, not_false_eq_true] at h1 <;> omega)
    with_reducible refine runK hA hd hQ 60 ?hk ?_
    case hk => exact trivial
    conv => arg 8; cbv
    try simp only [OK]
    refine ⟨goodF_of F17_ok, (Tri.cleanO rfl rfl rfl tP).mono fun v h' hx2 => ?_⟩
    rcases hx2 with hx2 | ⟨_, hv, hh2⟩
    · exact absurd hx2.1 hrne
    rw [← hrn] at hv; rw [← hrc] at hh2
    subst hv; subst hh2
    with_reducible refine runK hA hd hQ 60 ?hk ?_
    case hk => exact trivial
    conv => arg 8; cbv
    try simp only [OK]
    refine ⟨hroom, goodF_of F14_ok, (Tri.lendO [8] (fun id hid => ?_) (fun w I ρ vs hr => ?_) rfl rfl tU).mono fun v h' hx2 => ?_⟩
    · simp at hid; subst hid
      exact ⟨_, rfl, by show clL (A.enc S) = true; rw [henc, hrc]; exact clL_bytes _⟩
    · match vs, hr with
      | [v1, v2, v3], hr =>
        have h2 : Rep w I ρ (.isl (A.bsz S) none ((A.enc S).drop 0)) v2 := hr.2.1
        rw [hbsz, henc, List.drop_zero] at h2
        exact ⟨hr.1, h2, hr.2.2.1, trivial⟩
    rcases hx2 with hx2 | ⟨_, hv, hh2⟩
    · exact absurd hx2.1 hne
    rw [← hN] at hv; rw [← hc] at hh2
    subst hv; subst hh2
    with_reducible refine runK hA hd hQ 60 ?hk ?_
    case hk => exact trivial
    conv => arg 8; cbv
    try simp only [OK]
    refine ⟨fun hbx => ?_, fun hbx => ?_⟩
    · with_reducible exfalso; exact Bool.noConfusion (hbx.symm.trans (he0))
    with_reducible refine runK hA hd hQ 60 ?hk ?_
    case hk => exact trivial
    conv => arg 8; cbv
    try simp only [OK]
    refine ⟨fun hbx => ?_, fun hbx => ?_⟩
    · with_reducible exfalso; exact Bool.noConfusion (hbx.symm.trans (he0))
    with_reducible refine runK hA hd hQ 60 ?hk ?_
    case hk => exact trivial
    conv => arg 8; cbv
    try simp only [OK]
    refine ⟨hby1, ?_⟩
    refine ⟨fun hbx => ?_, fun hbx => ?_⟩
    · with_reducible exfalso; exact Bool.noConfusion (hbx.symm.trans (hs1))
    with_reducible refine runK hA hd hQ 60 ?hk ?_
    case hk => exact trivial
    conv => arg 8; cbv
    try simp only [OK]
    refine ⟨hby2, hby3, ?_⟩
    refine ⟨fun hbx => ?_, fun hbx => ?_⟩
    · with_reducible exfalso; exact Bool.noConfusion (hbx.symm.trans (hs2))
    with_reducible refine runK hA hd hQ 60 ?hk ?_
    case hk => exact trivial
    conv => arg 8; cbv
    try simp only [OK]
    refine ⟨by simp (disch := omega) only [hA, OK, emaT] <;> omega, by (simp (disch := omega) only [hA, OK, emaT] <;> (rw [hLc, hm]; simp)), by simp (disch := omega) only [hA, OK, emaT] <;> omega, ?_⟩
    refine OKs.mask (msk 111 [0, 1, 2, 7, 8]) (OKs.mv [11, 1, 2, 3, 4, 5, 6, 7, 9] [] (by rw [hρ]; rfl) ⟨by simp, by simp [sizeH], by simp⟩ ?_)
    have hx3 : A.ib .add .i64 x 1 = 4 := by simp (disch := omega) only [hA, OK, emaT] <;> omega
    refine ih _ (.inr (.inr (.inr (.inr (.inl (⟨A.ib .add .i64 x 1, _, _, _, _, _, _, _, _, _, _, rfl, hx3, ?_, ?_, (by rw [hq1]; exact mvL_bytes _ _ _), (by rw [hq2]; exact mvL_bytes _ _ _), (by rw [hq3]; exact mvL_bytes _ _ _), (by rw [hq4]; exact mvL_bytes _ _ _), (by rw [hq5]; exact mvL_bytes _ _ _), (by rw [hq6]; exact mvL_bytes _ _ _), (by rw [hrc]; exact mvL_bytes _ _ _), (by rw [hc]; exact mvL_bytes _ _ _)⟩)))))) (show (5 - A.ib .add .i64 x 1).toNat < (5 - x).toNat from ?_)
    · subst hA; subst hm; subst hLc; rfl
    · subst hA; subst hm; subst hLc; rfl
    · omega
  · obtain ⟨x, m, Lc, q1, q2, q3, q4, q5, q6, q7, q8, rfl, hx, hm, hLc, hq1, hq2, hq3, hq4, hq5, hq6, hq7, hq8⟩ := hs
    with_reducible refine runS hA hd hQ 60 ?hk ?_
    case hk => exact trivial
    conv => arg 8; cbv
    try simp only [OK]
    refine ⟨fun h1 => ?_, fun h1 => ?_⟩
    rotate_left
    · with_reducible exfalso; (simp (disch := omega) only [hA, OK, emaT, reduceCtorEq, not_true_eq_false, not_false_eq_true] at h1 <;> omega)
    with_reducible refine runK hA hd hQ 60 ?hk ?_
    case hk => exact trivial
    conv => arg 8; cbv
    try simp only [OK]
    refine ⟨goodF_of F17_ok, (Tri.cleanO rfl rfl rfl tP).mono fun v h' hx2 => ?_⟩
    rcases hx2 with hx2 | ⟨_, hv, hh2⟩
    · exact absurd hx2.1 hrne
    rw [← hrn] at hv; rw [← hrc] at hh2
    subst hv; subst hh2
    with_reducible refine runK hA hd hQ 60 ?hk ?_
    case hk => exact trivial
    conv => arg 8; cbv
    try simp only [OK]
    refine ⟨hroom, goodF_of F14_ok, (Tri.lendO [10] (fun id hid => ?_) (fun w I ρ vs hr => ?_) rfl rfl tU).mono fun v h' hx2 => ?_⟩
    · simp at hid; subst hid
      exact ⟨_, rfl, by show clL (A.enc S) = true; rw [henc, hrc]; exact clL_bytes _⟩
    · match vs, hr with
      | [v1, v2, v3], hr =>
        have h2 : Rep w I ρ (.isl (A.bsz S) none ((A.enc S).drop 0)) v2 := hr.2.1
        rw [hbsz, henc, List.drop_zero] at h2
        exact ⟨hr.1, h2, hr.2.2.1, trivial⟩
    rcases hx2 with hx2 | ⟨_, hv, hh2⟩
    · exact absurd hx2.1 hne
    rw [← hN] at hv; rw [← hc] at hh2
    subst hv; subst hh2
    with_reducible refine runK hA hd hQ 60 ?hk ?_
    case hk => exact trivial
    conv => arg 8; cbv
    try simp only [OK]
    refine ⟨fun hbx => ?_, fun hbx => ?_⟩
    · with_reducible exfalso; exact Bool.noConfusion (hbx.symm.trans (he0))
    with_reducible refine runK hA hd hQ 60 ?hk ?_
    case hk => exact trivial
    conv => arg 8; cbv
    try simp only [OK]
    refine ⟨fun hbx => ?_, fun hbx => ?_⟩
    · with_reducible exfalso; exact Bool.noConfusion (hbx.symm.trans (he0))
    with_reducible refine runK hA hd hQ 60 ?hk ?_
    case hk => exact trivial
    conv => arg 8; cbv
    try simp only [OK]
    refine ⟨hby1, ?_⟩
    refine ⟨fun hbx => ?_, fun hbx => ?_⟩
    · with_reducible exfalso; exact Bool.noConfusion (hbx.symm.trans (hs1))
    with_reducible refine runK hA hd hQ 60 ?hk ?_
    case hk => exact trivial
    conv => arg 8; cbv
    try simp only [OK]
    refine ⟨hby2, hby3, ?_⟩
    refine ⟨fun hbx => ?_, fun hbx => ?_⟩
    · with_reducible exfalso; exact Bool.noConfusion (hbx.symm.trans (hs2))
    with_reducible refine runK hA hd hQ 60 ?hk ?_
    case hk => exact trivial
    conv => arg 8; cbv
    try simp only [OK]
    refine ⟨by simp (disch := omega) only [hA, OK, emaT] <;> omega, by (simp (disch := omega) only [hA, OK, emaT] <;> (rw [hLc, hm]; simp)), by simp (disch := omega) only [hA, OK, emaT] <;> omega, ?_⟩
    refine OKs.mask (msk 111 [0, 1, 2, 7, 8]) (OKs.mv [13, 1, 2, 3, 4, 5, 6, 7, 8, 9, 11] [] (by rw [hρ]; rfl) ⟨by simp, by simp [sizeH], by simp⟩ ?_)
    have hx3 : A.ib .add .i64 x 1 = 5 := by simp (disch := omega) only [hA, OK, emaT] <;> omega
    refine ih _ (.inr (.inr (.inr (.inr (.inr (⟨A.ib .add .i64 x 1, _, _, _, _, _, _, _, _, _, _, _, _, rfl, hx3, ?_, ?_, (by rw [hq1]; exact mvL_bytes _ _ _), (by rw [hq2]; exact mvL_bytes _ _ _), (by rw [hq3]; exact mvL_bytes _ _ _), (by rw [hq4]; exact mvL_bytes _ _ _), (by rw [hq5]; exact mvL_bytes _ _ _), (by rw [hq6]; exact mvL_bytes _ _ _), (by rw [hq7]; exact mvL_bytes _ _ _), (by rw [hq8]; exact mvL_bytes _ _ _), (by rw [hrc]; exact mvL_bytes _ _ _), (by rw [hc]; exact mvL_bytes _ _ _)⟩)))))) (show (5 - A.ib .add .i64 x 1).toNat < (5 - x).toNat from ?_)
    · subst hA; subst hm; subst hLc; rfl
    · subst hA; subst hm; subst hLc; rfl
    · omega
  · obtain ⟨x, m, Lc, q1, q2, q3, q4, q5, q6, q7, q8, q9, q10, rfl, hx, hm, hLc, hq1, hq2, hq3, hq4, hq5, hq6, hq7, hq8, hq9, hq10⟩ := hs
    with_reducible refine runS hA hd hQ 60 ?hk ?_
    case hk => exact trivial
    conv => arg 8; cbv
    try simp only [OK]
    refine ⟨fun h1 => ?_, fun h1 => ?_⟩
    · with_reducible exfalso; (simp (disch := omega) only [hA, OK, emaT, reduceCtorEq, not_true_eq_false, not_false_eq_true] at h1 <;> omega)
    clear ih
    with_reducible refine runK hA hd hQ 1 ?hk ?_
    case hk => exact trivial
    conv => arg 8; cbv
    try simp only [OK]
    refine OKs.mask (msk 111 [7]) ?_
    subst hm
    exact turns2 hρ hQ N rn (by omega) hrl Lc hLc q1 q2 q3 q4 q5 q6 q7 q8 q9 q10 (by rw [hq1, bytesE_length]; omega) (by rw [hq2, bytesE_length]; omega) (by rw [hq3, bytesE_length]; omega) (by rw [hq4, bytesE_length]; omega) (by rw [hq5, bytesE_length]; omega) (by rw [hq6, bytesE_length]; omega) (by rw [hq7, bytesE_length]; omega) (by rw [hq8, bytesE_length]; omega) (by rw [hq9, bytesE_length]; omega) (by rw [hq10, bytesE_length]; omega)

theorem turns_ok (how : Int) (hh : 0 ≤ how ∧ how ≤ 2) (b : List Nat) (hb : AllB b) (hl : b.length ≤ 65536) :
    Tri Try.prog [] 19 [.lit (.int .i64 how), .lit (.string (strE (packL how b).1)), isB b] [] fun v h => v = .lit (.bool true) ∧ h = [] := by
  by_cases hne : b = []
  · subst hne
    rw [pack_nil how]
    have : how = 0 ∨ how = 1 ∨ how = 2 := by omega
    rcases this with rfl | rfl | rfl
    · exact Tri.closed hd tab_ok turns_run0 rfl
    · exact Tri.closed hd tab_ok turns_run1 rfl
    · exact Tri.closed hd tab_ok turns_run2 rfl
  · refine Tri.mv (turns_ne how hh b hb hl hne _ rfl _ rfl) fun v h hv => ⟨[], [], rfl, ⟨by simp, by simp, by simp⟩, by subst hv; simp [mvE], rfl⟩


def keep_sh : List Sh := [opS, .slice 1 (.int .u8)]

theorem nine_all : AllB [1, 2, 3, 4, 5, 6, 7, 8, 9] := fun x hx => by
  simp at hx; omega

theorem pack_small (how : Int) (b : List Nat) (hb : AllB b) : (packL how b).1.length ≤ 70000 := by
  by_cases h : b.length ≤ 65536
  · have := pack_bound how b hb
    omega
  · have : (packL how b).1 = [] := by
      unfold packL
      split
      · rfl
      · rw [if_pos (by omega)]
    rw [this]; simp

theorem pack_good (how : Int) (b : List Nat) (h : (packL how b).2 = 0) : 0 ≤ how ∧ how ≤ 2 ∧ b.length ≤ 65536 := by
  by_cases h1 : how < 0 ∨ 2 < how ∨ 65536 < b.length
  · exact absurd h (pack_err how b h1)
  · omega

theorem pack_bad (how : Int) (b : List Nat) (h : (packL how b).1 ≠ []) : (packL how b).2 = 0 := by
  unfold packL at h ⊢
  repeat' split
  all_goals first | rfl | (simp_all; done) | skip

def uE (l : List Int) : List EV := l.map fun x => .lit (.int .u8 x)
theorem uE_len (l : List Int) : (uE l).length = l.length := by simp [uE]
theorem bytes_u (l : List Nat) : bytesE l = uE (l.map fun x : Nat => (x : Int)) := by simp [bytesE, uE, List.map_map]; exact fun _ _ => rfl
theorem look_u (l : List Int) (i : Nat) (h : i < l.length) : ((uE l).drop i).take 1 = [.lit (.int .u8 (l.getD i 0))] := by
  simp [uE, ← List.map_drop, ← List.map_take]
  rw [List.drop_eq_getElem_cons h, List.take_succ_cons, List.take_zero]
  simp [h]
theorem setl_map {α : Type} (g : α → EV) (l : List α) (i : Nat) (v : α) (h : i < l.length) : stdA.setl (l.map g) i [g v] = (l.set i v).map g := by
  rw [s_setl, List.set_eq_take_append_cons_drop, if_pos h]
  simp [List.map_take, List.map_drop]
theorem set_u (l : List Int) (i : Nat) (v : Int) (h : i < l.length) : stdA.setl (uE l) i [.lit (.int .u8 v)] = uE (l.set i v) := setl_map (fun x => .lit (.int .u8 x)) l i v h
theorem set_bytes (l : List Nat) (i : Nat) (h : i < l.length) : stdA.setl (bytesE l) i [.lit (.int .u8 0)] = bytesE (l.set i 0) := setl_map byteV l i 0 h
theorem AllB.set0 {l : List Nat} (h : AllB l) (i : Nat) : AllB (l.set i 0) := fun x hx => by
  rcases List.mem_or_eq_of_mem_set hx with h1 | h1
  · exact h x h1
  · omega

set_option maxRecDepth 100000 in
set_option maxHeartbeats 4000000 in
theorem keep24 {I0 : Imm} {ρ0 : Ren} {w0 : World} {Q : Exit → Act → World → Prop} (hρ : ρ0.length = 0) (hQ : EndsQ [] I0 ρ0 w0 Q (FinR F10.rs yesE)) (how raw : Int) (N : Nat) (c : List EV) (Z : List Nat) (hZ : AllB Z) (hZl : Z.length ≤ 140737488351232) (zn : Nat) (zc : List EV) (hzn : zn = Z.length) (hzc : zc = bytesE Z) :
    OKs Try.prog [] I0 ρ0 w0 Q [.c (seqT 24 F10.body)] ⟨mkT 263 [(2, .ptr 0 0), (7, .isl N none c), (12, .isl zn none zc)], [.blk [.lit (.int .i64 how), .isl N none c, .lit (.int .i64 raw)]]⟩ := by
  obtain ⟨A, hA⟩ : ∃ A, A = stdA := ⟨_, rfl⟩
  have tU := unpackP how Z hZ hZl (A.ofn N)
  have tV := unpackR how Z hZ hZl (A.ofn N)
  have hoa := unL_all how Z (A.ofn N) hZ
  obtain ⟨o, ho⟩ : ∃ o, o = (unL how Z (A.ofn N)).1 := ⟨_, rfl⟩
  obtain ⟨e, he⟩ : ∃ e, e = (unL how Z (A.ofn N)).2 := ⟨_, rfl⟩
  obtain ⟨on, oc, hoi, hon, hoc⟩ := isB_open o
  rw [← ho, ← he, hoi, show isB Z = .isl zn none zc by rw [hzn, hzc]; rfl] at tU tV
  rw [← ho] at hoa
  have hby : A.byt on oc = true := by rw [hA, hoc, hon]; exact byt_ok hoa (Nat.le_refl _)
  have hee : A.ic .eql e e = true := by rw [hA, s_eql]; simp
  with_reducible refine runS hA hd hQ 60 ?hk ?_
  case hk => exact trivial
  conv => arg 8; cbv
  try simp only [OK]
  refine ⟨goodF_of F14_ok, (Tri.clean rfl rfl tU _).mono fun v h' hx => ?_⟩
  obtain ⟨hv, hh⟩ := hx
  subst hv; subst hh
  with_reducible refine runK hA hd hQ 60 ?hk ?_
  case hk => exact trivial
  conv => arg 8; cbv
  try simp only [OK]
  refine ⟨goodF_of F13_ok, (Tri.clean rfl rfl tV _).mono fun v h' hx => ?_⟩
  obtain ⟨hv, hh⟩ := hx
  subst hv; subst hh
  with_reducible refine runK hA hd hQ 60 ?hk ?_
  case hk => exact trivial
  conv => arg 8; cbv
  try simp only [OK]
  refine ⟨fun hbx => ?_, fun hbx => ?_⟩
  rotate_left
  · with_reducible exfalso; exact Bool.noConfusion (hbx.symm.trans (hee))
  with_reducible refine runK hA hd hQ 60 ?hk ?_
  case hk => exact trivial
  conv => arg 8; cbv
  try simp only [OK]
  refine ⟨hby, hby, _, rfl, .inr ?_⟩
  show EV.sb (A.ss .eql (A.dec (A.tak on oc)) (A.dec (A.tak on oc))) = _
  rw [hA, ss_eql_self]

end Go.Proofs.Ytplibngmgebigaa.Press
