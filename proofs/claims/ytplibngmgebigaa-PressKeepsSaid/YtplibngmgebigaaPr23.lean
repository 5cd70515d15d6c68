/- Pr23: the document's packing by references, and its Pack. No conditions beyond those written. -/
import Derived.Test.YtplibngmgebigaaPr22
set_option linter.unusedVariables false
set_option linter.unusedSimpArgs false
namespace Go.Proofs.Ytplibngmgebigaa.Press
open Go Go.Proofs.Ytplibngmgebigaa Go.Proofs.Ytplibngmgebigaa.Em

theorem metAt_fr (b : List Nat) (hb : AllB b) (hl : b.length ≤ 65536) (N : Nat) (c : List EV) (hN : N = b.length) (hc : c = bytesE b) :
    Tri Try.prog [] 30 [.isl N none c] [] fun v h => v = isI (lastL b) ∧ h = [] := by
  have hlen : (lastL b).length = N := by simp [lastL, hN]
  refine Tri.up (R := fun v h => v = .isl N (some N) (intsE (lastL b)) ∧ h = []) (Tri.mv (metAt_pre b hb hl N c hN hc) fun v h ⟨hv, hg⟩ => ?_) (fun v h ⟨hv, hh⟩ => ⟨_, ⟨rfl, hh⟩, ?_⟩)
  · subst hv
    refine ⟨[], [2], rfl, ⟨by simp, by simp, fun i hi => ?_⟩, ?_, rfl⟩
    · simp at hi; subst hi; exact ⟨_, hg, clL_ints _⟩
    · simp [mvE, mvL, mvG, mvZ, inL, hg]
  · subst hv
    rw [isI, hlen]; exact Up.cap _ _ _

theorem mtF_first (b : List Nat) (q p : Nat) (hp : p + 4 ≤ b.length) (hq : q + 4 ≤ b.length) (h : (b.drop q).take 4 = (b.drop p).take 4) : mtF b q p 131 0 = mtF b q p 127 4 := by
  rw [take4 b q hq, take4 b p hp] at h
  simp only [List.cons.injEq, and_true] at h
  obtain ⟨h0, h1, h2, h3⟩ := h
  rw [mtF, if_pos ⟨by omega, h0.symm⟩, mtF, if_pos ⟨by omega, h1.symm⟩, mtF, if_pos ⟨by omega, h2.symm⟩, mtF, if_pos ⟨by omega, h3.symm⟩]

theorem lastA_same (b : List Nat) (p : Nat) (h : 0 ≤ lastA b p) : p + 4 ≤ b.length ∧ (lastA b p).toNat + 4 ≤ b.length ∧ (b.drop (lastA b p).toNat).take 4 = (b.drop p).take 4 := by
  unfold lastA at h ⊢
  split at h
  · rename_i h4
    rw [if_pos h4]
    split at h
    · rename_i j hj
      have := lastW_lt _ _ _ _ hj
      exact ⟨h4, by simpa using this.2.1, by simpa using this.2.2⟩
    · omega
  · omega

theorem fdB_big (b : List Nat) (ls : List Int) (p : Nat) (h : ¬ ls.getD p 0 < 0) : fdB b ls p = (mtF b (ls.getD p 0).toNat p 127 4, [mtF b (ls.getD p 0).toNat p 127 4 + 124, (p - (ls.getD p 0).toNat - 1) % 256, (p - (ls.getD p 0).toNat - 1) / 256 % 256]) := by
  simp only [fdB, if_neg h]
theorem fdB_small (b : List Nat) (ls : List Int) (p : Nat) (h : ls.getD p 0 < 0) : fdB b ls p = (0, []) := by
  simp only [fdB, if_pos h]

theorem bytesE_three (a b c : Nat) : [EV.lit (.int .u8 (a : Int)), .lit (.int .u8 (b : Int)), .lit (.int .u8 (c : Int))] = bytesE [a, b, c] := rfl

set_option maxHeartbeats 8000000 in
theorem packBack_ref (b : List Nat) (hb : AllB b) (hl : b.length ≤ 65536) :
    Tri Try.prog [] 26 [isB b] [] fun v h => v = isB (pkF (fdB b (lastL b)) b b.length 0 0 []) ∧ h = [] := by
  rw [show pkF (fdB b (lastL b)) b b.length 0 0 [] = rkF (fdB b (lastL b)) b b.length 0 [] from (rkF_pkF (fdB b (lastL b)) b (fun p hp h => (fdB_ok b hb p hp h).1) b.length 0 [] (by omega) (by omega)).symm]
  refine Tri.frozen1 ?_
  refine Tri_of F26_ok fun I0 ρ0 w0 Q hρ hQ => ?_
  obtain ⟨A, hA⟩ : ∃ A, A = stdA := ⟨_, rfl⟩
  obtain ⟨N, c, hi, hN, hc⟩ := isB_open b
  rw [hi]
  obtain ⟨ls, hls⟩ : ∃ ls, ls = lastL b := ⟨_, rfl⟩
  have hll : ls.length = N := by rw [hls]; simp [lastL, hN]
  have t0 := metAt_fr b hb hl N c hN hc
  have hsame : ∀ p : Nat, p < b.length → ¬ ls.getD p 0 < 0 → 0 ≤ ls.getD p 0 ∧ ls.getD p 0 < p ∧ p + 4 ≤ b.length ∧ mtF b (ls.getD p 0).toNat p 131 0 = mtF b (ls.getD p 0).toNat p 127 4 := by
    intro p hp h
    rw [hls, lastL_get b p hp] at h ⊢
    have h1 := lastA_ok b p
    have h2 := lastA_same b p (by omega)
    exact ⟨by omega, by omega, h2.1, mtF_first b _ p h2.1 h2.2.1 h2.2.2⟩
  rw [← hls] at t0
  obtain ⟨R0, hR0⟩ : ∃ r, r = rkF (fdB b (lastL b)) b b.length 0 [] := ⟨_, rfl⟩
  rw [← hR0] at hQ
  rw [← hls] at hR0
  obtain ⟨N2, c2, hi2, hN2, hc2⟩ := isI_open ls
  rw [hi2] at t0
  have hN2' : N2 = N := by omega
  subst hN2'
  with_reducible refine runS hA hd hQ 100 ?hk ?_
  case hk => exact trivial
  conv => arg 8; cbv
  try simp only [OK]
  refine ⟨goodF_of F30_ok, (Tri.clean rfl rfl t0 _).mono fun v h' hx => ?_⟩
  obtain ⟨hv, hh⟩ := hx
  subst hv; subst hh
  with_reducible refine runK hA hd hQ 100 ?hk ?_
  case hk => exact trivial
  conv => arg 8; cbv
  try simp only [OK]
  refine OKs.mask (msk 100 [0, 3, 4, 5]) (OKs.up 3 (.sl 1 0 0 0 none) (Up.scap _ _ _ _ _) ?_)
  refine OKs.loop (fun s => ∃ (i : Int) (m : Nat) (oc : List EV) (out : List Nat) (f : Nat), s = ⟨mkT 100 [(0, .isl N2 none c), (3, .sl 1 0 0 m none), (4, .isl N2 none c2), (5, .lit (.int .i64 i))], [.blk oc]⟩ ∧ m = out.length ∧ oc = bytesE out ∧ out.length ≤ 2 * i.toNat ∧ 0 ≤ i ∧ i ≤ N2 ∧ N2 - i.toNat ≤ f ∧ rkF (fdB b ls) b f i.toNat out = R0) (fun s => (N2 - intN (getT s.t 5)).toNat) (fun s hs ih => ?_)
    ⟨0, 0, [], [], N2, rfl, rfl, rfl, by simp, by omega, by omega, by omega, by rw [hR0, hN]; rfl⟩
  obtain ⟨i, m, oc, out, f, rfl, hm, hoc, hob, hi0, hi1, hf, hr⟩ := hs
  with_reducible refine runS hA hd hQ 200 ?hk ?_
  case hk => exact trivial
  conv => arg 8; cbv
  try simp only [OK]
  refine ⟨fun h1 => ?_, fun h1 => ?_⟩ <;> simp (disch := omega) only [hA, OK, s_le, s_inb, s_slb, s_room, s_mks, s_ne0, s_nn, s_eql, s_neq, s_lss, s_leq, s_gtr, s_geq, s_isz, s_bnot, s_beq, s_idx, s_addN, s_subN, s_mulN, s_tn, s_ofn, s_nmin, s_drp, s_tak, s_app, s_len, s_leB, s_add, s_sub, s_mul, s_wr64, s_wr8, bytesE_fold, bytesE_length, bytesE_drop, bytesE_take, bytesE_app, intsE_fold, intsE_length, decide_eq_true_eq, decide_eq_false_iff_not, Nat.mul_one, Nat.zero_add, Nat.add_zero, Bool.not_eq_true', List.length_take, List.length_drop, List.length_append, List.length_cons, List.length_nil, List.drop_zero] at h1
  · obtain ⟨g, rfl⟩ : ∃ g, f = g + 1 := ⟨f - 1, by omega⟩
    obtain ⟨q, q1, q2⟩ := look_atI hc2 i.toNat (by omega)
    have hbig := fdB_big b ls i.toNat
    have hsmall := fdB_small b ls i.toNat
    have hsm := hsame i.toNat (by omega)
    rw [← q2] at hbig hsmall hsm
    rw [rkF, if_pos (by omega)] at hr
    with_reducible refine runK hA hd hQ 200 ?hk ?_
    case hk => exact trivial
    conv => arg 8; cbv
    try simp only [OK]
    refine ⟨by simp (disch := omega) only [hA, OK, s_le, s_inb, s_slb, s_room, s_mks, s_ne0, s_nn, s_eql, s_neq, s_lss, s_leq, s_gtr, s_geq, s_isz, s_bnot, s_beq, s_idx, s_addN, s_subN, s_mulN, s_tn, s_ofn, s_nmin, s_drp, s_tak, s_app, s_len, s_leB, s_add, s_sub, s_mul, s_wr64, s_wr8, bytesE_fold, bytesE_length, bytesE_drop, bytesE_take, bytesE_app, intsE_fold, intsE_length, decide_eq_true_eq, decide_eq_false_iff_not, Nat.mul_one, Nat.zero_add, Nat.add_zero, Bool.not_eq_true', List.length_take, List.length_drop, List.length_append, List.length_cons, List.length_nil, List.drop_zero] <;> omega, [.lit (.int .i64 q)], _, rfl, by simp (disch := omega) only [hA, OK, s_le, s_inb, s_slb, s_room, s_mks, s_ne0, s_nn, s_eql, s_neq, s_lss, s_leq, s_gtr, s_geq, s_isz, s_bnot, s_beq, s_idx, s_addN, s_subN, s_mulN, s_tn, s_ofn, s_nmin, s_drp, s_tak, s_app, s_len, s_leB, s_add, s_sub, s_mul, s_wr64, s_wr8, bytesE_fold, bytesE_length, bytesE_drop, bytesE_take, bytesE_app, intsE_fold, intsE_length, decide_eq_true_eq, decide_eq_false_iff_not, Nat.mul_one, Nat.zero_add, Nat.add_zero, Bool.not_eq_true', List.length_take, List.length_drop, List.length_append, List.length_cons, List.length_nil, List.drop_zero] <;> exact q1, rfl, ?_⟩
    with_reducible refine runK hA hd hQ 200 ?hk ?_
    case hk => exact trivial
    conv => arg 8; cbv
    try simp only [OK]
    refine ⟨fun h2 => ?_, fun h2 => ?_⟩ <;> simp (disch := omega) only [hA, OK, s_le, s_inb, s_slb, s_room, s_mks, s_ne0, s_nn, s_eql, s_neq, s_lss, s_leq, s_gtr, s_geq, s_isz, s_bnot, s_beq, s_idx, s_addN, s_subN, s_mulN, s_tn, s_ofn, s_nmin, s_drp, s_tak, s_app, s_len, s_leB, s_add, s_sub, s_mul, s_wr64, s_wr8, bytesE_fold, bytesE_length, bytesE_drop, bytesE_take, bytesE_app, intsE_fold, intsE_length, decide_eq_true_eq, decide_eq_false_iff_not, Nat.mul_one, Nat.zero_add, Nat.add_zero, Bool.not_eq_true', List.length_take, List.length_drop, List.length_append, List.length_cons, List.length_nil, List.drop_zero] at h2
    · -- met
      obtain ⟨s1, s2, s3, s4⟩ := hsm (by omega)
      have hbg := hbig (by omega)
      obtain ⟨n0, hn0⟩ : ∃ n, n = mtF b q.toNat i.toNat 127 4 := ⟨_, rfl⟩
      have hn1 := mtF_ge b q.toNat i.toNat 127 4
      have hn2 := mtF_le b q.toNat i.toNat 127 4 (by omega)
      rw [← hn0] at hbg hn1 hn2 s4
      rw [hbg, if_neg (by simp only; omega)] at hr
      simp only at hr
      with_reducible refine runK hA hd hQ 200 ?hk ?_
      case hk => exact trivial
      conv => arg 8; cbv
      try simp only [OK]
      refine OKs.mask (msk 100 [0, 3, 4, 5, 6]) ?_
      refine OKs.loop (fun s => ∃ n : Int, s = ⟨mkT 100 [(0, .isl N2 none c), (3, .sl 1 0 0 m none), (4, .isl N2 none c2), (5, .lit (.int .i64 i)), (6, .lit (.int .i64 n))], [.blk oc]⟩ ∧ 0 ≤ n ∧ n ≤ 131 ∧ mtF b q.toNat i.toNat (131 - n.toNat) n.toNat = n0) (fun s => (131 - intN (getT s.t 6)).toNat) (fun s hs ih2 => ?_)
        ⟨0, rfl, by omega, by omega, s4⟩
      obtain ⟨n, rfl, hm1, hm2, hr2⟩ := hs
      have hnn : ((n.toNat : Nat) : Int) = n := by omega
      with_reducible refine runS hA hd hQ 200 ?hk ?_
      case hk => exact trivial
      conv => arg 8; cbv
      try simp only [OK]
      refine ⟨fun h3 => ?_, fun h3 => ?_⟩ <;> simp (disch := omega) only [hA, OK, s_le, s_inb, s_slb, s_room, s_mks, s_ne0, s_nn, s_eql, s_neq, s_lss, s_leq, s_gtr, s_geq, s_isz, s_bnot, s_beq, s_idx, s_addN, s_subN, s_mulN, s_tn, s_ofn, s_nmin, s_drp, s_tak, s_app, s_len, s_leB, s_add, s_sub, s_mul, s_wr64, s_wr8, bytesE_fold, bytesE_length, bytesE_drop, bytesE_take, bytesE_app, intsE_fold, intsE_length, decide_eq_true_eq, decide_eq_false_iff_not, Nat.mul_one, Nat.zero_add, Nat.add_zero, Bool.not_eq_true', List.length_take, List.length_drop, List.length_append, List.length_cons, List.length_nil, List.drop_zero] at h3
      · with_reducible refine runK hA hd hQ 200 ?hk ?_
        case hk => exact trivial
        conv => arg 8; cbv
        try simp only [OK]
        refine ⟨fun h4 => ?_, fun h4 => ?_⟩ <;> simp (disch := omega) only [hA, OK, s_le, s_inb, s_slb, s_room, s_mks, s_ne0, s_nn, s_eql, s_neq, s_lss, s_leq, s_gtr, s_geq, s_isz, s_bnot, s_beq, s_idx, s_addN, s_subN, s_mulN, s_tn, s_ofn, s_nmin, s_drp, s_tak, s_app, s_len, s_leB, s_add, s_sub, s_mul, s_wr64, s_wr8, bytesE_fold, bytesE_length, bytesE_drop, bytesE_take, bytesE_app, intsE_fold, intsE_length, decide_eq_true_eq, decide_eq_false_iff_not, Nat.mul_one, Nat.zero_add, Nat.add_zero, Bool.not_eq_true', List.length_take, List.length_drop, List.length_append, List.length_cons, List.length_nil, List.drop_zero] at h4
        · with_reducible refine runK hA hd hQ 200 ?hk ?_
          case hk => exact trivial
          conv => arg 8; cbv
          try simp only [OK]
          obtain ⟨k, hk⟩ : ∃ k, 131 - n.toNat = k + 1 := ⟨131 - n.toNat - 1, by omega⟩
          rw [hk] at hr2
          obtain ⟨x, x1, x2⟩ := look_at hc (q.toNat + n.toNat) (by omega)
          obtain ⟨y, y1, y2⟩ := look_at hc (i.toNat + n.toNat) (by omega)
          have e1 : (q + n).toNat = q.toNat + n.toNat := by omega
          have e2 : (i + n).toNat = i.toNat + n.toNat := by omega
          refine ⟨by simp (disch := omega) only [hA, OK, s_le, s_inb, s_slb, s_room, s_mks, s_ne0, s_nn, s_eql, s_neq, s_lss, s_leq, s_gtr, s_geq, s_isz, s_bnot, s_beq, s_idx, s_addN, s_subN, s_mulN, s_tn, s_ofn, s_nmin, s_drp, s_tak, s_app, s_len, s_leB, s_add, s_sub, s_mul, s_wr64, s_wr8, bytesE_fold, bytesE_length, bytesE_drop, bytesE_take, bytesE_app, intsE_fold, intsE_length, decide_eq_true_eq, decide_eq_false_iff_not, Nat.mul_one, Nat.zero_add, Nat.add_zero, Bool.not_eq_true', List.length_take, List.length_drop, List.length_append, List.length_cons, List.length_nil, List.drop_zero] <;> omega, [.lit (.int .i64 q)], _, rfl, by simp (disch := omega) only [hA, OK, s_le, s_inb, s_slb, s_room, s_mks, s_ne0, s_nn, s_eql, s_neq, s_lss, s_leq, s_gtr, s_geq, s_isz, s_bnot, s_beq, s_idx, s_addN, s_subN, s_mulN, s_tn, s_ofn, s_nmin, s_drp, s_tak, s_app, s_len, s_leB, s_add, s_sub, s_mul, s_wr64, s_wr8, bytesE_fold, bytesE_length, bytesE_drop, bytesE_take, bytesE_app, intsE_fold, intsE_length, decide_eq_true_eq, decide_eq_false_iff_not, Nat.mul_one, Nat.zero_add, Nat.add_zero, Bool.not_eq_true', List.length_take, List.length_drop, List.length_append, List.length_cons, List.length_nil, List.drop_zero] <;> exact q1, rfl, ?_⟩
          with_reducible refine runK hA hd hQ 200 ?hk ?_
          case hk => exact trivial
          conv => arg 8; cbv
          try simp only [OK]
          refine ⟨by simp (disch := omega) only [hA, OK, s_le, s_inb, s_slb, s_room, s_mks, s_ne0, s_nn, s_eql, s_neq, s_lss, s_leq, s_gtr, s_geq, s_isz, s_bnot, s_beq, s_idx, s_addN, s_subN, s_mulN, s_tn, s_ofn, s_nmin, s_drp, s_tak, s_app, s_len, s_leB, s_add, s_sub, s_mul, s_wr64, s_wr8, bytesE_fold, bytesE_length, bytesE_drop, bytesE_take, bytesE_app, intsE_fold, intsE_length, decide_eq_true_eq, decide_eq_false_iff_not, Nat.mul_one, Nat.zero_add, Nat.add_zero, Bool.not_eq_true', List.length_take, List.length_drop, List.length_append, List.length_cons, List.length_nil, List.drop_zero] <;> omega, [.lit (.int .u8 x)], _, rfl, by simp (disch := omega) only [hA, OK, s_le, s_inb, s_slb, s_room, s_mks, s_ne0, s_nn, s_eql, s_neq, s_lss, s_leq, s_gtr, s_geq, s_isz, s_bnot, s_beq, s_idx, s_addN, s_subN, s_mulN, s_tn, s_ofn, s_nmin, s_drp, s_tak, s_app, s_len, s_leB, s_add, s_sub, s_mul, s_wr64, s_wr8, bytesE_fold, bytesE_length, bytesE_drop, bytesE_take, bytesE_app, intsE_fold, intsE_length, decide_eq_true_eq, decide_eq_false_iff_not, Nat.mul_one, Nat.zero_add, Nat.add_zero, Bool.not_eq_true', List.length_take, List.length_drop, List.length_append, List.length_cons, List.length_nil, List.drop_zero , e1] <;> exact x1, rfl, ?_⟩
          with_reducible refine runK hA hd hQ 200 ?hk ?_
          case hk => exact trivial
          conv => arg 8; cbv
          try simp only [OK]
          refine ⟨by simp (disch := omega) only [hA, OK, s_le, s_inb, s_slb, s_room, s_mks, s_ne0, s_nn, s_eql, s_neq, s_lss, s_leq, s_gtr, s_geq, s_isz, s_bnot, s_beq, s_idx, s_addN, s_subN, s_mulN, s_tn, s_ofn, s_nmin, s_drp, s_tak, s_app, s_len, s_leB, s_add, s_sub, s_mul, s_wr64, s_wr8, bytesE_fold, bytesE_length, bytesE_drop, bytesE_take, bytesE_app, intsE_fold, intsE_length, decide_eq_true_eq, decide_eq_false_iff_not, Nat.mul_one, Nat.zero_add, Nat.add_zero, Bool.not_eq_true', List.length_take, List.length_drop, List.length_append, List.length_cons, List.length_nil, List.drop_zero] <;> omega, [.lit (.int .u8 y)], _, rfl, by simp (disch := omega) only [hA, OK, s_le, s_inb, s_slb, s_room, s_mks, s_ne0, s_nn, s_eql, s_neq, s_lss, s_leq, s_gtr, s_geq, s_isz, s_bnot, s_beq, s_idx, s_addN, s_subN, s_mulN, s_tn, s_ofn, s_nmin, s_drp, s_tak, s_app, s_len, s_leB, s_add, s_sub, s_mul, s_wr64, s_wr8, bytesE_fold, bytesE_length, bytesE_drop, bytesE_take, bytesE_app, intsE_fold, intsE_length, decide_eq_true_eq, decide_eq_false_iff_not, Nat.mul_one, Nat.zero_add, Nat.add_zero, Bool.not_eq_true', List.length_take, List.length_drop, List.length_append, List.length_cons, List.length_nil, List.drop_zero , e2] <;> exact y1, rfl, ?_⟩
          with_reducible refine runK hA hd hQ 200 ?hk ?_
          case hk => exact trivial
          conv => arg 8; cbv
          try simp only [OK]
          refine ⟨fun h5 => ?_, fun h5 => ?_⟩ <;> simp (disch := omega) only [hA, OK, s_le, s_inb, s_slb, s_room, s_mks, s_ne0, s_nn, s_eql, s_neq, s_lss, s_leq, s_gtr, s_geq, s_isz, s_bnot, s_beq, s_idx, s_addN, s_subN, s_mulN, s_tn, s_ofn, s_nmin, s_drp, s_tak, s_app, s_len, s_leB, s_add, s_sub, s_mul, s_wr64, s_wr8, bytesE_fold, bytesE_length, bytesE_drop, bytesE_take, bytesE_app, intsE_fold, intsE_length, decide_eq_true_eq, decide_eq_false_iff_not, Nat.mul_one, Nat.zero_add, Nat.add_zero, Bool.not_eq_true', List.length_take, List.length_drop, List.length_append, List.length_cons, List.length_nil, List.drop_zero] at h5
          · with_reducible refine runK hA hd hQ 200 ?hk ?_
            case hk => exact trivial
            conv => arg 8; cbv
            try simp only [OK]
            refine OKs.mask (msk 100 [0, 3, 4, 5, 6]) ?_
            rw [mtF, if_pos ⟨by omega, by omega⟩] at hr2
            refine ih2 _ ⟨_, rfl, ?_, ?_, ?_⟩ (show (131 - (A.ib .add .i64 n 1)).toNat < (131 - n).toNat from ?_)
            all_goals (try simp (disch := omega) only [hA, OK, s_le, s_inb, s_slb, s_room, s_mks, s_ne0, s_nn, s_eql, s_neq, s_lss, s_leq, s_gtr, s_geq, s_isz, s_bnot, s_beq, s_idx, s_addN, s_subN, s_mulN, s_tn, s_ofn, s_nmin, s_drp, s_tak, s_app, s_len, s_leB, s_add, s_sub, s_mul, s_wr64, s_wr8, bytesE_fold, bytesE_length, bytesE_drop, bytesE_take, bytesE_app, intsE_fold, intsE_length, decide_eq_true_eq, decide_eq_false_iff_not, Nat.mul_one, Nat.zero_add, Nat.add_zero, Bool.not_eq_true', List.length_take, List.length_drop, List.length_append, List.length_cons, List.length_nil, List.drop_zero])
            all_goals first | omega | (rw [show (n + 1).toNat = n.toNat + 1 by omega, show 131 - (n.toNat + 1) = k by omega]; exact hr2)
          · -- another byte
            have hE : n0 = n.toNat := by rw [← hr2]; exact mtF_stop _ _ _ _ _ (by omega)
            with_reducible refine runK hA hd hQ 200 ?hk ?_
            case hk => exact trivial
            conv => arg 8; cbv
            try simp only [OK]
            obtain ⟨v1, hv1⟩ : ∃ v : Nat, v = n0 + 124 := ⟨_, rfl⟩
            obtain ⟨v2, hv2⟩ : ∃ v : Nat, v = (i.toNat - q.toNat - 1) % 256 := ⟨_, rfl⟩
            obtain ⟨v3, hv3⟩ : ∃ v : Nat, v = (i.toNat - q.toNat - 1) / 256 % 256 := ⟨_, rfl⟩
            have zz : (i + n).toNat = i.toNat + n0 := by omega
            have w1 : stdA.wr .u8 (n + 124) = (v1 : Int) := by rw [s_wr8m]; omega
            have w2 : stdA.wr .u8 (i - q - 1) = (v2 : Int) := by rw [s_wr8m]; omega
            have w3 : stdA.wr .u8 ((i - q - 1) / 256) = (v3 : Int) := by rw [s_wr8m]; omega
            refine ⟨by simp (disch := omega) only [hA, OK, s_le, s_inb, s_slb, s_room, s_mks, s_ne0, s_nn, s_eql, s_neq, s_lss, s_leq, s_gtr, s_geq, s_isz, s_bnot, s_beq, s_idx, s_addN, s_subN, s_mulN, s_tn, s_ofn, s_nmin, s_drp, s_tak, s_app, s_len, s_leB, s_add, s_sub, s_mul, s_wr64, s_wr8, bytesE_fold, bytesE_length, bytesE_drop, bytesE_take, bytesE_app, intsE_fold, intsE_length, decide_eq_true_eq, decide_eq_false_iff_not, Nat.mul_one, Nat.zero_add, Nat.add_zero, Bool.not_eq_true', List.length_take, List.length_drop, List.length_append, List.length_cons, List.length_nil, List.drop_zero] <;> omega, [.lit (.int .i64 q)], _, rfl, by simp (disch := omega) only [hA, OK, s_le, s_inb, s_slb, s_room, s_mks, s_ne0, s_nn, s_eql, s_neq, s_lss, s_leq, s_gtr, s_geq, s_isz, s_bnot, s_beq, s_idx, s_addN, s_subN, s_mulN, s_tn, s_ofn, s_nmin, s_drp, s_tak, s_app, s_len, s_leB, s_add, s_sub, s_mul, s_wr64, s_wr8, bytesE_fold, bytesE_length, bytesE_drop, bytesE_take, bytesE_app, intsE_fold, intsE_length, decide_eq_true_eq, decide_eq_false_iff_not, Nat.mul_one, Nat.zero_add, Nat.add_zero, Bool.not_eq_true', List.length_take, List.length_drop, List.length_append, List.length_cons, List.length_nil, List.drop_zero] <;> exact q1, rfl, ?_⟩
            with_reducible refine runK hA hd hQ 200 ?hk ?_
            case hk => exact trivial
            conv => arg 8; cbv
            try simp only [OK]
            refine ⟨by simp (disch := omega) only [hA, OK, s_le, s_inb, s_slb, s_room, s_mks, s_ne0, s_nn, s_eql, s_neq, s_lss, s_leq, s_gtr, s_geq, s_isz, s_bnot, s_beq, s_idx, s_addN, s_subN, s_mulN, s_tn, s_ofn, s_nmin, s_drp, s_tak, s_app, s_len, s_leB, s_add, s_sub, s_mul, s_wr64, s_wr8, bytesE_fold, bytesE_length, bytesE_drop, bytesE_take, bytesE_app, intsE_fold, intsE_length, decide_eq_true_eq, decide_eq_false_iff_not, Nat.mul_one, Nat.zero_add, Nat.add_zero, Bool.not_eq_true', List.length_take, List.length_drop, List.length_append, List.length_cons, List.length_nil, List.drop_zero] <;> decide, by simp (disch := omega) only [hA, OK, s_le, s_inb, s_slb, s_room, s_mks, s_ne0, s_nn, s_eql, s_neq, s_lss, s_leq, s_gtr, s_geq, s_isz, s_bnot, s_beq, s_idx, s_addN, s_subN, s_mulN, s_tn, s_ofn, s_nmin, s_drp, s_tak, s_app, s_len, s_leB, s_add, s_sub, s_mul, s_wr64, s_wr8, bytesE_fold, bytesE_length, bytesE_drop, bytesE_take, bytesE_app, intsE_fold, intsE_length, decide_eq_true_eq, decide_eq_false_iff_not, Nat.mul_one, Nat.zero_add, Nat.add_zero, Bool.not_eq_true', List.length_take, List.length_drop, List.length_append, List.length_cons, List.length_nil, List.drop_zero] <;> simp, by simp (disch := omega) only [hA, OK, s_le, s_inb, s_slb, s_room, s_mks, s_ne0, s_nn, s_eql, s_neq, s_lss, s_leq, s_gtr, s_geq, s_isz, s_bnot, s_beq, s_idx, s_addN, s_subN, s_mulN, s_tn, s_ofn, s_nmin, s_drp, s_tak, s_app, s_len, s_leB, s_add, s_sub, s_mul, s_wr64, s_wr8, bytesE_fold, bytesE_length, bytesE_drop, bytesE_take, bytesE_app, intsE_fold, intsE_length, decide_eq_true_eq, decide_eq_false_iff_not, Nat.mul_one, Nat.zero_add, Nat.add_zero, Bool.not_eq_true', List.length_take, List.length_drop, List.length_append, List.length_cons, List.length_nil, List.drop_zero , hoc] <;> omega, by simp (disch := omega) only [hA, OK, s_le, s_inb, s_slb, s_room, s_mks, s_ne0, s_nn, s_eql, s_neq, s_lss, s_leq, s_gtr, s_geq, s_isz, s_bnot, s_beq, s_idx, s_addN, s_subN, s_mulN, s_tn, s_ofn, s_nmin, s_drp, s_tak, s_app, s_len, s_leB, s_add, s_sub, s_mul, s_wr64, s_wr8, bytesE_fold, bytesE_length, bytesE_drop, bytesE_take, bytesE_app, intsE_fold, intsE_length, decide_eq_true_eq, decide_eq_false_iff_not, Nat.mul_one, Nat.zero_add, Nat.add_zero, Bool.not_eq_true', List.length_take, List.length_drop, List.length_append, List.length_cons, List.length_nil, List.drop_zero] <;> omega, ?_⟩
            refine OKs.mask (msk 100 [0, 3, 4, 5]) (OKs.mv [2] [] (by rw [hρ]; rfl) ⟨by simp, by simp [sizeH], by simp⟩ ?_)
            refine ih _ ⟨_, _, _, out ++ [v1, v2, v3], g, rfl, ?_, ?_, ?_, ?_, ?_, ?_, ?_⟩ (show (N2 - A.ib .add .i64 i n).toNat < (N2 - i).toNat from ?_)
            all_goals (try simp (disch := omega) only [hA, OK, s_le, s_inb, s_slb, s_room, s_mks, s_ne0, s_nn, s_eql, s_neq, s_lss, s_leq, s_gtr, s_geq, s_isz, s_bnot, s_beq, s_idx, s_addN, s_subN, s_mulN, s_tn, s_ofn, s_nmin, s_drp, s_tak, s_app, s_len, s_leB, s_add, s_sub, s_mul, s_wr64, s_wr8, bytesE_fold, bytesE_length, bytesE_drop, bytesE_take, bytesE_app, intsE_fold, intsE_length, decide_eq_true_eq, decide_eq_false_iff_not, Nat.mul_one, Nat.zero_add, Nat.add_zero, Bool.not_eq_true', List.length_take, List.length_drop, List.length_append, List.length_cons, List.length_nil, List.drop_zero , hoc, mvL_bytes, s_shr8, w1, w2, w3, bytesE_three, zz])
            all_goals first | omega | (rw [hv1, hv2, hv3]; exact hr) | skip
            · simp [hm]
        · -- the longest
          have hE : n0 = n.toNat := by rw [← hr2]; rw [show 131 - n.toNat = 0 by omega]; exact mtF_zero _ _ _ _
          with_reducible refine runK hA hd hQ 200 ?hk ?_
          case hk => exact trivial
          conv => arg 8; cbv
          try simp only [OK]
          obtain ⟨v1, hv1⟩ : ∃ v : Nat, v = n0 + 124 := ⟨_, rfl⟩
          obtain ⟨v2, hv2⟩ : ∃ v : Nat, v = (i.toNat - q.toNat - 1) % 256 := ⟨_, rfl⟩
          obtain ⟨v3, hv3⟩ : ∃ v : Nat, v = (i.toNat - q.toNat - 1) / 256 % 256 := ⟨_, rfl⟩
          have zz : (i + n).toNat = i.toNat + n0 := by omega
          have w1 : stdA.wr .u8 (n + 124) = (v1 : Int) := by rw [s_wr8m]; omega
          have w2 : stdA.wr .u8 (i - q - 1) = (v2 : Int) := by rw [s_wr8m]; omega
          have w3 : stdA.wr .u8 ((i - q - 1) / 256) = (v3 : Int) := by rw [s_wr8m]; omega
          refine ⟨by simp (disch := omega) only [hA, OK, s_le, s_inb, s_slb, s_room, s_mks, s_ne0, s_nn, s_eql, s_neq, s_lss, s_leq, s_gtr, s_geq, s_isz, s_bnot, s_beq, s_idx, s_addN, s_subN, s_mulN, s_tn, s_ofn, s_nmin, s_drp, s_tak, s_app, s_len, s_leB, s_add, s_sub, s_mul, s_wr64, s_wr8, bytesE_fold, bytesE_length, bytesE_drop, bytesE_take, bytesE_app, intsE_fold, intsE_length, decide_eq_true_eq, decide_eq_false_iff_not, Nat.mul_one, Nat.zero_add, Nat.add_zero, Bool.not_eq_true', List.length_take, List.length_drop, List.length_append, List.length_cons, List.length_nil, List.drop_zero] <;> omega, [.lit (.int .i64 q)], _, rfl, by simp (disch := omega) only [hA, OK, s_le, s_inb, s_slb, s_room, s_mks, s_ne0, s_nn, s_eql, s_neq, s_lss, s_leq, s_gtr, s_geq, s_isz, s_bnot, s_beq, s_idx, s_addN, s_subN, s_mulN, s_tn, s_ofn, s_nmin, s_drp, s_tak, s_app, s_len, s_leB, s_add, s_sub, s_mul, s_wr64, s_wr8, bytesE_fold, bytesE_length, bytesE_drop, bytesE_take, bytesE_app, intsE_fold, intsE_length, decide_eq_true_eq, decide_eq_false_iff_not, Nat.mul_one, Nat.zero_add, Nat.add_zero, Bool.not_eq_true', List.length_take, List.length_drop, List.length_append, List.length_cons, List.length_nil, List.drop_zero] <;> exact q1, rfl, ?_⟩
          with_reducible refine runK hA hd hQ 200 ?hk ?_
          case hk => exact trivial
          conv => arg 8; cbv
          try simp only [OK]
          refine ⟨by simp (disch := omega) only [hA, OK, s_le, s_inb, s_slb, s_room, s_mks, s_ne0, s_nn, s_eql, s_neq, s_lss, s_leq, s_gtr, s_geq, s_isz, s_bnot, s_beq, s_idx, s_addN, s_subN, s_mulN, s_tn, s_ofn, s_nmin, s_drp, s_tak, s_app, s_len, s_leB, s_add, s_sub, s_mul, s_wr64, s_wr8, bytesE_fold, bytesE_length, bytesE_drop, bytesE_take, bytesE_app, intsE_fold, intsE_length, decide_eq_true_eq, decide_eq_false_iff_not, Nat.mul_one, Nat.zero_add, Nat.add_zero, Bool.not_eq_true', List.length_take, List.length_drop, List.length_append, List.length_cons, List.length_nil, List.drop_zero] <;> decide, by simp (disch := omega) only [hA, OK, s_le, s_inb, s_slb, s_room, s_mks, s_ne0, s_nn, s_eql, s_neq, s_lss, s_leq, s_gtr, s_geq, s_isz, s_bnot, s_beq, s_idx, s_addN, s_subN, s_mulN, s_tn, s_ofn, s_nmin, s_drp, s_tak, s_app, s_len, s_leB, s_add, s_sub, s_mul, s_wr64, s_wr8, bytesE_fold, bytesE_length, bytesE_drop, bytesE_take, bytesE_app, intsE_fold, intsE_length, decide_eq_true_eq, decide_eq_false_iff_not, Nat.mul_one, Nat.zero_add, Nat.add_zero, Bool.not_eq_true', List.length_take, List.length_drop, List.length_append, List.length_cons, List.length_nil, List.drop_zero] <;> simp, by simp (disch := omega) only [hA, OK, s_le, s_inb, s_slb, s_room, s_mks, s_ne0, s_nn, s_eql, s_neq, s_lss, s_leq, s_gtr, s_geq, s_isz, s_bnot, s_beq, s_idx, s_addN, s_subN, s_mulN, s_tn, s_ofn, s_nmin, s_drp, s_tak, s_app, s_len, s_leB, s_add, s_sub, s_mul, s_wr64, s_wr8, bytesE_fold, bytesE_length, bytesE_drop, bytesE_take, bytesE_app, intsE_fold, intsE_length, decide_eq_true_eq, decide_eq_false_iff_not, Nat.mul_one, Nat.zero_add, Nat.add_zero, Bool.not_eq_true', List.length_take, List.length_drop, List.length_append, List.length_cons, List.length_nil, List.drop_zero , hoc] <;> omega, by simp (disch := omega) only [hA, OK, s_le, s_inb, s_slb, s_room, s_mks, s_ne0, s_nn, s_eql, s_neq, s_lss, s_leq, s_gtr, s_geq, s_isz, s_bnot, s_beq, s_idx, s_addN, s_subN, s_mulN, s_tn, s_ofn, s_nmin, s_drp, s_tak, s_app, s_len, s_leB, s_add, s_sub, s_mul, s_wr64, s_wr8, bytesE_fold, bytesE_length, bytesE_drop, bytesE_take, bytesE_app, intsE_fold, intsE_length, decide_eq_true_eq, decide_eq_false_iff_not, Nat.mul_one, Nat.zero_add, Nat.add_zero, Bool.not_eq_true', List.length_take, List.length_drop, List.length_append, List.length_cons, List.length_nil, List.drop_zero] <;> omega, ?_⟩
          refine OKs.mask (msk 100 [0, 3, 4, 5]) (OKs.mv [2] [] (by rw [hρ]; rfl) ⟨by simp, by simp [sizeH], by simp⟩ ?_)
          refine ih _ ⟨_, _, _, out ++ [v1, v2, v3], g, rfl, ?_, ?_, ?_, ?_, ?_, ?_, ?_⟩ (show (N2 - A.ib .add .i64 i n).toNat < (N2 - i).toNat from ?_)
          all_goals (try simp (disch := omega) only [hA, OK, s_le, s_inb, s_slb, s_room, s_mks, s_ne0, s_nn, s_eql, s_neq, s_lss, s_leq, s_gtr, s_geq, s_isz, s_bnot, s_beq, s_idx, s_addN, s_subN, s_mulN, s_tn, s_ofn, s_nmin, s_drp, s_tak, s_app, s_len, s_leB, s_add, s_sub, s_mul, s_wr64, s_wr8, bytesE_fold, bytesE_length, bytesE_drop, bytesE_take, bytesE_app, intsE_fold, intsE_length, decide_eq_true_eq, decide_eq_false_iff_not, Nat.mul_one, Nat.zero_add, Nat.add_zero, Bool.not_eq_true', List.length_take, List.length_drop, List.length_append, List.length_cons, List.length_nil, List.drop_zero , hoc, mvL_bytes, s_shr8, w1, w2, w3, bytesE_three, zz])
          all_goals first | omega | (rw [hv1, hv2, hv3]; exact hr) | skip
          · simp [hm]
      · -- the end
        have hE : n0 = n.toNat := by rw [← hr2]; exact mtF_stop _ _ _ _ _ (by omega)
        with_reducible refine runK hA hd hQ 200 ?hk ?_
        case hk => exact trivial
        conv => arg 8; cbv
        try simp only [OK]
        obtain ⟨v1, hv1⟩ : ∃ v : Nat, v = n0 + 124 := ⟨_, rfl⟩
        obtain ⟨v2, hv2⟩ : ∃ v : Nat, v = (i.toNat - q.toNat - 1) % 256 := ⟨_, rfl⟩
        obtain ⟨v3, hv3⟩ : ∃ v : Nat, v = (i.toNat - q.toNat - 1) / 256 % 256 := ⟨_, rfl⟩
        have zz : (i + n).toNat = i.toNat + n0 := by omega
        have w1 : stdA.wr .u8 (n + 124) = (v1 : Int) := by rw [s_wr8m]; omega
        have w2 : stdA.wr .u8 (i - q - 1) = (v2 : Int) := by rw [s_wr8m]; omega
        have w3 : stdA.wr .u8 ((i - q - 1) / 256) = (v3 : Int) := by rw [s_wr8m]; omega
        refine ⟨by simp (disch := omega) only [hA, OK, s_le, s_inb, s_slb, s_room, s_mks, s_ne0, s_nn, s_eql, s_neq, s_lss, s_leq, s_gtr, s_geq, s_isz, s_bnot, s_beq, s_idx, s_addN, s_subN, s_mulN, s_tn, s_ofn, s_nmin, s_drp, s_tak, s_app, s_len, s_leB, s_add, s_sub, s_mul, s_wr64, s_wr8, bytesE_fold, bytesE_length, bytesE_drop, bytesE_take, bytesE_app, intsE_fold, intsE_length, decide_eq_true_eq, decide_eq_false_iff_not, Nat.mul_one, Nat.zero_add, Nat.add_zero, Bool.not_eq_true', List.length_take, List.length_drop, List.length_append, List.length_cons, List.length_nil, List.drop_zero] <;> omega, [.lit (.int .i64 q)], _, rfl, by simp (disch := omega) only [hA, OK, s_le, s_inb, s_slb, s_room, s_mks, s_ne0, s_nn, s_eql, s_neq, s_lss, s_leq, s_gtr, s_geq, s_isz, s_bnot, s_beq, s_idx, s_addN, s_subN, s_mulN, s_tn, s_ofn, s_nmin, s_drp, s_tak, s_app, s_len, s_leB, s_add, s_sub, s_mul, s_wr64, s_wr8, bytesE_fold, bytesE_length, bytesE_drop, bytesE_take, bytesE_app, intsE_fold, intsE_length, decide_eq_true_eq, decide_eq_false_iff_not, Nat.mul_one, Nat.zero_add, Nat.add_zero, Bool.not_eq_true', List.length_take, List.length_drop, List.length_append, List.length_cons, List.length_nil, List.drop_zero] <;> exact q1, rfl, ?_⟩
        with_reducible refine runK hA hd hQ 200 ?hk ?_
        case hk => exact trivial
        conv => arg 8; cbv
        try simp only [OK]
        refine ⟨by simp (disch := omega) only [hA, OK, s_le, s_inb, s_slb, s_room, s_mks, s_ne0, s_nn, s_eql, s_neq, s_lss, s_leq, s_gtr, s_geq, s_isz, s_bnot, s_beq, s_idx, s_addN, s_subN, s_mulN, s_tn, s_ofn, s_nmin, s_drp, s_tak, s_app, s_len, s_leB, s_add, s_sub, s_mul, s_wr64, s_wr8, bytesE_fold, bytesE_length, bytesE_drop, bytesE_take, bytesE_app, intsE_fold, intsE_length, decide_eq_true_eq, decide_eq_false_iff_not, Nat.mul_one, Nat.zero_add, Nat.add_zero, Bool.not_eq_true', List.length_take, List.length_drop, List.length_append, List.length_cons, List.length_nil, List.drop_zero] <;> decide, by simp (disch := omega) only [hA, OK, s_le, s_inb, s_slb, s_room, s_mks, s_ne0, s_nn, s_eql, s_neq, s_lss, s_leq, s_gtr, s_geq, s_isz, s_bnot, s_beq, s_idx, s_addN, s_subN, s_mulN, s_tn, s_ofn, s_nmin, s_drp, s_tak, s_app, s_len, s_leB, s_add, s_sub, s_mul, s_wr64, s_wr8, bytesE_fold, bytesE_length, bytesE_drop, bytesE_take, bytesE_app, intsE_fold, intsE_length, decide_eq_true_eq, decide_eq_false_iff_not, Nat.mul_one, Nat.zero_add, Nat.add_zero, Bool.not_eq_true', List.length_take, List.length_drop, List.length_append, List.length_cons, List.length_nil, List.drop_zero] <;> simp, by simp (disch := omega) only [hA, OK, s_le, s_inb, s_slb, s_room, s_mks, s_ne0, s_nn, s_eql, s_neq, s_lss, s_leq, s_gtr, s_geq, s_isz, s_bnot, s_beq, s_idx, s_addN, s_subN, s_mulN, s_tn, s_ofn, s_nmin, s_drp, s_tak, s_app, s_len, s_leB, s_add, s_sub, s_mul, s_wr64, s_wr8, bytesE_fold, bytesE_length, bytesE_drop, bytesE_take, bytesE_app, intsE_fold, intsE_length, decide_eq_true_eq, decide_eq_false_iff_not, Nat.mul_one, Nat.zero_add, Nat.add_zero, Bool.not_eq_true', List.length_take, List.length_drop, List.length_append, List.length_cons, List.length_nil, List.drop_zero , hoc] <;> omega, by simp (disch := omega) only [hA, OK, s_le, s_inb, s_slb, s_room, s_mks, s_ne0, s_nn, s_eql, s_neq, s_lss, s_leq, s_gtr, s_geq, s_isz, s_bnot, s_beq, s_idx, s_addN, s_subN, s_mulN, s_tn, s_ofn, s_nmin, s_drp, s_tak, s_app, s_len, s_leB, s_add, s_sub, s_mul, s_wr64, s_wr8, bytesE_fold, bytesE_length, bytesE_drop, bytesE_take, bytesE_app, intsE_fold, intsE_length, decide_eq_true_eq, decide_eq_false_iff_not, Nat.mul_one, Nat.zero_add, Nat.add_zero, Bool.not_eq_true', List.length_take, List.length_drop, List.length_append, List.length_cons, List.length_nil, List.drop_zero] <;> omega, ?_⟩
        refine OKs.mask (msk 100 [0, 3, 4, 5]) (OKs.mv [2] [] (by rw [hρ]; rfl) ⟨by simp, by simp [sizeH], by simp⟩ ?_)
        refine ih _ ⟨_, _, _, out ++ [v1, v2, v3], g, rfl, ?_, ?_, ?_, ?_, ?_, ?_, ?_⟩ (show (N2 - A.ib .add .i64 i n).toNat < (N2 - i).toNat from ?_)
        all_goals (try simp (disch := omega) only [hA, OK, s_le, s_inb, s_slb, s_room, s_mks, s_ne0, s_nn, s_eql, s_neq, s_lss, s_leq, s_gtr, s_geq, s_isz, s_bnot, s_beq, s_idx, s_addN, s_subN, s_mulN, s_tn, s_ofn, s_nmin, s_drp, s_tak, s_app, s_len, s_leB, s_add, s_sub, s_mul, s_wr64, s_wr8, bytesE_fold, bytesE_length, bytesE_drop, bytesE_take, bytesE_app, intsE_fold, intsE_length, decide_eq_true_eq, decide_eq_false_iff_not, Nat.mul_one, Nat.zero_add, Nat.add_zero, Bool.not_eq_true', List.length_take, List.length_drop, List.length_append, List.length_cons, List.length_nil, List.drop_zero , hoc, mvL_bytes, s_shr8, w1, w2, w3, bytesE_three, zz])
        all_goals first | omega | (rw [hv1, hv2, hv3]; exact hr) | skip
        · simp [hm]
    · -- a literal
      rw [hsmall (by omega), if_pos (by simp only)] at hr
      with_reducible refine runK hA hd hQ 200 ?hk ?_
      case hk => exact trivial
      conv => arg 8; cbv
      try simp only [OK]
      refine OKs.mask (msk 100 [0, 3, 4, 5, 8]) ?_
      obtain ⟨E0, hE0⟩ : ∃ e, e = endF (fdB b ls) b 128 i.toNat := ⟨_, rfl⟩
      have e3 := endF_le (fdB b ls) b 128 i.toNat (by omega)
      have e4 := endF_pos (fdB b ls) b i.toNat ⟨by omega, by rw [hsmall (by omega)]⟩
      rw [← hE0] at hr e3 e4
      refine OKs.loop (fun s => ∃ (e : Int), s = ⟨mkT 100 [(0, .isl N2 none c), (3, .sl 1 0 0 m none), (4, .isl N2 none c2), (5, .lit (.int .i64 i)), (8, .lit (.int .i64 e))], [.blk oc]⟩ ∧ i ≤ e ∧ e ≤ N2 ∧ e - i ≤ 128 ∧ endF (fdB b ls) b (128 - (e.toNat - i.toNat)) e.toNat = E0) (fun s => (N2 - intN (getT s.t 8)).toNat) (fun s hs ih2 => ?_)
        ⟨i, rfl, by omega, by omega, by omega, by rw [hE0, Nat.sub_self]⟩
      obtain ⟨e, rfl, he1, he2, he3, he⟩ := hs
      with_reducible refine runS hA hd hQ 200 ?hk ?_
      case hk => exact trivial
      conv => arg 8; cbv
      try simp only [OK]
      refine ⟨fun h3 => ?_, fun h3 => ?_⟩ <;> simp (disch := omega) only [hA, OK, s_le, s_inb, s_slb, s_room, s_mks, s_ne0, s_nn, s_eql, s_neq, s_lss, s_leq, s_gtr, s_geq, s_isz, s_bnot, s_beq, s_idx, s_addN, s_subN, s_mulN, s_tn, s_ofn, s_nmin, s_drp, s_tak, s_app, s_len, s_leB, s_add, s_sub, s_mul, s_wr64, s_wr8, bytesE_fold, bytesE_length, bytesE_drop, bytesE_take, bytesE_app, intsE_fold, intsE_length, decide_eq_true_eq, decide_eq_false_iff_not, Nat.mul_one, Nat.zero_add, Nat.add_zero, Bool.not_eq_true', List.length_take, List.length_drop, List.length_append, List.length_cons, List.length_nil, List.drop_zero] at h3
      · with_reducible refine runK hA hd hQ 200 ?hk ?_
        case hk => exact trivial
        conv => arg 8; cbv
        try simp only [OK]
        refine ⟨fun h4 => ?_, fun h4 => ?_⟩ <;> simp (disch := omega) only [hA, OK, s_le, s_inb, s_slb, s_room, s_mks, s_ne0, s_nn, s_eql, s_neq, s_lss, s_leq, s_gtr, s_geq, s_isz, s_bnot, s_beq, s_idx, s_addN, s_subN, s_mulN, s_tn, s_ofn, s_nmin, s_drp, s_tak, s_app, s_len, s_leB, s_add, s_sub, s_mul, s_wr64, s_wr8, bytesE_fold, bytesE_length, bytesE_drop, bytesE_take, bytesE_app, intsE_fold, intsE_length, decide_eq_true_eq, decide_eq_false_iff_not, Nat.mul_one, Nat.zero_add, Nat.add_zero, Bool.not_eq_true', List.length_take, List.length_drop, List.length_append, List.length_cons, List.length_nil, List.drop_zero] at h4
        · obtain ⟨k, hk⟩ : ∃ k, 128 - (e.toNat - i.toNat) = k + 1 := ⟨128 - (e.toNat - i.toNat) - 1, by omega⟩
          rw [hk] at he
          obtain ⟨u, u1, u2⟩ := look_atI hc2 e.toNat (by omega)
          have hbig2 := fdB_big b ls e.toNat
          have hsmall2 := fdB_small b ls e.toNat
          have hsm2 := hsame e.toNat (by omega)
          rw [← u2] at hbig2 hsmall2 hsm2
          with_reducible refine runK hA hd hQ 200 ?hk ?_
          case hk => exact trivial
          conv => arg 8; cbv
          try simp only [OK]
          refine ⟨by simp (disch := omega) only [hA, OK, s_le, s_inb, s_slb, s_room, s_mks, s_ne0, s_nn, s_eql, s_neq, s_lss, s_leq, s_gtr, s_geq, s_isz, s_bnot, s_beq, s_idx, s_addN, s_subN, s_mulN, s_tn, s_ofn, s_nmin, s_drp, s_tak, s_app, s_len, s_leB, s_add, s_sub, s_mul, s_wr64, s_wr8, bytesE_fold, bytesE_length, bytesE_drop, bytesE_take, bytesE_app, intsE_fold, intsE_length, decide_eq_true_eq, decide_eq_false_iff_not, Nat.mul_one, Nat.zero_add, Nat.add_zero, Bool.not_eq_true', List.length_take, List.length_drop, List.length_append, List.length_cons, List.length_nil, List.drop_zero] <;> omega, [.lit (.int .i64 u)], _, rfl, by simp (disch := omega) only [hA, OK, s_le, s_inb, s_slb, s_room, s_mks, s_ne0, s_nn, s_eql, s_neq, s_lss, s_leq, s_gtr, s_geq, s_isz, s_bnot, s_beq, s_idx, s_addN, s_subN, s_mulN, s_tn, s_ofn, s_nmin, s_drp, s_tak, s_app, s_len, s_leB, s_add, s_sub, s_mul, s_wr64, s_wr8, bytesE_fold, bytesE_length, bytesE_drop, bytesE_take, bytesE_app, intsE_fold, intsE_length, decide_eq_true_eq, decide_eq_false_iff_not, Nat.mul_one, Nat.zero_add, Nat.add_zero, Bool.not_eq_true', List.length_take, List.length_drop, List.length_append, List.length_cons, List.length_nil, List.drop_zero] <;> exact u1, rfl, ?_⟩
          with_reducible refine runK hA hd hQ 200 ?hk ?_
          case hk => exact trivial
          conv => arg 8; cbv
          try simp only [OK]
          refine ⟨fun h5 => ?_, fun h5 => ?_⟩ <;> simp (disch := omega) only [hA, OK, s_le, s_inb, s_slb, s_room, s_mks, s_ne0, s_nn, s_eql, s_neq, s_lss, s_leq, s_gtr, s_geq, s_isz, s_bnot, s_beq, s_idx, s_addN, s_subN, s_mulN, s_tn, s_ofn, s_nmin, s_drp, s_tak, s_app, s_len, s_leB, s_add, s_sub, s_mul, s_wr64, s_wr8, bytesE_fold, bytesE_length, bytesE_drop, bytesE_take, bytesE_app, intsE_fold, intsE_length, decide_eq_true_eq, decide_eq_false_iff_not, Nat.mul_one, Nat.zero_add, Nat.add_zero, Bool.not_eq_true', List.length_take, List.length_drop, List.length_append, List.length_cons, List.length_nil, List.drop_zero] at h5
          · -- one more
            with_reducible refine runK hA hd hQ 200 ?hk ?_
            case hk => exact trivial
            conv => arg 8; cbv
            try simp only [OK]
            rw [endF, if_pos ⟨by omega, by rw [hsmall2 (by omega)]⟩] at he
            refine OKs.mask (msk 100 [0, 3, 4, 5, 8]) ?_
            refine ih2 _ ⟨_, rfl, ?_, ?_, ?_, ?_⟩ (show (N2 - A.ib .add .i64 e 1).toNat < (N2 - e).toNat from ?_)
            all_goals (try simp (disch := omega) only [hA, OK, s_le, s_inb, s_slb, s_room, s_mks, s_ne0, s_nn, s_eql, s_neq, s_lss, s_leq, s_gtr, s_geq, s_isz, s_bnot, s_beq, s_idx, s_addN, s_subN, s_mulN, s_tn, s_ofn, s_nmin, s_drp, s_tak, s_app, s_len, s_leB, s_add, s_sub, s_mul, s_wr64, s_wr8, bytesE_fold, bytesE_length, bytesE_drop, bytesE_take, bytesE_app, intsE_fold, intsE_length, decide_eq_true_eq, decide_eq_false_iff_not, Nat.mul_one, Nat.zero_add, Nat.add_zero, Bool.not_eq_true', List.length_take, List.length_drop, List.length_append, List.length_cons, List.length_nil, List.drop_zero])
            all_goals first | omega | (rw [show (e + 1).toNat = e.toNat + 1 by omega, show 128 - (e.toNat + 1 - i.toNat) = k by omega]; exact he)
          · -- a reference begins
            have hE : E0 = e.toNat := by
              rw [← he]
              have h6 := mtF_ge b u.toNat e.toNat 127 4
              exact endF_stop _ _ _ _ fun h => by rw [hbig2 (by omega)] at h; simp only at h; omega
            with_reducible refine runK hA hd hQ 200 ?hk ?_
            case hk => exact trivial
            conv => arg 8; cbv
            try simp only [OK]
            have x3 : ((b.drop i.toNat).take (E0 - i.toNat)).length = E0 - i.toNat := by rw [List.length_take, List.length_drop]; omega
            have x4 : e.toNat - i.toNat = E0 - i.toNat := by omega
            have t2 := literal_ref out ((b.drop i.toNat).take (E0 - i.toNat)) (by rw [x3]; omega) (by omega) m oc hm hoc (A.sub (A.tn e) (A.tn i)) (A.drp (A.mul (A.tn i) 1) c) (by rw [x3]; simp (disch := omega) only [hA, OK, s_le, s_inb, s_slb, s_room, s_mks, s_ne0, s_nn, s_eql, s_neq, s_lss, s_leq, s_gtr, s_geq, s_isz, s_bnot, s_beq, s_idx, s_addN, s_subN, s_mulN, s_tn, s_ofn, s_nmin, s_drp, s_tak, s_app, s_len, s_leB, s_add, s_sub, s_mul, s_wr64, s_wr8, bytesE_fold, bytesE_length, bytesE_drop, bytesE_take, bytesE_app, intsE_fold, intsE_length, decide_eq_true_eq, decide_eq_false_iff_not, Nat.mul_one, Nat.zero_add, Nat.add_zero, Bool.not_eq_true', List.length_take, List.length_drop, List.length_append, List.length_cons, List.length_nil, List.drop_zero , x4]) (by simp (disch := omega) only [hA, OK, s_le, s_inb, s_slb, s_room, s_mks, s_ne0, s_nn, s_eql, s_neq, s_lss, s_leq, s_gtr, s_geq, s_isz, s_bnot, s_beq, s_idx, s_addN, s_subN, s_mulN, s_tn, s_ofn, s_nmin, s_drp, s_tak, s_app, s_len, s_leB, s_add, s_sub, s_mul, s_wr64, s_wr8, bytesE_fold, bytesE_length, bytesE_drop, bytesE_take, bytesE_app, intsE_fold, intsE_length, decide_eq_true_eq, decide_eq_false_iff_not, Nat.mul_one, Nat.zero_add, Nat.add_zero, Bool.not_eq_true', List.length_take, List.length_drop, List.length_append, List.length_cons, List.length_nil, List.drop_zero , hc, x4, List.take_take, Nat.min_self]) (by simp (disch := omega) only [hA, OK, s_le, s_inb, s_slb, s_room, s_mks, s_ne0, s_nn, s_eql, s_neq, s_lss, s_leq, s_gtr, s_geq, s_isz, s_bnot, s_beq, s_idx, s_addN, s_subN, s_mulN, s_tn, s_ofn, s_nmin, s_drp, s_tak, s_app, s_len, s_leB, s_add, s_sub, s_mul, s_wr64, s_wr8, bytesE_fold, bytesE_length, bytesE_drop, bytesE_take, bytesE_app, intsE_fold, intsE_length, decide_eq_true_eq, decide_eq_false_iff_not, Nat.mul_one, Nat.zero_add, Nat.add_zero, Bool.not_eq_true', List.length_take, List.length_drop, List.length_append, List.length_cons, List.length_nil, List.drop_zero , hc, x4] <;> omega)
            rw [x3] at t2
            refine ⟨by simp (disch := omega) only [hA, OK, s_le, s_inb, s_slb, s_room, s_mks, s_ne0, s_nn, s_eql, s_neq, s_lss, s_leq, s_gtr, s_geq, s_isz, s_bnot, s_beq, s_idx, s_addN, s_subN, s_mulN, s_tn, s_ofn, s_nmin, s_drp, s_tak, s_app, s_len, s_leB, s_add, s_sub, s_mul, s_wr64, s_wr8, bytesE_fold, bytesE_length, bytesE_drop, bytesE_take, bytesE_app, intsE_fold, intsE_length, decide_eq_true_eq, decide_eq_false_iff_not, Nat.mul_one, Nat.zero_add, Nat.add_zero, Bool.not_eq_true', List.length_take, List.length_drop, List.length_append, List.length_cons, List.length_nil, List.drop_zero , hc] <;> omega, goodF_of F29_ok, t2.mono fun v h' hx => ?_⟩
            obtain ⟨m', oc', hv, hh, hm', hoc'⟩ := hx
            subst hv; subst hh
            with_reducible refine runK hA hd hQ 200 ?hk ?_
            case hk => exact trivial
            conv => arg 8; cbv
            try simp only [OK]
            refine OKs.mask (msk 100 [0, 3, 4, 5]) (OKs.mv [1] [] (by rw [hρ]; rfl) ⟨by simp, by simp [sizeH], by simp⟩ ?_)
            refine ih _ ⟨_, _, _, out ++ (E0 - i.toNat - 1) :: (b.drop i.toNat).take (E0 - i.toNat), g, rfl, hm', ?_, ?_, ?_, ?_, ?_, ?_⟩ (show (N2 - e).toNat < (N2 - i).toNat from ?_)
            all_goals (try simp (disch := omega) only [hA, OK, s_le, s_inb, s_slb, s_room, s_mks, s_ne0, s_nn, s_eql, s_neq, s_lss, s_leq, s_gtr, s_geq, s_isz, s_bnot, s_beq, s_idx, s_addN, s_subN, s_mulN, s_tn, s_ofn, s_nmin, s_drp, s_tak, s_app, s_len, s_leB, s_add, s_sub, s_mul, s_wr64, s_wr8, bytesE_fold, bytesE_length, bytesE_drop, bytesE_take, bytesE_app, intsE_fold, intsE_length, decide_eq_true_eq, decide_eq_false_iff_not, Nat.mul_one, Nat.zero_add, Nat.add_zero, Bool.not_eq_true', List.length_take, List.length_drop, List.length_append, List.length_cons, List.length_nil, List.drop_zero , hoc', mvL_bytes, x3])
            all_goals first | omega | (rw [show e.toNat = E0 by omega]; exact hr) | skip
        · -- full
          have hE : E0 = e.toNat := by rw [← he, show 128 - (e.toNat - i.toNat) = 0 by omega]; rfl
          with_reducible refine runK hA hd hQ 200 ?hk ?_
          case hk => exact trivial
          conv => arg 8; cbv
          try simp only [OK]
          have x3 : ((b.drop i.toNat).take (E0 - i.toNat)).length = E0 - i.toNat := by rw [List.length_take, List.length_drop]; omega
          have x4 : e.toNat - i.toNat = E0 - i.toNat := by omega
          have t2 := literal_ref out ((b.drop i.toNat).take (E0 - i.toNat)) (by rw [x3]; omega) (by omega) m oc hm hoc (A.sub (A.tn e) (A.tn i)) (A.drp (A.mul (A.tn i) 1) c) (by rw [x3]; simp (disch := omega) only [hA, OK, s_le, s_inb, s_slb, s_room, s_mks, s_ne0, s_nn, s_eql, s_neq, s_lss, s_leq, s_gtr, s_geq, s_isz, s_bnot, s_beq, s_idx, s_addN, s_subN, s_mulN, s_tn, s_ofn, s_nmin, s_drp, s_tak, s_app, s_len, s_leB, s_add, s_sub, s_mul, s_wr64, s_wr8, bytesE_fold, bytesE_length, bytesE_drop, bytesE_take, bytesE_app, intsE_fold, intsE_length, decide_eq_true_eq, decide_eq_false_iff_not, Nat.mul_one, Nat.zero_add, Nat.add_zero, Bool.not_eq_true', List.length_take, List.length_drop, List.length_append, List.length_cons, List.length_nil, List.drop_zero , x4]) (by simp (disch := omega) only [hA, OK, s_le, s_inb, s_slb, s_room, s_mks, s_ne0, s_nn, s_eql, s_neq, s_lss, s_leq, s_gtr, s_geq, s_isz, s_bnot, s_beq, s_idx, s_addN, s_subN, s_mulN, s_tn, s_ofn, s_nmin, s_drp, s_tak, s_app, s_len, s_leB, s_add, s_sub, s_mul, s_wr64, s_wr8, bytesE_fold, bytesE_length, bytesE_drop, bytesE_take, bytesE_app, intsE_fold, intsE_length, decide_eq_true_eq, decide_eq_false_iff_not, Nat.mul_one, Nat.zero_add, Nat.add_zero, Bool.not_eq_true', List.length_take, List.length_drop, List.length_append, List.length_cons, List.length_nil, List.drop_zero , hc, x4, List.take_take, Nat.min_self]) (by simp (disch := omega) only [hA, OK, s_le, s_inb, s_slb, s_room, s_mks, s_ne0, s_nn, s_eql, s_neq, s_lss, s_leq, s_gtr, s_geq, s_isz, s_bnot, s_beq, s_idx, s_addN, s_subN, s_mulN, s_tn, s_ofn, s_nmin, s_drp, s_tak, s_app, s_len, s_leB, s_add, s_sub, s_mul, s_wr64, s_wr8, bytesE_fold, bytesE_length, bytesE_drop, bytesE_take, bytesE_app, intsE_fold, intsE_length, decide_eq_true_eq, decide_eq_false_iff_not, Nat.mul_one, Nat.zero_add, Nat.add_zero, Bool.not_eq_true', List.length_take, List.length_drop, List.length_append, List.length_cons, List.length_nil, List.drop_zero , hc, x4] <;> omega)
          rw [x3] at t2
          refine ⟨by simp (disch := omega) only [hA, OK, s_le, s_inb, s_slb, s_room, s_mks, s_ne0, s_nn, s_eql, s_neq, s_lss, s_leq, s_gtr, s_geq, s_isz, s_bnot, s_beq, s_idx, s_addN, s_subN, s_mulN, s_tn, s_ofn, s_nmin, s_drp, s_tak, s_app, s_len, s_leB, s_add, s_sub, s_mul, s_wr64, s_wr8, bytesE_fold, bytesE_length, bytesE_drop, bytesE_take, bytesE_app, intsE_fold, intsE_length, decide_eq_true_eq, decide_eq_false_iff_not, Nat.mul_one, Nat.zero_add, Nat.add_zero, Bool.not_eq_true', List.length_take, List.length_drop, List.length_append, List.length_cons, List.length_nil, List.drop_zero , hc] <;> omega, goodF_of F29_ok, t2.mono fun v h' hx => ?_⟩
          obtain ⟨m', oc', hv, hh, hm', hoc'⟩ := hx
          subst hv; subst hh
          with_reducible refine runK hA hd hQ 200 ?hk ?_
          case hk => exact trivial
          conv => arg 8; cbv
          try simp only [OK]
          refine OKs.mask (msk 100 [0, 3, 4, 5]) (OKs.mv [1] [] (by rw [hρ]; rfl) ⟨by simp, by simp [sizeH], by simp⟩ ?_)
          refine ih _ ⟨_, _, _, out ++ (E0 - i.toNat - 1) :: (b.drop i.toNat).take (E0 - i.toNat), g, rfl, hm', ?_, ?_, ?_, ?_, ?_, ?_⟩ (show (N2 - e).toNat < (N2 - i).toNat from ?_)
          all_goals (try simp (disch := omega) only [hA, OK, s_le, s_inb, s_slb, s_room, s_mks, s_ne0, s_nn, s_eql, s_neq, s_lss, s_leq, s_gtr, s_geq, s_isz, s_bnot, s_beq, s_idx, s_addN, s_subN, s_mulN, s_tn, s_ofn, s_nmin, s_drp, s_tak, s_app, s_len, s_leB, s_add, s_sub, s_mul, s_wr64, s_wr8, bytesE_fold, bytesE_length, bytesE_drop, bytesE_take, bytesE_app, intsE_fold, intsE_length, decide_eq_true_eq, decide_eq_false_iff_not, Nat.mul_one, Nat.zero_add, Nat.add_zero, Bool.not_eq_true', List.length_take, List.length_drop, List.length_append, List.length_cons, List.length_nil, List.drop_zero , hoc', mvL_bytes, x3])
          all_goals first | omega | (rw [show e.toNat = E0 by omega]; exact hr) | skip
      · -- the end
        have hE : E0 = e.toNat := by rw [← he]; exact endF_stop _ _ _ _ (by omega)
        with_reducible refine runK hA hd hQ 200 ?hk ?_
        case hk => exact trivial
        conv => arg 8; cbv
        try simp only [OK]
        have x3 : ((b.drop i.toNat).take (E0 - i.toNat)).length = E0 - i.toNat := by rw [List.length_take, List.length_drop]; omega
        have x4 : e.toNat - i.toNat = E0 - i.toNat := by omega
        have t2 := literal_ref out ((b.drop i.toNat).take (E0 - i.toNat)) (by rw [x3]; omega) (by omega) m oc hm hoc (A.sub (A.tn e) (A.tn i)) (A.drp (A.mul (A.tn i) 1) c) (by rw [x3]; simp (disch := omega) only [hA, OK, s_le, s_inb, s_slb, s_room, s_mks, s_ne0, s_nn, s_eql, s_neq, s_lss, s_leq, s_gtr, s_geq, s_isz, s_bnot, s_beq, s_idx, s_addN, s_subN, s_mulN, s_tn, s_ofn, s_nmin, s_drp, s_tak, s_app, s_len, s_leB, s_add, s_sub, s_mul, s_wr64, s_wr8, bytesE_fold, bytesE_length, bytesE_drop, bytesE_take, bytesE_app, intsE_fold, intsE_length, decide_eq_true_eq, decide_eq_false_iff_not, Nat.mul_one, Nat.zero_add, Nat.add_zero, Bool.not_eq_true', List.length_take, List.length_drop, List.length_append, List.length_cons, List.length_nil, List.drop_zero , x4]) (by simp (disch := omega) only [hA, OK, s_le, s_inb, s_slb, s_room, s_mks, s_ne0, s_nn, s_eql, s_neq, s_lss, s_leq, s_gtr, s_geq, s_isz, s_bnot, s_beq, s_idx, s_addN, s_subN, s_mulN, s_tn, s_ofn, s_nmin, s_drp, s_tak, s_app, s_len, s_leB, s_add, s_sub, s_mul, s_wr64, s_wr8, bytesE_fold, bytesE_length, bytesE_drop, bytesE_take, bytesE_app, intsE_fold, intsE_length, decide_eq_true_eq, decide_eq_false_iff_not, Nat.mul_one, Nat.zero_add, Nat.add_zero, Bool.not_eq_true', List.length_take, List.length_drop, List.length_append, List.length_cons, List.length_nil, List.drop_zero , hc, x4, List.take_take, Nat.min_self]) (by simp (disch := omega) only [hA, OK, s_le, s_inb, s_slb, s_room, s_mks, s_ne0, s_nn, s_eql, s_neq, s_lss, s_leq, s_gtr, s_geq, s_isz, s_bnot, s_beq, s_idx, s_addN, s_subN, s_mulN, s_tn, s_ofn, s_nmin, s_drp, s_tak, s_app, s_len, s_leB, s_add, s_sub, s_mul, s_wr64, s_wr8, bytesE_fold, bytesE_length, bytesE_drop, bytesE_take, bytesE_app, intsE_fold, intsE_length, decide_eq_true_eq, decide_eq_false_iff_not, Nat.mul_one, Nat.zero_add, Nat.add_zero, Bool.not_eq_true', List.length_take, List.length_drop, List.length_append, List.length_cons, List.length_nil, List.drop_zero , hc, x4] <;> omega)
        rw [x3] at t2
        refine ⟨by simp (disch := omega) only [hA, OK, s_le, s_inb, s_slb, s_room, s_mks, s_ne0, s_nn, s_eql, s_neq, s_lss, s_leq, s_gtr, s_geq, s_isz, s_bnot, s_beq, s_idx, s_addN, s_subN, s_mulN, s_tn, s_ofn, s_nmin, s_drp, s_tak, s_app, s_len, s_leB, s_add, s_sub, s_mul, s_wr64, s_wr8, bytesE_fold, bytesE_length, bytesE_drop, bytesE_take, bytesE_app, intsE_fold, intsE_length, decide_eq_true_eq, decide_eq_false_iff_not, Nat.mul_one, Nat.zero_add, Nat.add_zero, Bool.not_eq_true', List.length_take, List.length_drop, List.length_append, List.length_cons, List.length_nil, List.drop_zero , hc] <;> omega, goodF_of F29_ok, t2.mono fun v h' hx => ?_⟩
        obtain ⟨m', oc', hv, hh, hm', hoc'⟩ := hx
        subst hv; subst hh
        with_reducible refine runK hA hd hQ 200 ?hk ?_
        case hk => exact trivial
        conv => arg 8; cbv
        try simp only [OK]
        refine OKs.mask (msk 100 [0, 3, 4, 5]) (OKs.mv [1] [] (by rw [hρ]; rfl) ⟨by simp, by simp [sizeH], by simp⟩ ?_)
        refine ih _ ⟨_, _, _, out ++ (E0 - i.toNat - 1) :: (b.drop i.toNat).take (E0 - i.toNat), g, rfl, hm', ?_, ?_, ?_, ?_, ?_, ?_⟩ (show (N2 - e).toNat < (N2 - i).toNat from ?_)
        all_goals (try simp (disch := omega) only [hA, OK, s_le, s_inb, s_slb, s_room, s_mks, s_ne0, s_nn, s_eql, s_neq, s_lss, s_leq, s_gtr, s_geq, s_isz, s_bnot, s_beq, s_idx, s_addN, s_subN, s_mulN, s_tn, s_ofn, s_nmin, s_drp, s_tak, s_app, s_len, s_leB, s_add, s_sub, s_mul, s_wr64, s_wr8, bytesE_fold, bytesE_length, bytesE_drop, bytesE_take, bytesE_app, intsE_fold, intsE_length, decide_eq_true_eq, decide_eq_false_iff_not, Nat.mul_one, Nat.zero_add, Nat.add_zero, Bool.not_eq_true', List.length_take, List.length_drop, List.length_append, List.length_cons, List.length_nil, List.drop_zero , hoc', mvL_bytes, x3])
        all_goals first | omega | (rw [show e.toNat = E0 by omega]; exact hr) | skip
  · with_reducible refine runK hA hd hQ 200 ?hk ?_
    case hk => exact trivial
    conv => arg 8; cbv
    try simp only [OK]
    rw [rkF_stop _ _ _ _ _ (by omega)] at hr
    exact ⟨_, rfl, .inr ⟨0, none, by rw [← hr, ← hm]; rfl, by rw [← hr, ← hoc]; rfl⟩⟩

end Go.Proofs.Ytplibngmgebigaa.Press
