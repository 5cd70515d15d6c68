/- Pr20: the document's packing by runs. No conditions beyond those written. -/
import Derived.Test.YtplibngmgebigaaPr19
set_option linter.unusedVariables false
set_option linter.unusedSimpArgs false
namespace Go.Proofs.Ytplibngmgebigaa.Press
open Go Go.Proofs.Ytplibngmgebigaa Go.Proofs.Ytplibngmgebigaa.Em

theorem fdR_big (b : List Nat) (p : Nat) (h : ¬ runF b (b.getD p 0) p 129 1 < 3) : fdR b p = (runF b (b.getD p 0) p 129 1, [runF b (b.getD p 0) p 129 1 + 125, b.getD p 0]) := by
  simp only [fdR, if_neg h]
theorem fdR_small (b : List Nat) (p : Nat) (h : runF b (b.getD p 0) p 129 1 < 3) : fdR b p = (0, []) := by
  simp only [fdR, if_pos h]

theorem bytesE_two (a b : Nat) : [EV.lit (.int .u8 (a : Int)), .lit (.int .u8 (b : Int))] = bytesE [a, b] := rfl

set_option maxHeartbeats 4000000 in
theorem packRuns_ref (b : List Nat) (hb : AllB b) (hl : b.length ≤ 65536) :
    Tri Try.prog [] 25 [isB b] [] fun v h => v = isB (pkF (fdR b) b b.length 0 0 []) ∧ h = [] := by
  rw [show pkF (fdR b) b b.length 0 0 [] = rkF (fdR b) b b.length 0 [] from (rkF_pkF (fdR b) b (fun p hp h => (fdR_ok b hb p hp h).1) b.length 0 [] (by omega) (by omega)).symm]
  refine Tri.frozen1 ?_
  refine Tri_of F25_ok fun I0 ρ0 w0 Q hρ hQ => ?_
  obtain ⟨A, hA⟩ : ∃ A, A = stdA := ⟨_, rfl⟩
  obtain ⟨N, c, hi, hN, hc⟩ := isB_open b
  rw [hi]
  obtain ⟨R0, hR0⟩ : ∃ r, r = rkF (fdR b) b b.length 0 [] := ⟨_, rfl⟩
  rw [← hR0] at hQ
  with_reducible refine runS hA hd hQ 100 ?hk ?_
  case hk => exact trivial
  conv => arg 8; cbv
  try simp only [OK]
  refine OKs.mask (msk 57 [0, 3, 4]) (OKs.up 3 (.sl 1 0 0 0 none) (Up.scap _ _ _ _ _) ?_)
  refine OKs.loop (fun s => ∃ (i : Int) (m : Nat) (oc : List EV) (out : List Nat) (f : Nat), s = ⟨mkT 57 [(0, .isl N none c), (3, .sl 1 0 0 m none), (4, .lit (.int .i64 i))], [.blk oc]⟩ ∧ m = out.length ∧ oc = bytesE out ∧ out.length ≤ 2 * i.toNat ∧ 0 ≤ i ∧ i ≤ N ∧ N - i.toNat ≤ f ∧ rkF (fdR b) b f i.toNat out = R0) (fun s => (N - intN (getT s.t 4)).toNat) (fun s hs ih => ?_)
    ⟨0, 0, [], [], N, rfl, rfl, rfl, by simp, by omega, by omega, by omega, by rw [hR0, hN]; rfl⟩
  obtain ⟨i, m, oc, out, f, rfl, hm, hoc, hob, hi0, hi1, hf, hr⟩ := hs
  with_reducible refine runS hA hd hQ 200 ?hk ?_
  case hk => exact trivial
  conv => arg 8; cbv
  try simp only [OK]
  refine ⟨fun h1 => ?_, fun h1 => ?_⟩ <;> simp (disch := omega) only [hA, OK, s_le, s_inb, s_slb, s_room, s_mks, s_ne0, s_nn, s_eql, s_neq, s_lss, s_leq, s_gtr, s_geq, s_isz, s_bnot, s_beq, s_idx, s_addN, s_subN, s_mulN, s_tn, s_ofn, s_nmin, s_drp, s_tak, s_app, s_len, s_leB, s_add, s_sub, s_mul, s_wr64, s_wr8, bytesE_fold, bytesE_length, bytesE_drop, bytesE_take, bytesE_app, intsE_fold, intsE_length, decide_eq_true_eq, decide_eq_false_iff_not, Nat.mul_one, Nat.zero_add, Nat.add_zero, Bool.not_eq_true', List.length_take, List.length_drop, List.length_append, List.length_cons, List.length_nil, List.drop_zero] at h1
  · obtain ⟨g, rfl⟩ : ∃ g, f = g + 1 := ⟨f - 1, by omega⟩
    have t := run_ref b hb hl i.toNat (by omega)
    rw [hi, show ((i.toNat : Nat) : Int) = i by omega] at t
    obtain ⟨n, hn⟩ : ∃ n, n = runF b (b.getD i.toNat 0) i.toNat 129 1 := ⟨_, rfl⟩
    have hn1 := runF_ge b (b.getD i.toNat 0) i.toNat 129 1
    have hn2 := runF_le b (b.getD i.toNat 0) i.toNat 129 1 (by omega)
    have hbig := fdR_big b i.toNat
    have hsmall := fdR_small b i.toNat
    rw [← hn] at t hn1 hn2 hbig hsmall
    obtain ⟨nz, hnz⟩ : ∃ nz : Int, nz = (n : Int) := ⟨_, rfl⟩
    rw [← hnz] at t
    rw [rkF, if_pos (by omega)] at hr
    with_reducible refine runK hA hd hQ 200 ?hk ?_
    case hk => exact trivial
    conv => arg 8; cbv
    try simp only [OK]
    refine ⟨goodF_of F28_ok, (Tri.clean rfl rfl t _).mono fun v h' hx => ?_⟩
    obtain ⟨hv, hh⟩ := hx
    subst hv; subst hh
    with_reducible refine runK hA hd hQ 200 ?hk ?_
    case hk => exact trivial
    conv => arg 8; cbv
    try simp only [OK]
    refine ⟨fun h2 => ?_, fun h2 => ?_⟩ <;> simp (disch := omega) only [hA, OK, s_le, s_inb, s_slb, s_room, s_mks, s_ne0, s_nn, s_eql, s_neq, s_lss, s_leq, s_gtr, s_geq, s_isz, s_bnot, s_beq, s_idx, s_addN, s_subN, s_mulN, s_tn, s_ofn, s_nmin, s_drp, s_tak, s_app, s_len, s_leB, s_add, s_sub, s_mul, s_wr64, s_wr8, bytesE_fold, bytesE_length, bytesE_drop, bytesE_take, bytesE_app, intsE_fold, intsE_length, decide_eq_true_eq, decide_eq_false_iff_not, Nat.mul_one, Nat.zero_add, Nat.add_zero, Bool.not_eq_true', List.length_take, List.length_drop, List.length_append, List.length_cons, List.length_nil, List.drop_zero] at h2
    · -- a run
      have hbg := hbig (by omega)
      rw [hbg, if_neg (by simp only; omega)] at hr
      simp only at hr
      with_reducible refine runK hA hd hQ 200 ?hk ?_
      case hk => exact trivial
      conv => arg 8; cbv
      try simp only [OK]
      obtain ⟨x, x1, x2⟩ := look_at hc i.toNat (by omega)
      refine ⟨by simp (disch := omega) only [hA, OK, s_le, s_inb, s_slb, s_room, s_mks, s_ne0, s_nn, s_eql, s_neq, s_lss, s_leq, s_gtr, s_geq, s_isz, s_bnot, s_beq, s_idx, s_addN, s_subN, s_mulN, s_tn, s_ofn, s_nmin, s_drp, s_tak, s_app, s_len, s_leB, s_add, s_sub, s_mul, s_wr64, s_wr8, bytesE_fold, bytesE_length, bytesE_drop, bytesE_take, bytesE_app, intsE_fold, intsE_length, decide_eq_true_eq, decide_eq_false_iff_not, Nat.mul_one, Nat.zero_add, Nat.add_zero, Bool.not_eq_true', List.length_take, List.length_drop, List.length_append, List.length_cons, List.length_nil, List.drop_zero] <;> omega, [.lit (.int .u8 x)], _, rfl, by simp (disch := omega) only [hA, OK, s_le, s_inb, s_slb, s_room, s_mks, s_ne0, s_nn, s_eql, s_neq, s_lss, s_leq, s_gtr, s_geq, s_isz, s_bnot, s_beq, s_idx, s_addN, s_subN, s_mulN, s_tn, s_ofn, s_nmin, s_drp, s_tak, s_app, s_len, s_leB, s_add, s_sub, s_mul, s_wr64, s_wr8, bytesE_fold, bytesE_length, bytesE_drop, bytesE_take, bytesE_app, intsE_fold, intsE_length, decide_eq_true_eq, decide_eq_false_iff_not, Nat.mul_one, Nat.zero_add, Nat.add_zero, Bool.not_eq_true', List.length_take, List.length_drop, List.length_append, List.length_cons, List.length_nil, List.drop_zero] <;> exact x1, rfl, ?_⟩
      with_reducible refine runK hA hd hQ 200 ?hk ?_
      case hk => exact trivial
      conv => arg 8; cbv
      try simp only [OK]
      have e2 : nz + 125 = ((n + 125 : Nat) : Int) := by omega
      refine ⟨by simp (disch := omega) only [hA, OK, s_le, s_inb, s_slb, s_room, s_mks, s_ne0, s_nn, s_eql, s_neq, s_lss, s_leq, s_gtr, s_geq, s_isz, s_bnot, s_beq, s_idx, s_addN, s_subN, s_mulN, s_tn, s_ofn, s_nmin, s_drp, s_tak, s_app, s_len, s_leB, s_add, s_sub, s_mul, s_wr64, s_wr8, bytesE_fold, bytesE_length, bytesE_drop, bytesE_take, bytesE_app, intsE_fold, intsE_length, decide_eq_true_eq, decide_eq_false_iff_not, Nat.mul_one, Nat.zero_add, Nat.add_zero, Bool.not_eq_true', List.length_take, List.length_drop, List.length_append, List.length_cons, List.length_nil, List.drop_zero] <;> simp, by simp (disch := omega) only [hA, OK, s_le, s_inb, s_slb, s_room, s_mks, s_ne0, s_nn, s_eql, s_neq, s_lss, s_leq, s_gtr, s_geq, s_isz, s_bnot, s_beq, s_idx, s_addN, s_subN, s_mulN, s_tn, s_ofn, s_nmin, s_drp, s_tak, s_app, s_len, s_leB, s_add, s_sub, s_mul, s_wr64, s_wr8, bytesE_fold, bytesE_length, bytesE_drop, bytesE_take, bytesE_app, intsE_fold, intsE_length, decide_eq_true_eq, decide_eq_false_iff_not, Nat.mul_one, Nat.zero_add, Nat.add_zero, Bool.not_eq_true', List.length_take, List.length_drop, List.length_append, List.length_cons, List.length_nil, List.drop_zero , hoc] <;> omega, by simp (disch := omega) only [hA, OK, s_le, s_inb, s_slb, s_room, s_mks, s_ne0, s_nn, s_eql, s_neq, s_lss, s_leq, s_gtr, s_geq, s_isz, s_bnot, s_beq, s_idx, s_addN, s_subN, s_mulN, s_tn, s_ofn, s_nmin, s_drp, s_tak, s_app, s_len, s_leB, s_add, s_sub, s_mul, s_wr64, s_wr8, bytesE_fold, bytesE_length, bytesE_drop, bytesE_take, bytesE_app, intsE_fold, intsE_length, decide_eq_true_eq, decide_eq_false_iff_not, Nat.mul_one, Nat.zero_add, Nat.add_zero, Bool.not_eq_true', List.length_take, List.length_drop, List.length_append, List.length_cons, List.length_nil, List.drop_zero] <;> omega, ?_⟩
      refine OKs.mask (msk 57 [0, 3, 4]) (OKs.mv [2] [] (by rw [hρ]; rfl) ⟨by simp, by simp [sizeH], by simp⟩ ?_)
      have zz : (i + nz).toNat = i.toNat + n := by omega
      refine ih _ ⟨_, _, _, out ++ [n + 125, b.getD i.toNat 0], g, rfl, ?_, ?_, ?_, ?_, ?_, ?_, ?_⟩ (show (N - A.ib .add .i64 i nz).toNat < (N - i).toNat from ?_)
      all_goals (try simp (disch := omega) only [hA, OK, s_le, s_inb, s_slb, s_room, s_mks, s_ne0, s_nn, s_eql, s_neq, s_lss, s_leq, s_gtr, s_geq, s_isz, s_bnot, s_beq, s_idx, s_addN, s_subN, s_mulN, s_tn, s_ofn, s_nmin, s_drp, s_tak, s_app, s_len, s_leB, s_add, s_sub, s_mul, s_wr64, s_wr8, bytesE_fold, bytesE_length, bytesE_drop, bytesE_take, bytesE_app, intsE_fold, intsE_length, decide_eq_true_eq, decide_eq_false_iff_not, Nat.mul_one, Nat.zero_add, Nat.add_zero, Bool.not_eq_true', List.length_take, List.length_drop, List.length_append, List.length_cons, List.length_nil, List.drop_zero , hoc, mvL_bytes, x2, e2, bytesE_two, zz])
      all_goals first | omega | exact hr | skip
      · simp [hm]
    · -- a literal
      rw [hsmall (by omega), if_pos (by simp only)] at hr
      with_reducible refine runK hA hd hQ 200 ?hk ?_
      case hk => exact trivial
      conv => arg 8; cbv
      try simp only [OK]
      refine OKs.mask (msk 57 [0, 3, 4, 6]) ?_
      obtain ⟨E0, hE0⟩ : ∃ e, e = endF (fdR b) b 128 i.toNat := ⟨_, rfl⟩
      have e3 := endF_le (fdR b) b 128 i.toNat (by omega)
      have e4 := endF_pos (fdR b) b i.toNat ⟨by omega, by rw [hsmall (by omega)]⟩
      rw [← hE0] at hr e3 e4
      refine OKs.loop (fun s => ∃ (e : Int), s = ⟨mkT 57 [(0, .isl N none c), (3, .sl 1 0 0 m none), (4, .lit (.int .i64 i)), (6, .lit (.int .i64 e))], [.blk oc]⟩ ∧ i ≤ e ∧ e ≤ N ∧ e - i ≤ 128 ∧ endF (fdR b) b (128 - (e.toNat - i.toNat)) e.toNat = E0) (fun s => (N - intN (getT s.t 6)).toNat) (fun s hs ih2 => ?_)
        ⟨i, rfl, by omega, by omega, by omega, by rw [hE0, Nat.sub_self]⟩
      obtain ⟨e, rfl, he1, he2, he3, he⟩ := hs
      with_reducible refine runS hA hd hQ 200 ?hk ?_
      case hk => exact trivial
      conv => arg 8; cbv
      try simp only [OK]
      refine ⟨fun h3 => ?_, fun h3 => ?_⟩ <;> simp (disch := omega) only [hA, OK, s_le, s_inb, s_slb, s_room, s_mks, s_ne0, s_nn, s_eql, s_neq, s_lss, s_leq, s_gtr, s_geq, s_isz, s_bnot, s_beq, s_idx, s_addN, s_subN, s_mulN, s_tn, s_ofn, s_nmin, s_drp, s_tak, s_app, s_len, s_leB, s_add, s_sub, s_mul, s_wr64, s_wr8, bytesE_fold, bytesE_length, bytesE_drop, bytesE_take, bytesE_app, intsE_fold, intsE_length, decide_eq_true_eq, decide_eq_false_iff_not, Nat.mul_one, Nat.zero_add, Nat.add_zero, Bool.not_eq_true', List.length_take, List.length_drop, List.length_append, List.length_cons, List.length_nil, List.drop_zero] at h3
      · with_reducible refine runK hA hd hQ 200 ?hk ?_
        case hk => exact trivial
        conv => arg 8; cbv
        try simp only [OK]
        refine ⟨fun h4 => ?_, fun h4 => ?_⟩ <;> simp (disch := omega) only [hA, OK, s_le, s_inb, s_slb, s_room, s_mks, s_ne0, s_nn, s_eql, s_neq, s_lss, s_leq, s_gtr, s_geq, s_isz, s_bnot, s_beq, s_idx, s_addN, s_subN, s_mulN, s_tn, s_ofn, s_nmin, s_drp, s_tak, s_app, s_len, s_leB, s_add, s_sub, s_mul, s_wr64, s_wr8, bytesE_fold, bytesE_length, bytesE_drop, bytesE_take, bytesE_app, intsE_fold, intsE_length, decide_eq_true_eq, decide_eq_false_iff_not, Nat.mul_one, Nat.zero_add, Nat.add_zero, Bool.not_eq_true', List.length_take, List.length_drop, List.length_append, List.length_cons, List.length_nil, List.drop_zero] at h4
        · obtain ⟨k, hk⟩ : ∃ k, 128 - (e.toNat - i.toNat) = k + 1 := ⟨128 - (e.toNat - i.toNat) - 1, by omega⟩
          rw [hk] at he
          have t1 := run_ref b hb hl e.toNat (by omega)
          rw [hi, show ((e.toNat : Nat) : Int) = e by omega] at t1
          obtain ⟨u, hu⟩ : ∃ n, n = runF b (b.getD e.toNat 0) e.toNat 129 1 := ⟨_, rfl⟩
          have hbig2 := fdR_big b e.toNat
          have hsmall2 := fdR_small b e.toNat
          rw [← hu] at t1 hbig2 hsmall2
          obtain ⟨uz, huz⟩ : ∃ nz : Int, nz = (u : Int) := ⟨_, rfl⟩
          rw [← huz] at t1
          with_reducible refine runK hA hd hQ 200 ?hk ?_
          case hk => exact trivial
          conv => arg 8; cbv
          try simp only [OK]
          refine ⟨goodF_of F28_ok, (Tri.clean rfl rfl t1 _).mono fun v h' hx => ?_⟩
          obtain ⟨hv, hh⟩ := hx
          subst hv; subst hh
          with_reducible refine runK hA hd hQ 200 ?hk ?_
          case hk => exact trivial
          conv => arg 8; cbv
          try simp only [OK]
          refine ⟨fun h5 => ?_, fun h5 => ?_⟩ <;> simp (disch := omega) only [hA, OK, s_le, s_inb, s_slb, s_room, s_mks, s_ne0, s_nn, s_eql, s_neq, s_lss, s_leq, s_gtr, s_geq, s_isz, s_bnot, s_beq, s_idx, s_addN, s_subN, s_mulN, s_tn, s_ofn, s_nmin, s_drp, s_tak, s_app, s_len, s_leB, s_add, s_sub, s_mul, s_wr64, s_wr8, bytesE_fold, bytesE_length, bytesE_drop, bytesE_take, bytesE_app, intsE_fold, intsE_length, decide_eq_true_eq, decide_eq_false_iff_not, Nat.mul_one, Nat.zero_add, Nat.add_zero, Bool.not_eq_true', List.length_take, List.length_drop, List.length_append, List.length_cons, List.length_nil, List.drop_zero] at h5
          · -- one more
            with_reducible refine runK hA hd hQ 200 ?hk ?_
            case hk => exact trivial
            conv => arg 8; cbv
            try simp only [OK]
            rw [endF, if_pos ⟨by omega, by rw [hsmall2 (by omega)]⟩] at he
            refine OKs.mask (msk 57 [0, 3, 4, 6]) ?_
            refine ih2 _ ⟨_, rfl, ?_, ?_, ?_, ?_⟩ (show (N - A.ib .add .i64 e 1).toNat < (N - e).toNat from ?_)
            all_goals (try simp (disch := omega) only [hA, OK, s_le, s_inb, s_slb, s_room, s_mks, s_ne0, s_nn, s_eql, s_neq, s_lss, s_leq, s_gtr, s_geq, s_isz, s_bnot, s_beq, s_idx, s_addN, s_subN, s_mulN, s_tn, s_ofn, s_nmin, s_drp, s_tak, s_app, s_len, s_leB, s_add, s_sub, s_mul, s_wr64, s_wr8, bytesE_fold, bytesE_length, bytesE_drop, bytesE_take, bytesE_app, intsE_fold, intsE_length, decide_eq_true_eq, decide_eq_false_iff_not, Nat.mul_one, Nat.zero_add, Nat.add_zero, Bool.not_eq_true', List.length_take, List.length_drop, List.length_append, List.length_cons, List.length_nil, List.drop_zero])
            all_goals first | omega | (rw [show (e + 1).toNat = e.toNat + 1 by omega, show 128 - (e.toNat + 1 - i.toNat) = k by omega]; exact he)
          · -- a run begins
            have hE : E0 = e.toNat := by
              rw [← he]; exact endF_stop _ _ _ _ fun h => by rw [hbig2 (by omega)] at h; simp only at h; omega
            obtain ⟨e', he'⟩ : ∃ e' : Nat, e' = e.toNat := ⟨_, rfl⟩
            with_reducible refine runK hA hd hQ 200 ?hk ?_
            case hk => exact trivial
            conv => arg 8; cbv
            try simp only [OK]
            have x3 : ((b.drop i.toNat).take (E0 - i.toNat)).length = E0 - i.toNat := by rw [List.length_take, List.length_drop]; omega
            have x4 : e.toNat - i.toNat = E0 - i.toNat := by omega
            have t2 := literal_ref out ((b.drop i.toNat).take (E0 - i.toNat)) (by rw [x3]; omega) (by omega) m oc hm hoc (A.sub (A.tn e) (A.tn i)) (A.drp (A.mul (A.tn i) 1) c) (by rw [x3]; simp (disch := omega) only [hA, OK, s_le, s_inb, s_slb, s_room, s_mks, s_ne0, s_nn, s_eql, s_neq, s_lss, s_leq, s_gtr, s_geq, s_isz, s_bnot, s_beq, s_idx, s_addN, s_subN, s_mulN, s_tn, s_ofn, s_nmin, s_drp, s_tak, s_app, s_len, s_leB, s_add, s_sub, s_mul, s_wr64, s_wr8, bytesE_fold, bytesE_length, bytesE_drop, bytesE_take, bytesE_app, intsE_fold, intsE_length, decide_eq_true_eq, decide_eq_false_iff_not, Nat.mul_one, Nat.zero_add, Nat.add_zero, Bool.not_eq_true', List.length_take, List.length_drop, List.length_append, List.length_cons, List.length_nil, List.drop_zero , x4]) (by simp (disch := omega) only [hA, OK, s_le, s_inb, s_slb, s_room, s_mks, s_ne0, s_nn, s_eql, s_neq, s_lss, s_leq, s_gtr, s_geq, s_isz, s_bnot, s_beq, s_idx, s_addN, s_subN, s_mulN, s_tn, s_ofn, s_nmin, s_drp, s_tak, s_app, s_len, s_leB, s_add, s_sub, s_mul, s_wr64, s_wr8, bytesE_fold, bytesE_length, bytesE_drop, bytesE_take, bytesE_app, intsE_fold, intsE_length, decide_eq_true_eq, decide_eq_false_iff_not, Nat.mul_one, Nat.zero_add, Nat.add_zero, Bool.not_eq_true', List.length_take, List.length_drop, List.length_append, List.length_cons, List.length_nil, List.drop_zero , hc, x4, List.take_take, Nat.min_self]) (by simp (disch := omega) only [hA, OK, s_le, s_inb, s_slb, s_room, s_mks, s_ne0, s_nn, s_eql, s_neq, s_lss, s_leq, s_gtr, s_geq, s_isz, s_bnot, s_beq, s_idx, s_addN, s_subN, s_mulN, s_tn, s_ofn, s_nmin, s_drp, s_tak, s_app, s_len, s_leB, s_add, s_sub, s_mul, s_wr64, s_wr8, bytesE_fold, bytesE_length, bytesE_drop, bytesE_take, bytesE_app, intsE_fold, intsE_length, decide_eq_true_eq, decide_eq_false_iff_not, Nat.mul_one, Nat.zero_add, Nat.add_zero, Bool.not_eq_true', List.length_take, List.length_drop, List.length_append, List.length_cons, List.length_nil, List.drop_zero , hc, x4] <;> omega)
            rw [x3] at t2
            refine ⟨by simp (disch := omega) only [hA, OK, s_le, s_inb, s_slb, s_room, s_mks, s_ne0, s_nn, s_eql, s_neq, s_lss, s_leq, s_gtr, s_geq, s_isz, s_bnot, s_beq, s_idx, s_addN, s_subN, s_mulN, s_tn, s_ofn, s_nmin, s_drp, s_tak, s_app, s_len, s_leB, s_add, s_sub, s_mul, s_wr64, s_wr8, bytesE_fold, bytesE_length, bytesE_drop, bytesE_take, bytesE_app, intsE_fold, intsE_length, decide_eq_true_eq, decide_eq_false_iff_not, Nat.mul_one, Nat.zero_add, Nat.add_zero, Bool.not_eq_true', List.length_take, List.length_drop, List.length_append, List.length_cons, List.length_nil, List.drop_zero , hc] <;> omega, goodF_of F29_ok, t2.mono fun v h' hx => ?_⟩
            obtain ⟨m', oc', hv, hh, hm', hoc'⟩ := hx
            subst hv; subst hh
            with_reducible refine runK hA hd hQ 200 ?hk ?_
            case hk => exact trivial
            conv => arg 8; cbv
            try simp only [OK]
            refine OKs.mask (msk 57 [0, 3, 4]) (OKs.mv [1] [] (by rw [hρ]; rfl) ⟨by simp, by simp [sizeH], by simp⟩ ?_)
            refine ih _ ⟨_, _, _, out ++ (E0 - i.toNat - 1) :: (b.drop i.toNat).take (E0 - i.toNat), g, rfl, hm', ?_, ?_, ?_, ?_, ?_, ?_⟩ (show (N - e).toNat < (N - i).toNat from ?_)
            all_goals (try simp (disch := omega) only [hA, OK, s_le, s_inb, s_slb, s_room, s_mks, s_ne0, s_nn, s_eql, s_neq, s_lss, s_leq, s_gtr, s_geq, s_isz, s_bnot, s_beq, s_idx, s_addN, s_subN, s_mulN, s_tn, s_ofn, s_nmin, s_drp, s_tak, s_app, s_len, s_leB, s_add, s_sub, s_mul, s_wr64, s_wr8, bytesE_fold, bytesE_length, bytesE_drop, bytesE_take, bytesE_app, intsE_fold, intsE_length, decide_eq_true_eq, decide_eq_false_iff_not, Nat.mul_one, Nat.zero_add, Nat.add_zero, Bool.not_eq_true', List.length_take, List.length_drop, List.length_append, List.length_cons, List.length_nil, List.drop_zero , hoc', mvL_bytes, x3])
            all_goals first | omega | (rw [show e.toNat = E0 by omega]; exact hr) | skip
        · -- full
          have hE : E0 = e.toNat := by rw [← he, show 128 - (e.toNat - i.toNat) = 0 by omega]; rfl
          obtain ⟨e', he'⟩ : ∃ e' : Nat, e' = e.toNat := ⟨_, rfl⟩
          with_reducible refine runK hA hd hQ 200 ?hk ?_
          case hk => exact trivial
          conv => arg 8; cbv
          try simp only [OK]
          have x3 : ((b.drop i.toNat).take (E0 - i.toNat)).length = E0 - i.toNat := by rw [List.length_take, List.length_drop]; omega
          have x4 : e.toNat - i.toNat = E0 - i.toNat := by omega
          have t2 := literal_ref out ((b.drop i.toNat).take (E0 - i.toNat)) (by rw [x3]; omega) (by omega) m oc hm hoc (A.sub (A.tn e) (A.tn i)) (A.drp (A.mul (A.tn i) 1) c) (by rw [x3]; simp (disch := omega) only [hA, OK, s_le, s_inb, s_slb, s_room, s_mks, s_ne0, s_nn, s_eql, s_neq, s_lss, s_leq, s_gtr, s_geq, s_isz, s_bnot, s_beq, s_idx, s_addN, s_subN, s_mulN, s_tn, s_ofn, s_nmin, s_drp, s_tak, s_app, s_len, s_leB, s_add, s_sub, s_mul, s_wr64, s_wr8, bytesE_fold, bytesE_length, bytesE_drop, bytesE_take, bytesE_app, intsE_fold, intsE_length, decide_eq_true_eq, decide_eq_false_iff_not, Nat.mul_one, Nat.zero_add, Nat.add_zero, Bool.not_eq_true', List.length_take, List.length_drop, List.length_append, List.length_cons, List.length_nil, List.drop_zero , x4]) (by simp (disch := omega) only [hA, OK, s_le, s_inb, s_slb, s_room, s_mks, s_ne0, s_nn, s_eql, s_neq, s_lss, s_leq, s_gtr, s_geq, s_isz, s_bnot, s_beq, s_idx, s_addN, s_subN, s_mulN, s_tn, s_ofn, s_nmin, s_drp, s_tak, s_app, s_len, s_leB, s_add, s_sub, s_mul, s_wr64, s_wr8, bytesE_fold, bytesE_length, bytesE_drop, bytesE_take, bytesE_app, intsE_fold, intsE_length, decide_eq_true_eq, decide_eq_false_iff_not, Nat.mul_one, Nat.zero_add, Nat.add_zero, Bool.not_eq_true', List.length_take, List.length_drop, List.length_append, List.length_cons, List.length_nil, List.drop_zero , hc, x4, List.take_take, Nat.min_self]) (by simp (disch := omega) only [hA, OK, s_le, s_inb, s_slb, s_room, s_mks, s_ne0, s_nn, s_eql, s_neq, s_lss, s_leq, s_gtr, s_geq, s_isz, s_bnot, s_beq, s_idx, s_addN, s_subN, s_mulN, s_tn, s_ofn, s_nmin, s_drp, s_tak, s_app, s_len, s_leB, s_add, s_sub, s_mul, s_wr64, s_wr8, bytesE_fold, bytesE_length, bytesE_drop, bytesE_take, bytesE_app, intsE_fold, intsE_length, decide_eq_true_eq, decide_eq_false_iff_not, Nat.mul_one, Nat.zero_add, Nat.add_zero, Bool.not_eq_true', List.length_take, List.length_drop, List.length_append, List.length_cons, List.length_nil, List.drop_zero , hc, x4] <;> omega)
          rw [x3] at t2
          refine ⟨by simp (disch := omega) only [hA, OK, s_le, s_inb, s_slb, s_room, s_mks, s_ne0, s_nn, s_eql, s_neq, s_lss, s_leq, s_gtr, s_geq, s_isz, s_bnot, s_beq, s_idx, s_addN, s_subN, s_mulN, s_tn, s_ofn, s_nmin, s_drp, s_tak, s_app, s_len, s_leB, s_add, s_sub, s_mul, s_wr64, s_wr8, bytesE_fold, bytesE_length, bytesE_drop, bytesE_take, bytesE_app, intsE_fold, intsE_length, decide_eq_true_eq, decide_eq_false_iff_not, Nat.mul_one, Nat.zero_add, Nat.add_zero, Bool.not_eq_true', List.length_take, List.length_drop, List.length_append, List.length_cons, List.length_nil, List.drop_zero , hc] <;> omega, goodF_of F29_ok, t2.mono fun v h' hx => ?_⟩
          obtain ⟨m', oc', hv, hh, hm', hoc'⟩ := hx
          subst hv; subst hh
          with_reducible refine runK hA hd hQ 200 ?hk ?_
          case hk => exact trivial
          conv => arg 8; cbv
          try simp only [OK]
          refine OKs.mask (msk 57 [0, 3, 4]) (OKs.mv [1] [] (by rw [hρ]; rfl) ⟨by simp, by simp [sizeH], by simp⟩ ?_)
          refine ih _ ⟨_, _, _, out ++ (E0 - i.toNat - 1) :: (b.drop i.toNat).take (E0 - i.toNat), g, rfl, hm', ?_, ?_, ?_, ?_, ?_, ?_⟩ (show (N - e).toNat < (N - i).toNat from ?_)
          all_goals (try simp (disch := omega) only [hA, OK, s_le, s_inb, s_slb, s_room, s_mks, s_ne0, s_nn, s_eql, s_neq, s_lss, s_leq, s_gtr, s_geq, s_isz, s_bnot, s_beq, s_idx, s_addN, s_subN, s_mulN, s_tn, s_ofn, s_nmin, s_drp, s_tak, s_app, s_len, s_leB, s_add, s_sub, s_mul, s_wr64, s_wr8, bytesE_fold, bytesE_length, bytesE_drop, bytesE_take, bytesE_app, intsE_fold, intsE_length, decide_eq_true_eq, decide_eq_false_iff_not, Nat.mul_one, Nat.zero_add, Nat.add_zero, Bool.not_eq_true', List.length_take, List.length_drop, List.length_append, List.length_cons, List.length_nil, List.drop_zero , hoc', mvL_bytes, x3])
          all_goals first | omega | (rw [show e.toNat = E0 by omega]; exact hr) | skip
      · -- the end
        have hE : E0 = e.toNat := by rw [← he]; exact endF_stop _ _ _ _ (by omega)
        obtain ⟨e', he'⟩ : ∃ e' : Nat, e' = e.toNat := ⟨_, rfl⟩
        with_reducible refine runK hA hd hQ 200 ?hk ?_
        case hk => exact trivial
        conv => arg 8; cbv
        try simp only [OK]
        have x3 : ((b.drop i.toNat).take (E0 - i.toNat)).length = E0 - i.toNat := by rw [List.length_take, List.length_drop]; omega
        have x4 : e.toNat - i.toNat = E0 - i.toNat := by omega
        have t2 := literal_ref out ((b.drop i.toNat).take (E0 - i.toNat)) (by rw [x3]; omega) (by omega) m oc hm hoc (A.sub (A.tn e) (A.tn i)) (A.drp (A.mul (A.tn i) 1) c) (by rw [x3]; simp (disch := omega) only [hA, OK, s_le, s_inb, s_slb, s_room, s_mks, s_ne0, s_nn, s_eql, s_neq, s_lss, s_leq, s_gtr, s_geq, s_isz, s_bnot, s_beq, s_idx, s_addN, s_subN, s_mulN, s_tn, s_ofn, s_nmin, s_drp, s_tak, s_app, s_len, s_leB, s_add, s_sub, s_mul, s_wr64, s_wr8, bytesE_fold, bytesE_length, bytesE_drop, bytesE_take, bytesE_app, intsE_fold, intsE_length, decide_eq_true_eq, decide_eq_false_iff_not, Nat.mul_one, Nat.zero_add, Nat.add_zero, Bool.not_eq_true', List.length_take, List.length_drop, List.length_append, List.length_cons, List.length_nil, List.drop_zero , x4]) (by simp (disch := omega) only [hA, OK, s_le, s_inb, s_slb, s_room, s_mks, s_ne0, s_nn, s_eql, s_neq, s_lss, s_leq, s_gtr, s_geq, s_isz, s_bnot, s_beq, s_idx, s_addN, s_subN, s_mulN, s_tn, s_ofn, s_nmin, s_drp, s_tak, s_app, s_len, s_leB, s_add, s_sub, s_mul, s_wr64, s_wr8, bytesE_fold, bytesE_length, bytesE_drop, bytesE_take, bytesE_app, intsE_fold, intsE_length, decide_eq_true_eq, decide_eq_false_iff_not, Nat.mul_one, Nat.zero_add, Nat.add_zero, Bool.not_eq_true', List.length_take, List.length_drop, List.length_append, List.length_cons, List.length_nil, List.drop_zero , hc, x4, List.take_take, Nat.min_self]) (by simp (disch := omega) only [hA, OK, s_le, s_inb, s_slb, s_room, s_mks, s_ne0, s_nn, s_eql, s_neq, s_lss, s_leq, s_gtr, s_geq, s_isz, s_bnot, s_beq, s_idx, s_addN, s_subN, s_mulN, s_tn, s_ofn, s_nmin, s_drp, s_tak, s_app, s_len, s_leB, s_add, s_sub, s_mul, s_wr64, s_wr8, bytesE_fold, bytesE_length, bytesE_drop, bytesE_take, bytesE_app, intsE_fold, intsE_length, decide_eq_true_eq, decide_eq_false_iff_not, Nat.mul_one, Nat.zero_add, Nat.add_zero, Bool.not_eq_true', List.length_take, List.length_drop, List.length_append, List.length_cons, List.length_nil, List.drop_zero , hc, x4] <;> omega)
        rw [x3] at t2
        refine ⟨by simp (disch := omega) only [hA, OK, s_le, s_inb, s_slb, s_room, s_mks, s_ne0, s_nn, s_eql, s_neq, s_lss, s_leq, s_gtr, s_geq, s_isz, s_bnot, s_beq, s_idx, s_addN, s_subN, s_mulN, s_tn, s_ofn, s_nmin, s_drp, s_tak, s_app, s_len, s_leB, s_add, s_sub, s_mul, s_wr64, s_wr8, bytesE_fold, bytesE_length, bytesE_drop, bytesE_take, bytesE_app, intsE_fold, intsE_length, decide_eq_true_eq, decide_eq_false_iff_not, Nat.mul_one, Nat.zero_add, Nat.add_zero, Bool.not_eq_true', List.length_take, List.length_drop, List.length_append, List.length_cons, List.length_nil, List.drop_zero , hc] <;> omega, goodF_of F29_ok, t2.mono fun v h' hx => ?_⟩
        obtain ⟨m', oc', hv, hh, hm', hoc'⟩ := hx
        subst hv; subst hh
        with_reducible refine runK hA hd hQ 200 ?hk ?_
        case hk => exact trivial
        conv => arg 8; cbv
        try simp only [OK]
        refine OKs.mask (msk 57 [0, 3, 4]) (OKs.mv [1] [] (by rw [hρ]; rfl) ⟨by simp, by simp [sizeH], by simp⟩ ?_)
        refine ih _ ⟨_, _, _, out ++ (E0 - i.toNat - 1) :: (b.drop i.toNat).take (E0 - i.toNat), g, rfl, hm', ?_, ?_, ?_, ?_, ?_, ?_⟩ (show (N - e).toNat < (N - i).toNat from ?_)
        all_goals (try simp (disch := omega) only [hA, OK, s_le, s_inb, s_slb, s_room, s_mks, s_ne0, s_nn, s_eql, s_neq, s_lss, s_leq, s_gtr, s_geq, s_isz, s_bnot, s_beq, s_idx, s_addN, s_subN, s_mulN, s_tn, s_ofn, s_nmin, s_drp, s_tak, s_app, s_len, s_leB, s_add, s_sub, s_mul, s_wr64, s_wr8, bytesE_fold, bytesE_length, bytesE_drop, bytesE_take, bytesE_app, intsE_fold, intsE_length, decide_eq_true_eq, decide_eq_false_iff_not, Nat.mul_one, Nat.zero_add, Nat.add_zero, Bool.not_eq_true', List.length_take, List.length_drop, List.length_append, List.length_cons, List.length_nil, List.drop_zero , hoc', mvL_bytes, x3])
        all_goals first | omega | (rw [show e.toNat = E0 by omega]; exact hr) | skip
  · with_reducible refine runK hA hd hQ 200 ?hk ?_
    case hk => exact trivial
    conv => arg 8; cbv
    try simp only [OK]
    rw [rkF_stop _ _ _ _ _ (by omega)] at hr
    exact ⟨_, rfl, .inr ⟨0, none, by rw [← hr, ← hm]; rfl, by rw [← hr, ← hoc]; rfl⟩⟩

end Go.Proofs.Ytplibngmgebigaa.Press
