/- Pr24: the document's Pack; one Pack is as the document's; every Pack is. No conditions beyond those written. -/
import Derived.Test.YtplibngmgebigaaPr23
set_option linter.unusedVariables false
set_option linter.unusedSimpArgs false
namespace Go.Proofs.Ytplibngmgebigaa.Press
open Go Go.Proofs.Ytplibngmgebigaa Go.Proofs.Ytplibngmgebigaa.Em

set_option maxHeartbeats 4000000 in
theorem packR_pre (how : Int) (b : List Nat) (hb : AllB b) (hl : b.length ≤ 140737488351232) :
    Tri Try.prog [] 18 [.lit (.int .i64 how), isB b] [] fun v h => ∃ ov, v = .tup [ov, .lit (.int .i64 (packL how b).2)] ∧
      ((ov = isB (packL how b).1) ∨ (ov = .lit (.slice none 0 0) ∧ (packL how b).1 = []) ∨ ∃ id cap, ov = .sl 1 id 0 (packL how b).1.length cap ∧ getH h id = .blk (bytesE (packL how b).1)) := by
  refine Tri_of F18_ok fun I0 ρ0 w0 Q hρ hQ => ?_
  obtain ⟨A, hA⟩ : ∃ A, A = stdA := ⟨_, rfl⟩
  obtain ⟨N, c, hi, hN, hc⟩ := isB_open b
  rw [hi]
  with_reducible refine runS hA hd hQ 100 ?hk ?_
  case hk => exact trivial
  conv => arg 8; cbv
  try simp only [OK]
  refine ⟨fun h0 => ?_, fun h0 => ?_⟩ <;> simp (disch := omega) only [hA, OK, s_le, s_inb, s_slb, s_room, s_mks, s_ne0, s_nn, s_eql, s_neq, s_lss, s_leq, s_gtr, s_geq, s_isz, s_bnot, s_beq, s_idx, s_addN, s_subN, s_mulN, s_tn, s_ofn, s_nmin, s_drp, s_tak, s_app, s_len, s_leB, s_add, s_sub, s_mul, s_wr64, s_wr8, bytesE_fold, bytesE_length, bytesE_drop, bytesE_take, bytesE_app, intsE_fold, intsE_length, decide_eq_true_eq, decide_eq_false_iff_not, Nat.mul_one, Nat.zero_add, Nat.add_zero, Bool.not_eq_true', List.length_take, List.length_drop, List.length_append, List.length_cons, List.length_nil, List.drop_zero] at h0
  · have hr' : packL how b = ([], 1) := by unfold packL; rw [if_pos (by omega)]
    with_reducible refine runK hA hd hQ 100 ?hk ?_
    case hk => exact trivial
    conv => arg 8; cbv
    try simp only [OK]
    exact ⟨_, rfl, .lit (.slice none 0 0), by rw [hr']; rfl, .inr (.inl ⟨rfl, by rw [hr']⟩)⟩
  · with_reducible refine runK hA hd hQ 100 ?hk ?_
    case hk => exact trivial
    conv => arg 8; cbv
    try simp only [OK]
    refine ⟨fun h1 => ?_, fun h1 => ?_⟩ <;> simp (disch := omega) only [hA, OK, s_le, s_inb, s_slb, s_room, s_mks, s_ne0, s_nn, s_eql, s_neq, s_lss, s_leq, s_gtr, s_geq, s_isz, s_bnot, s_beq, s_idx, s_addN, s_subN, s_mulN, s_tn, s_ofn, s_nmin, s_drp, s_tak, s_app, s_len, s_leB, s_add, s_sub, s_mul, s_wr64, s_wr8, bytesE_fold, bytesE_length, bytesE_drop, bytesE_take, bytesE_app, intsE_fold, intsE_length, decide_eq_true_eq, decide_eq_false_iff_not, Nat.mul_one, Nat.zero_add, Nat.add_zero, Bool.not_eq_true', List.length_take, List.length_drop, List.length_append, List.length_cons, List.length_nil, List.drop_zero] at h1
    · have hr' : packL how b = ([], 1) := by unfold packL; rw [if_pos (by omega)]
      with_reducible refine runK hA hd hQ 100 ?hk ?_
      case hk => exact trivial
      conv => arg 8; cbv
      try simp only [OK]
      exact ⟨_, rfl, .lit (.slice none 0 0), by rw [hr']; rfl, .inr (.inl ⟨rfl, by rw [hr']⟩)⟩
    · with_reducible refine runK hA hd hQ 100 ?hk ?_
      case hk => exact trivial
      conv => arg 8; cbv
      try simp only [OK]
      refine ⟨fun h2 => ?_, fun h2 => ?_⟩ <;> simp (disch := omega) only [hA, OK, s_le, s_inb, s_slb, s_room, s_mks, s_ne0, s_nn, s_eql, s_neq, s_lss, s_leq, s_gtr, s_geq, s_isz, s_bnot, s_beq, s_idx, s_addN, s_subN, s_mulN, s_tn, s_ofn, s_nmin, s_drp, s_tak, s_app, s_len, s_leB, s_add, s_sub, s_mul, s_wr64, s_wr8, bytesE_fold, bytesE_length, bytesE_drop, bytesE_take, bytesE_app, intsE_fold, intsE_length, decide_eq_true_eq, decide_eq_false_iff_not, Nat.mul_one, Nat.zero_add, Nat.add_zero, Bool.not_eq_true', List.length_take, List.length_drop, List.length_append, List.length_cons, List.length_nil, List.drop_zero] at h2
      · have hr' : packL how b = ([], 4) := by unfold packL; rw [if_neg (by omega), if_pos (by omega)]
        with_reducible refine runK hA hd hQ 100 ?hk ?_
        case hk => exact trivial
        conv => arg 8; cbv
        try simp only [OK]
        exact ⟨_, rfl, .lit (.slice none 0 0), by rw [hr']; rfl, .inr (.inl ⟨rfl, by rw [hr']⟩)⟩
      · have hl2 : b.length ≤ 65536 := by omega
        with_reducible refine runK hA hd hQ 100 ?hk ?_
        case hk => exact trivial
        conv => arg 8; cbv
        try simp only [OK]
        refine ⟨fun h3 => ?_, fun h3 => ?_⟩ <;> simp (disch := omega) only [hA, OK, s_le, s_inb, s_slb, s_room, s_mks, s_ne0, s_nn, s_eql, s_neq, s_lss, s_leq, s_gtr, s_geq, s_isz, s_bnot, s_beq, s_idx, s_addN, s_subN, s_mulN, s_tn, s_ofn, s_nmin, s_drp, s_tak, s_app, s_len, s_leB, s_add, s_sub, s_mul, s_wr64, s_wr8, bytesE_fold, bytesE_length, bytesE_drop, bytesE_take, bytesE_app, intsE_fold, intsE_length, decide_eq_true_eq, decide_eq_false_iff_not, Nat.mul_one, Nat.zero_add, Nat.add_zero, Bool.not_eq_true', List.length_take, List.length_drop, List.length_append, List.length_cons, List.length_nil, List.drop_zero] at h3
        · have hr' : packL how b = (pkF (fdR b) b b.length 0 0 [], 0) := by unfold packL; rw [if_neg (by omega), if_neg (by omega), if_pos h3]
          with_reducible refine runK hA hd hQ 100 ?hk ?_
          case hk => exact trivial
          conv => arg 8; cbv
          try simp only [OK]
          have t := packRuns_ref b hb hl2
          obtain ⟨r, hr⟩ : ∃ r, r = pkF (fdR b) b b.length 0 0 [] := ⟨_, rfl⟩
          obtain ⟨rn, rc, hri, hrn, hrc⟩ := isB_open r
          rw [← hr, hri, hi] at t
          refine ⟨goodF_of F25_ok, t.mono fun v h' hx => ?_⟩
          obtain ⟨hv, hh⟩ := hx
          subst hv; subst hh
          with_reducible refine runK hA hd hQ 100 ?hk ?_
          case hk => exact trivial
          conv => arg 8; cbv
          try simp only [OK]
          exact ⟨_, rfl, .isl rn none rc, by rw [hr']; rfl, .inl (by rw [hr', ← hr, hri])⟩
        · with_reducible refine runK hA hd hQ 100 ?hk ?_
          case hk => exact trivial
          conv => arg 8; cbv
          try simp only [OK]
          refine ⟨fun h4 => ?_, fun h4 => ?_⟩ <;> simp (disch := omega) only [hA, OK, s_le, s_inb, s_slb, s_room, s_mks, s_ne0, s_nn, s_eql, s_neq, s_lss, s_leq, s_gtr, s_geq, s_isz, s_bnot, s_beq, s_idx, s_addN, s_subN, s_mulN, s_tn, s_ofn, s_nmin, s_drp, s_tak, s_app, s_len, s_leB, s_add, s_sub, s_mul, s_wr64, s_wr8, bytesE_fold, bytesE_length, bytesE_drop, bytesE_take, bytesE_app, intsE_fold, intsE_length, decide_eq_true_eq, decide_eq_false_iff_not, Nat.mul_one, Nat.zero_add, Nat.add_zero, Bool.not_eq_true', List.length_take, List.length_drop, List.length_append, List.length_cons, List.length_nil, List.drop_zero] at h4
          · have hr' : packL how b = (pkF (fdB b (lastL b)) b b.length 0 0 [], 0) := by unfold packL; rw [if_neg (by omega), if_neg (by omega), if_neg h3, if_pos h4]
            with_reducible refine runK hA hd hQ 100 ?hk ?_
            case hk => exact trivial
            conv => arg 8; cbv
            try simp only [OK]
            have t := packBack_ref b hb hl2
            obtain ⟨r, hr⟩ : ∃ r, r = pkF (fdB b (lastL b)) b b.length 0 0 [] := ⟨_, rfl⟩
            obtain ⟨rn, rc, hri, hrn, hrc⟩ := isB_open r
            rw [← hr, hri, hi] at t
            refine ⟨goodF_of F26_ok, t.mono fun v h' hx => ?_⟩
            obtain ⟨hv, hh⟩ := hx
            subst hv; subst hh
            with_reducible refine runK hA hd hQ 100 ?hk ?_
            case hk => exact trivial
            conv => arg 8; cbv
            try simp only [OK]
            exact ⟨_, rfl, .isl rn none rc, by rw [hr']; rfl, .inl (by rw [hr', ← hr, hri])⟩
          · have hr' : packL how b = (b, 0) := by unfold packL; rw [if_neg (by omega), if_neg (by omega), if_neg h3, if_neg h4]
            with_reducible refine runK hA hd hQ 100 ?hk ?_
            case hk => exact trivial
            conv => arg 8; cbv
            try simp only [OK]
            refine ⟨by simp (disch := omega) only [hA, OK, s_le, s_inb, s_slb, s_room, s_mks, s_ne0, s_nn, s_eql, s_neq, s_lss, s_leq, s_gtr, s_geq, s_isz, s_bnot, s_beq, s_idx, s_addN, s_subN, s_mulN, s_tn, s_ofn, s_nmin, s_drp, s_tak, s_app, s_len, s_leB, s_add, s_sub, s_mul, s_wr64, s_wr8, bytesE_fold, bytesE_length, bytesE_drop, bytesE_take, bytesE_app, intsE_fold, intsE_length, decide_eq_true_eq, decide_eq_false_iff_not, Nat.mul_one, Nat.zero_add, Nat.add_zero, Bool.not_eq_true', List.length_take, List.length_drop, List.length_append, List.length_cons, List.length_nil, List.drop_zero , hc] <;> omega, by simp (disch := omega) only [hA, OK, s_le, s_inb, s_slb, s_room, s_mks, s_ne0, s_nn, s_eql, s_neq, s_lss, s_leq, s_gtr, s_geq, s_isz, s_bnot, s_beq, s_idx, s_addN, s_subN, s_mulN, s_tn, s_ofn, s_nmin, s_drp, s_tak, s_app, s_len, s_leB, s_add, s_sub, s_mul, s_wr64, s_wr8, bytesE_fold, bytesE_length, bytesE_drop, bytesE_take, bytesE_app, intsE_fold, intsE_length, decide_eq_true_eq, decide_eq_false_iff_not, Nat.mul_one, Nat.zero_add, Nat.add_zero, Bool.not_eq_true', List.length_take, List.length_drop, List.length_append, List.length_cons, List.length_nil, List.drop_zero] <;> omega, by simp (disch := omega) only [hA, OK, s_le, s_inb, s_slb, s_room, s_mks, s_ne0, s_nn, s_eql, s_neq, s_lss, s_leq, s_gtr, s_geq, s_isz, s_bnot, s_beq, s_idx, s_addN, s_subN, s_mulN, s_tn, s_ofn, s_nmin, s_drp, s_tak, s_app, s_len, s_leB, s_add, s_sub, s_mul, s_wr64, s_wr8, bytesE_fold, bytesE_length, bytesE_drop, bytesE_take, bytesE_app, intsE_fold, intsE_length, decide_eq_true_eq, decide_eq_false_iff_not, Nat.mul_one, Nat.zero_add, Nat.add_zero, Bool.not_eq_true', List.length_take, List.length_drop, List.length_append, List.length_cons, List.length_nil, List.drop_zero] <;> omega, by simp (disch := omega) only [hA, OK, s_le, s_inb, s_slb, s_room, s_mks, s_ne0, s_nn, s_eql, s_neq, s_lss, s_leq, s_gtr, s_geq, s_isz, s_bnot, s_beq, s_idx, s_addN, s_subN, s_mulN, s_tn, s_ofn, s_nmin, s_drp, s_tak, s_app, s_len, s_leB, s_add, s_sub, s_mul, s_wr64, s_wr8, bytesE_fold, bytesE_length, bytesE_drop, bytesE_take, bytesE_app, intsE_fold, intsE_length, decide_eq_true_eq, decide_eq_false_iff_not, Nat.mul_one, Nat.zero_add, Nat.add_zero, Bool.not_eq_true', List.length_take, List.length_drop, List.length_append, List.length_cons, List.length_nil, List.drop_zero] <;> omega, fun h5 => ?_, fun h5 => ?_⟩ <;> simp (disch := omega) only [hA, OK, s_le, s_inb, s_slb, s_room, s_mks, s_ne0, s_nn, s_eql, s_neq, s_lss, s_leq, s_gtr, s_geq, s_isz, s_bnot, s_beq, s_idx, s_addN, s_subN, s_mulN, s_tn, s_ofn, s_nmin, s_drp, s_tak, s_app, s_len, s_leB, s_add, s_sub, s_mul, s_wr64, s_wr8, bytesE_fold, bytesE_length, bytesE_drop, bytesE_take, bytesE_app, intsE_fold, intsE_length, decide_eq_true_eq, decide_eq_false_iff_not, Nat.mul_one, Nat.zero_add, Nat.add_zero, Bool.not_eq_true', List.length_take, List.length_drop, List.length_append, List.length_cons, List.length_nil, List.drop_zero] at h5
            · with_reducible refine runK hA hd hQ 100 ?hk ?_
              case hk => exact trivial
              conv => arg 8; cbv
              try simp only [OK]
              have : b = [] := List.length_eq_zero_iff.1 (by omega)
              subst this
              refine ⟨_, rfl, .sl 1 0 0 0 (some 0), ?_, .inr (.inr ⟨0, some 0, ?_, ?_⟩)⟩
              · rw [hr']; simp only [getT]; simp (disch := omega) only [hA, OK, s_le, s_inb, s_slb, s_room, s_mks, s_ne0, s_nn, s_eql, s_neq, s_lss, s_leq, s_gtr, s_geq, s_isz, s_bnot, s_beq, s_idx, s_addN, s_subN, s_mulN, s_tn, s_ofn, s_nmin, s_drp, s_tak, s_app, s_len, s_leB, s_add, s_sub, s_mul, s_wr64, s_wr8, bytesE_fold, bytesE_length, bytesE_drop, bytesE_take, bytesE_app, intsE_fold, intsE_length, decide_eq_true_eq, decide_eq_false_iff_not, Nat.mul_one, Nat.zero_add, Nat.add_zero, Bool.not_eq_true', List.length_take, List.length_drop, List.length_append, List.length_cons, List.length_nil, List.drop_zero]; rw [show N = 0 by simpa using hN]
              · rw [hr']; rfl
              · rw [hr']; simp only [getH]; simp (disch := omega) only [hA, OK, s_le, s_inb, s_slb, s_room, s_mks, s_ne0, s_nn, s_eql, s_neq, s_lss, s_leq, s_gtr, s_geq, s_isz, s_bnot, s_beq, s_idx, s_addN, s_subN, s_mulN, s_tn, s_ofn, s_nmin, s_drp, s_tak, s_app, s_len, s_leB, s_add, s_sub, s_mul, s_wr64, s_wr8, bytesE_fold, bytesE_length, bytesE_drop, bytesE_take, bytesE_app, intsE_fold, intsE_length, decide_eq_true_eq, decide_eq_false_iff_not, Nat.mul_one, Nat.zero_add, Nat.add_zero, Bool.not_eq_true', List.length_take, List.length_drop, List.length_append, List.length_cons, List.length_nil, List.drop_zero , s_setl, hc, bytesE_nil]; simp
            · with_reducible refine runK hA hd hQ 100 ?hk ?_
              case hk => exact trivial
              conv => arg 8; cbv
              try simp only [OK]
              refine ⟨_, rfl, .sl 1 1 0 N none, ?_, .inr (.inr ⟨1, none, ?_, ?_⟩)⟩
              · rw [hr']; simp only [getT]; simp (disch := omega) only [hA, OK, s_le, s_inb, s_slb, s_room, s_mks, s_ne0, s_nn, s_eql, s_neq, s_lss, s_leq, s_gtr, s_geq, s_isz, s_bnot, s_beq, s_idx, s_addN, s_subN, s_mulN, s_tn, s_ofn, s_nmin, s_drp, s_tak, s_app, s_len, s_leB, s_add, s_sub, s_mul, s_wr64, s_wr8, bytesE_fold, bytesE_length, bytesE_drop, bytesE_take, bytesE_app, intsE_fold, intsE_length, decide_eq_true_eq, decide_eq_false_iff_not, Nat.mul_one, Nat.zero_add, Nat.add_zero, Bool.not_eq_true', List.length_take, List.length_drop, List.length_append, List.length_cons, List.length_nil, List.drop_zero]
              · rw [hr', hN]
              · rw [hr']; simp only [getH]; simp (disch := omega) only [hA, OK, s_le, s_inb, s_slb, s_room, s_mks, s_ne0, s_nn, s_eql, s_neq, s_lss, s_leq, s_gtr, s_geq, s_isz, s_bnot, s_beq, s_idx, s_addN, s_subN, s_mulN, s_tn, s_ofn, s_nmin, s_drp, s_tak, s_app, s_len, s_leB, s_add, s_sub, s_mul, s_wr64, s_wr8, bytesE_fold, bytesE_length, bytesE_drop, bytesE_take, bytesE_app, intsE_fold, intsE_length, decide_eq_true_eq, decide_eq_false_iff_not, Nat.mul_one, Nat.zero_add, Nat.add_zero, Bool.not_eq_true', List.length_take, List.length_drop, List.length_append, List.length_cons, List.length_nil, List.drop_zero , hc, hN, List.take_length]; simp

theorem packR (how : Int) (b : List Nat) (hb : AllB b) (hl : b.length ≤ 140737488351232) :
    Tri Try.prog [] 18 [.lit (.int .i64 how), isB b] [] fun v h => v = .tup [isB (packL how b).1, .lit (.int .i64 (packL how b).2)] ∧ h = [] := by
  obtain ⟨r, hr⟩ : ∃ r, r = (packL how b).1 := ⟨_, rfl⟩
  have t := packR_pre how b hb hl
  rw [← hr] at t ⊢
  refine Tri.up (R := fun v h => ∃ ov, v = .tup [ov, .lit (.int .i64 (packL how b).2)] ∧ Up ov (isB r) ∧ h = []) (Tri.mv t fun v h hx => ?_) (fun v h hx => ?_)
  · obtain ⟨ov, hv, hc⟩ := hx
    subst hv
    rcases hc with rfl | ⟨rfl, hr0⟩ | ⟨id, cap, rfl, hg⟩
    · exact ⟨[], [], rfl, ⟨by simp, by simp, by simp⟩, isB r, by simp [mvE, mvL, isB], Up.refl _, rfl⟩
    · exact ⟨[], [], rfl, ⟨by simp, by simp, by simp⟩, .lit (.slice none 0 0), by simp [mvE, mvL], by rw [hr0]; exact Up.nil _, rfl⟩
    · refine ⟨[], [id], rfl, ⟨by simp, by simp, fun i hi => ?_⟩, .isl r.length cap (bytesE r), ?_, Up.cap _ _ _, rfl⟩
      · simp at hi; subst hi; exact ⟨_, hg, clL_bytes r⟩
      · simp [mvE, mvL, mvG, mvZ, inL, hg]
  · obtain ⟨ov, hv, hu, hh⟩ := hx
    exact ⟨_, ⟨rfl, hh⟩, by rw [hv]; exact Up.tup2 hu (Up.refl _)⟩

set_option maxHeartbeats 1000000 in
theorem packs_ok (how : Int) (b : List Nat) (hb : AllB b) (hl : b.length ≤ 140737488351232) :
    Tri Try.prog [] 12 [.lit (.int .i64 how), isB b] [] fun v h => v = .sb true ∧ h = [] := by
  refine Tri.mv (R := fun v h => v = .sb true) ?_ fun v h hv => ⟨[], [], rfl, ⟨by simp, by simp, by simp⟩, by subst hv; simp [mvE], rfl⟩
  refine Tri_of F12_ok fun I0 ρ0 w0 Q hρ hQ => ?_
  obtain ⟨A, hA⟩ : ∃ A, A = stdA := ⟨_, rfl⟩
  have t1 := packR how b hb hl
  have t2 := packP how b hb hl
  have hra := pack_all how b hb
  obtain ⟨r, hr⟩ : ∃ r, r = (packL how b).1 := ⟨_, rfl⟩
  obtain ⟨re, hre⟩ : ∃ re, re = (packL how b).2 := ⟨_, rfl⟩
  obtain ⟨N, c, hi, hN, hc⟩ := isB_open b
  obtain ⟨rn, rc, hri, hrn, hrc⟩ := isB_open r
  rw [← hr, ← hre, hri, hi] at t1 t2
  rw [← hr] at hra
  rw [hi]
  with_reducible refine runS hA hd hQ 100 ?hk ?_
  case hk => exact trivial
  conv => arg 8; cbv
  try simp only [OK]
  refine ⟨goodF_of F18_ok, t1.mono fun v h' hx => ?_⟩
  obtain ⟨hv, hh⟩ := hx
  subst hv; subst hh
  with_reducible refine runK hA hd hQ 100 ?hk ?_
  case hk => exact trivial
  conv => arg 8; cbv
  try simp only [OK]
  refine ⟨goodF_of F17_ok, t2.mono fun v h' hx => ?_⟩
  obtain ⟨hv, hh⟩ := hx
  subst hv; subst hh
  with_reducible refine runK hA hd hQ 100 ?hk ?_
  case hk => exact trivial
  conv => arg 8; cbv
  try simp only [OK]
  refine ⟨fun h1 => ?_, fun h1 => ?_⟩
  rotate_left
  · with_reducible exfalso; (simp (disch := omega) only [hA, OK, s_le, s_inb, s_slb, s_room, s_mks, s_ne0, s_nn, s_eql, s_neq, s_lss, s_leq, s_gtr, s_geq, s_isz, s_bnot, s_beq, s_idx, s_addN, s_subN, s_mulN, s_tn, s_ofn, s_nmin, s_drp, s_tak, s_app, s_len, s_leB, s_add, s_sub, s_mul, s_wr64, s_wr8, bytesE_fold, bytesE_length, bytesE_drop, bytesE_take, bytesE_app, intsE_fold, intsE_length, decide_eq_true_eq, decide_eq_false_iff_not, Nat.mul_one, Nat.zero_add, Nat.add_zero, Bool.not_eq_true', List.length_take, List.length_drop, List.length_append, List.length_cons, List.length_nil, List.drop_zero, reduceCtorEq, not_true_eq_false, not_false_eq_true] at h1 <;> omega)
  with_reducible refine runK hA hd hQ 100 ?hk ?_
  case hk => exact trivial
  conv => arg 8; cbv
  try simp only [OK]
  have hby : A.byt rn rc = true := by rw [hA, hrc, hrn]; exact byt_ok hra (Nat.le_refl _)
  refine ⟨hby, hby, _, rfl, ?_⟩
  show EV.sb (A.ss .eql (A.dec (A.tak rn rc)) (A.dec (A.tak rn rc))) = .sb true
  rw [hA]; simp [stdA]

/-- A call that is lent own memory and gives none back. -/
theorem Tri.lend {P : Program} {G : List (List EV)} {f : FuncId} {args args' : List EV} {V : EV} {h : EH} (fr : List Nat) (hfr : ∀ id ∈ fr, ∃ c, getH h id = .blk c ∧ clL c = true)
    (hu : ∀ w I ρ vs, RepL w I ρ (mvL (mvG [] fr) (mvZ fr h) args) vs → RepL w I ρ args' vs) (hV : clE V = true) (hV2 : niE V = true) (t : Tri P G f args' [] fun v h => v = V ∧ h = []) :
    Tri P G f args h fun v h' => v = V ∧ h' = h := by
  refine (Tri.frame (h := h) fr hfr (Tri.args t hu) (.inr fun v h' hx => ?_)).mono fun v h' ⟨v0, h0, ⟨e1, e2⟩, e3, e4⟩ => ?_
  · obtain ⟨e1, e2⟩ := hx; subst e1; subst e2; exact ⟨hV2, rfl⟩
  · subst e1; subst e2; subst e3; subst e4
    exact ⟨mvE_cl _ _ _ hV, rfl⟩

end Go.Proofs.Ytplibngmgebigaa.Press
