/- Pr13: press.Pack. No conditions beyond those written. -/
import Derived.Test.YtplibngmgebigaaPr12
set_option linter.unusedVariables false
set_option linter.unusedSimpArgs false
namespace Go.Proofs.Ytplibngmgebigaa.Press
open Go Go.Proofs.Ytplibngmgebigaa Go.Proofs.Ytplibngmgebigaa.Em

theorem Up.agg2 {a b a' b' : EV} (h : Up a a') (k : Up b b') : Up (.agg [a, b]) (.agg [a', b']) := fun w I ρ cv hr => by
  cases hr with
  | agg _ _ vs hl hc =>
    refine .agg _ _ vs hl fun j e v he hv => ?_
    match j, he with
    | 0, he => simp at he; subst he; exact h w I ρ v (hc 0 a v rfl hv)
    | 1, he => simp at he; subst he; exact k w I ρ v (hc 1 b v rfl hv)
    | j + 2, he => simp at he

theorem meets_fr (b : List Nat) (hb : AllB b) (hl : b.length ≤ 65536) (N : Nat) (c : List EV) (hN : N = b.length) (hc : c = bytesE b) :
    Tri Try.prog [] 24 [.isl N none c] [] fun v h => v = .agg [.isl N none c, isI (lastL b)] ∧ h = [] := by
  have hlen : (lastL b).length = N := by simp [lastL, hN]
  refine Tri.up (R := fun v h => v = .agg [.isl N none c, .isl N (some N) (intsE (lastL b))] ∧ h = []) (Tri.mv (meets_pre b hb hl N c hN hc) fun v h ⟨hv, hg⟩ => ?_) (fun v h ⟨hv, hh⟩ => ⟨_, ⟨rfl, hh⟩, ?_⟩)
  · subst hv
    refine ⟨[], [1], rfl, ⟨by simp, by simp, fun i hi => ?_⟩, ?_, rfl⟩
    · simp at hi; subst hi; exact ⟨_, hg, clL_ints _⟩
    · simp [mvE, mvL, mvG, mvZ, inL, hg]
  · subst hv
    refine Up.agg2 (Up.refl _) ?_
    rw [isI, hlen]; exact Up.cap _ _ _

theorem runF_le (b : List Nat) (x p : Nat) : ∀ f n, p + n ≤ b.length → p + runF b x p f n ≤ b.length
  | 0, n, h => h
  | f + 1, n, h => by
    simp only [runF]
    split
    · rename_i hc; exact runF_le b x p f (n + 1) (by omega)
    · exact h

theorem mtF_le (b : List Nat) (q p : Nat) : ∀ f n, p + n ≤ b.length → p + mtF b q p f n ≤ b.length
  | 0, n, h => h
  | f + 1, n, h => by
    simp only [mtF]
    split
    · rename_i hc; exact mtF_le b q p f (n + 1) (by omega)
    · exact h

theorem fdR_ok (b : List Nat) (hb : AllB b) : FindOK b (fdR b) := by
  intro p hp h
  have h1 := runF_ge b (b.getD p 0) p 129 1
  have h2 := runF_le b (b.getD p 0) p 129 1 (by omega)
  simp only [fdR] at h ⊢
  split at h
  · exact absurd rfl h
  · rename_i h3
    rw [if_neg h3]
    refine ⟨h2, by omega, by simp, by simp, fun y hy => ?_⟩
    rcases List.mem_cons.1 hy with rfl | hy
    · omega
    · rw [List.mem_singleton] at hy; subst hy; exact hb.get p

theorem lastA_room (b : List Nat) (p : Nat) (h : ¬ lastA b p < 0) : p + 4 ≤ b.length := by
  unfold lastA at h
  split at h
  · assumption
  · omega

theorem fdB_ok (b : List Nat) (hb : AllB b) : FindOK b (fdB b (lastL b)) := by
  intro p hp h
  unfold fdB at h ⊢
  rw [lastL_get b p hp] at h ⊢
  split at h
  · exact absurd rfl h
  · rename_i h3
    rw [if_neg h3]
    have h4 := lastA_room b p h3
    have h1 := mtF_ge b (lastA b p).toNat p 127 4
    have h2 := mtF_le b (lastA b p).toNat p 127 4 (by omega)
    refine ⟨h2, by simp only; omega, by simp, by simp, fun y hy => ?_⟩
    simp at hy
    rcases hy with rfl | rfl | rfl <;> omega

def packL (how : Int) (b : List Nat) : List Nat × Int :=
  if how < 0 ∨ 2 < how then ([], 1) else if 65536 < b.length then ([], 4)
  else if how = 1 then (pkF (fdR b) b b.length 0 0 [], 0) else if how = 2 then (pkF (fdB b (lastL b)) b b.length 0 0 [], 0) else (b, 0)

set_option maxHeartbeats 4000000 in
theorem packP_pre (how : Int) (b : List Nat) (hb : AllB b) (hl : b.length ≤ 140737488351232) :
    Tri Try.prog [] 17 [.lit (.int .i64 how), isB b] [] fun v h => ∃ ov, v = .tup [ov, .lit (.int .i64 (packL how b).2)] ∧
      ((ov = isB (packL how b).1) ∨ (ov = .lit (.slice none 0 0) ∧ (packL how b).1 = []) ∨ ∃ id cap, ov = .sl 1 id 0 (packL how b).1.length cap ∧ getH h id = .blk (bytesE (packL how b).1)) := by
  refine Tri_of F17_ok fun I0 ρ0 w0 Q hρ hQ => ?_
  obtain ⟨A, hA⟩ : ∃ A, A = stdA := ⟨_, rfl⟩
  obtain ⟨N, c, hi, hN, hc⟩ := isB_open b
  rw [hi]
  with_reducible refine runS hA hd hQ 100 ?hk ?_
  case hk => exact trivial
  conv => arg 8; cbv
  try simp only [OK]
  refine ⟨goodF_of F21_ok, (right_fr how).mono fun v h' hx => ?_⟩
  obtain ⟨hv, hh⟩ := hx
  obtain ⟨rb, hrb⟩ : ∃ rb, rb = decide (0 ≤ how ∧ how ≤ 2) := ⟨_, rfl⟩
  rw [← hrb] at hv; subst hv; subst hh
  with_reducible refine runK hA hd hQ 100 ?hk ?_
  case hk => exact trivial
  conv => arg 8; cbv
  try simp only [OK]
  refine ⟨fun h1 => ?_, fun h1 => ?_⟩ <;> simp only [hA, s_bnot, hrb, Bool.not_eq_true', Bool.not_eq_false', decide_eq_true_eq, decide_eq_false_iff_not] at h1
  · have hr' : packL how b = ([], 1) := by unfold packL; rw [if_pos (by omega)]
    with_reducible refine runK hA hd hQ 100 ?hk ?_
    case hk => exact trivial
    conv => arg 8; cbv
    try simp only [OK]
    exact ⟨_, rfl, .lit (.slice none 0 0), by rw [hr']; rfl, .inr (.inl ⟨rfl, by rw [hr']⟩)⟩
  · with_reducible refine runK hA hd hQ 100 ?hk ?_
    case hk => exact trivial
    conv => arg 8; cbv
    try simp only [OK]
    refine ⟨fun h2 => ?_, fun h2 => ?_⟩ <;> simp (disch := omega) only [hA, OK, s_le, s_inb, s_slb, s_room, s_mks, s_ne0, s_nn, s_eql, s_neq, s_lss, s_leq, s_gtr, s_geq, s_isz, s_bnot, s_beq, s_idx, s_addN, s_subN, s_mulN, s_tn, s_ofn, s_nmin, s_drp, s_tak, s_app, s_len, s_leB, s_add, s_sub, s_mul, s_wr64, s_wr8, bytesE_fold, bytesE_length, bytesE_drop, bytesE_take, bytesE_app, intsE_fold, intsE_length, decide_eq_true_eq, decide_eq_false_iff_not, Nat.mul_one, Nat.zero_add, Nat.add_zero, Bool.not_eq_true', List.length_take, List.length_drop, List.length_append, List.length_cons, List.length_nil, List.drop_zero] at h2
    · have hr' : packL how b = ([], 4) := by unfold packL; rw [if_neg (by omega), if_pos (by omega)]
      with_reducible refine runK hA hd hQ 100 ?hk ?_
      case hk => exact trivial
      conv => arg 8; cbv
      try simp only [OK]
      exact ⟨_, rfl, .lit (.slice none 0 0), by rw [hr']; rfl, .inr (.inl ⟨rfl, by rw [hr']⟩)⟩
    · have hl2 : b.length ≤ 65536 := by omega
      with_reducible refine runK hA hd hQ 100 ?hk ?_
      case hk => exact trivial
      conv => arg 8; cbv
      try simp only [OK]
      refine ⟨fun h3 => ?_, fun h3 => ?_⟩ <;> simp (disch := omega) only [hA, OK, s_le, s_inb, s_slb, s_room, s_mks, s_ne0, s_nn, s_eql, s_neq, s_lss, s_leq, s_gtr, s_geq, s_isz, s_bnot, s_beq, s_idx, s_addN, s_subN, s_mulN, s_tn, s_ofn, s_nmin, s_drp, s_tak, s_app, s_len, s_leB, s_add, s_sub, s_mul, s_wr64, s_wr8, bytesE_fold, bytesE_length, bytesE_drop, bytesE_take, bytesE_app, intsE_fold, intsE_length, decide_eq_true_eq, decide_eq_false_iff_not, Nat.mul_one, Nat.zero_add, Nat.add_zero, Bool.not_eq_true', List.length_take, List.length_drop, List.length_append, List.length_cons, List.length_nil, List.drop_zero] at h3
      · have hr' : packL how b = (pkF (fdR b) b b.length 0 0 [], 0) := by unfold packL; rw [if_neg (by omega), if_neg (by omega), if_pos h3]
        with_reducible refine runK hA hd hQ 100 ?hk ?_
        case hk => exact trivial
        conv => arg 8; cbv
        try simp only [OK]
        have t := packedR b hb hl2 N c hN hc (fdR b) (fdR_ok b hb) (fun p hp => by
          have := runs_at b hb hl2 p hp
          rwa [hi] at this)
        obtain ⟨r, hr⟩ : ∃ r, r = pkF (fdR b) b b.length 0 0 [] := ⟨_, rfl⟩
        obtain ⟨rn, rc, hri, hrn, hrc⟩ := isB_open r
        rw [← hr, hri] at t
        refine ⟨goodF_of F23_ok, t.mono fun v h' hx => ?_⟩
        obtain ⟨hv, hh⟩ := hx
        subst hv; subst hh
        with_reducible refine runK hA hd hQ 100 ?hk ?_
        case hk => exact trivial
        conv => arg 8; cbv
        try simp only [OK]
        exact ⟨_, rfl, .isl rn none rc, by rw [hr']; rfl, .inl (by rw [hr', ← hr, hri])⟩
      · with_reducible refine runK hA hd hQ 100 ?hk ?_
        case hk => exact trivial
        conv => arg 8; cbv
        try simp only [OK]
        refine ⟨fun h4 => ?_, fun h4 => ?_⟩ <;> simp (disch := omega) only [hA, OK, s_le, s_inb, s_slb, s_room, s_mks, s_ne0, s_nn, s_eql, s_neq, s_lss, s_leq, s_gtr, s_geq, s_isz, s_bnot, s_beq, s_idx, s_addN, s_subN, s_mulN, s_tn, s_ofn, s_nmin, s_drp, s_tak, s_app, s_len, s_leB, s_add, s_sub, s_mul, s_wr64, s_wr8, bytesE_fold, bytesE_length, bytesE_drop, bytesE_take, bytesE_app, intsE_fold, intsE_length, decide_eq_true_eq, decide_eq_false_iff_not, Nat.mul_one, Nat.zero_add, Nat.add_zero, Bool.not_eq_true', List.length_take, List.length_drop, List.length_append, List.length_cons, List.length_nil, List.drop_zero] at h4
        · have hr' : packL how b = (pkF (fdB b (lastL b)) b b.length 0 0 [], 0) := by unfold packL; rw [if_neg (by omega), if_neg (by omega), if_neg h3, if_pos h4]
          with_reducible refine runK hA hd hQ 100 ?hk ?_
          case hk => exact trivial
          conv => arg 8; cbv
          try simp only [OK]
          have t0 := meets_fr b hb hl2 N c hN hc
          obtain ⟨N2, c2, hi2, hN2, hc2⟩ := isI_open (lastL b)
          rw [hi2] at t0
          refine ⟨goodF_of F24_ok, t0.mono fun v h' hx => ?_⟩
          obtain ⟨hv, hh⟩ := hx
          subst hv; subst hh
          with_reducible refine runK hA hd hQ 100 ?hk ?_
          case hk => exact trivial
          conv => arg 8; cbv
          try simp only [OK]
          have t := packedB b hb hl2 N c N2 c2 hN hc (fdB b (lastL b)) (fdB_ok b hb) (fun p hp => by
            have := backs_at b hb hl2 (lastL b) (by simp [lastL]) p hp (by rw [lastL_get b p hp]; exact lastA_ok b p)
            rwa [hi, hi2] at this)
          obtain ⟨r, hr⟩ : ∃ r, r = pkF (fdB b (lastL b)) b b.length 0 0 [] := ⟨_, rfl⟩
          obtain ⟨rn, rc, hri, hrn, hrc⟩ := isB_open r
          rw [← hr, hri] at t
          refine ⟨goodF_of F23_ok, t.mono fun v h' hx => ?_⟩
          obtain ⟨hv, hh⟩ := hx
          subst hv; subst hh
          with_reducible refine runK hA hd hQ 100 ?hk ?_
          case hk => exact trivial
          conv => arg 8; cbv
          try simp only [OK]
          exact ⟨_, rfl, .isl rn none rc, by rw [hr']; rfl, .inl (by rw [hr', ← hr, hri])⟩
        · have hr' : packL how b = (b, 0) := by unfold packL; rw [if_neg (by omega), if_neg (by omega), if_neg h3, if_neg h4]
          with_reducible refine runK hA hd hQ 100 ?hk ?_
          case hk => exact trivial
          conv => arg 8; cbv
          try simp only [OK]
          refine ⟨by simp (disch := omega) only [hA, OK, s_le, s_inb, s_slb, s_room, s_mks, s_ne0, s_nn, s_eql, s_neq, s_lss, s_leq, s_gtr, s_geq, s_isz, s_bnot, s_beq, s_idx, s_addN, s_subN, s_mulN, s_tn, s_ofn, s_nmin, s_drp, s_tak, s_app, s_len, s_leB, s_add, s_sub, s_mul, s_wr64, s_wr8, bytesE_fold, bytesE_length, bytesE_drop, bytesE_take, bytesE_app, intsE_fold, intsE_length, decide_eq_true_eq, decide_eq_false_iff_not, Nat.mul_one, Nat.zero_add, Nat.add_zero, Bool.not_eq_true', List.length_take, List.length_drop, List.length_append, List.length_cons, List.length_nil, List.drop_zero , hc] <;> omega, by simp (disch := omega) only [hA, OK, s_le, s_inb, s_slb, s_room, s_mks, s_ne0, s_nn, s_eql, s_neq, s_lss, s_leq, s_gtr, s_geq, s_isz, s_bnot, s_beq, s_idx, s_addN, s_subN, s_mulN, s_tn, s_ofn, s_nmin, s_drp, s_tak, s_app, s_len, s_leB, s_add, s_sub, s_mul, s_wr64, s_wr8, bytesE_fold, bytesE_length, bytesE_drop, bytesE_take, bytesE_app, intsE_fold, intsE_length, decide_eq_true_eq, decide_eq_false_iff_not, Nat.mul_one, Nat.zero_add, Nat.add_zero, Bool.not_eq_true', List.length_take, List.length_drop, List.length_append, List.length_cons, List.length_nil, List.drop_zero] <;> omega, fun h5 => ?_, fun h5 => ?_⟩ <;> simp (disch := omega) only [hA, OK, s_le, s_inb, s_slb, s_room, s_mks, s_ne0, s_nn, s_eql, s_neq, s_lss, s_leq, s_gtr, s_geq, s_isz, s_bnot, s_beq, s_idx, s_addN, s_subN, s_mulN, s_tn, s_ofn, s_nmin, s_drp, s_tak, s_app, s_len, s_leB, s_add, s_sub, s_mul, s_wr64, s_wr8, bytesE_fold, bytesE_length, bytesE_drop, bytesE_take, bytesE_app, intsE_fold, intsE_length, decide_eq_true_eq, decide_eq_false_iff_not, Nat.mul_one, Nat.zero_add, Nat.add_zero, Bool.not_eq_true', List.length_take, List.length_drop, List.length_append, List.length_cons, List.length_nil, List.drop_zero] at h5
          · with_reducible refine runK hA hd hQ 100 ?hk ?_
            case hk => exact trivial
            conv => arg 8; cbv
            try simp only [OK]
            exact ⟨_, rfl, .lit (.slice none 0 0), by rw [hr']; rfl, .inr (.inl ⟨rfl, by rw [hr']; exact (List.length_eq_zero_iff.1 (by omega) : b = [])⟩)⟩
          · with_reducible refine runK hA hd hQ 100 ?hk ?_
            case hk => exact trivial
            conv => arg 8; cbv
            try simp only [OK]
            refine ⟨_, rfl, .sl 1 0 0 N none, by rw [hr']; rfl, .inr (.inr ⟨0, none, by rw [hr', hN], ?_⟩)⟩
            rw [hr']; simp only [getH]; simp (disch := omega) only [hA, OK, s_le, s_inb, s_slb, s_room, s_mks, s_ne0, s_nn, s_eql, s_neq, s_lss, s_leq, s_gtr, s_geq, s_isz, s_bnot, s_beq, s_idx, s_addN, s_subN, s_mulN, s_tn, s_ofn, s_nmin, s_drp, s_tak, s_app, s_len, s_leB, s_add, s_sub, s_mul, s_wr64, s_wr8, bytesE_fold, bytesE_length, bytesE_drop, bytesE_take, bytesE_app, intsE_fold, intsE_length, decide_eq_true_eq, decide_eq_false_iff_not, Nat.mul_one, Nat.zero_add, Nat.add_zero, Bool.not_eq_true', List.length_take, List.length_drop, List.length_append, List.length_cons, List.length_nil, List.drop_zero , hc, hN, List.take_length]

theorem packP (how : Int) (b : List Nat) (hb : AllB b) (hl : b.length ≤ 140737488351232) :
    Tri Try.prog [] 17 [.lit (.int .i64 how), isB b] [] fun v h => v = .tup [isB (packL how b).1, .lit (.int .i64 (packL how b).2)] ∧ h = [] := by
  obtain ⟨r, hr⟩ : ∃ r, r = (packL how b).1 := ⟨_, rfl⟩
  have t := packP_pre how b hb hl
  rw [← hr] at t ⊢
  refine Tri.up (R := fun v h => ∃ ov, v = .tup [ov, .lit (.int .i64 (packL how b).2)] ∧ Up ov (isB r) ∧ h = []) (Tri.mv t fun v h hx => ?_) (fun v h hx => ?_)
  · obtain ⟨ov, hv, hc⟩ := hx
    subst hv
    rcases hc with rfl | ⟨rfl, hr0⟩ | ⟨id, cap, rfl, hg⟩
    · exact ⟨[], [], rfl, ⟨by simp, by simp, by simp⟩, isB r, by simp [mvE, mvL, isB], Up.refl _, rfl⟩
    · exact ⟨[], [], rfl, ⟨by simp, by simp, by simp⟩, .lit (.slice none 0 0), by simp [mvE, mvL], by rw [hr0]; exact Up.nil _, rfl⟩
    · refine ⟨[], [id], rfl, ⟨by simp, by simp, fun i hi => ?_⟩, .isl r.length cap (bytesE r), ?_, Up.cap _ _ _, rfl⟩
      · simp at hi; subst hi; exact ⟨_, hg, clL_bytes r⟩
      · simp [mvE, mvL, mvG, mvZ, inL, hg]
  · obtain ⟨ov, hv, hu, hh⟩ := hx
    exact ⟨_, ⟨rfl, hh⟩, by rw [hv]; exact Up.tup2 hu (Up.refl _)⟩

end Go.Proofs.Ytplibngmgebigaa.Press
