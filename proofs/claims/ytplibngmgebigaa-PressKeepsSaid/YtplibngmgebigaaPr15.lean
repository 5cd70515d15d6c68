/- Pr15: what was packed comes out again, and packing costs a byte for 128 at most. No conditions. -/
import Derived.Test.YtplibngmgebigaaPr14
set_option linter.unusedVariables false
set_option linter.unusedSimpArgs false
namespace Go.Proofs.Ytplibngmgebigaa.Press
open Go Go.Proofs.Ytplibngmgebigaa Go.Proofs.Ytplibngmgebigaa.Em

theorem layF_bound (b : List Nat) : ∀ (f fr to : Nat) (E : List Nat), to - fr ≤ f → (layF b f fr to E).length ≤ E.length + (to - fr) + (to - fr + 127) / 128
  | 0, fr, to, E, h => by simp only [layF]; omega
  | f + 1, fr, to, E, h => by
    simp only [layF]
    split
    · have := layF_bound b f (fr + min (to - fr) 128) to (E ++ (min (to - fr) 128 - 1) :: (b.drop fr).take (min (to - fr) 128)) (by omega)
      simp only [List.length_append, List.length_cons, List.length_take] at this
      omega
    · omega

theorem pkF_bound (b : List Nat) (find : Nat → Nat × List Nat) (hok : FindOK b find) (hit : ∀ p, p < b.length → (find p).1 ≠ 0 → (find p).2.length + 1 ≤ (find p).1) : ∀ (f i fr : Nat) (E : List Nat), fr ≤ i → i ≤ b.length → E.length ≤ fr + fr / 128 →
    (pkF find b f i fr E).length ≤ b.length + (b.length + 127) / 128
  | 0, i, fr, E, h1, h2, h3 => by
    have := layF_bound b (b.length - fr) fr b.length E (Nat.le_refl _)
    simp only [pkF]; omega
  | f + 1, i, fr, E, h1, h2, h3 => by
    simp only [pkF]
    split
    · rename_i hi
      split
      · exact pkF_bound b find hok hit f (i + 1) fr E (by omega) (by omega) h3
      · rename_i hn
        obtain ⟨k1, k2, _⟩ := hok i hi hn
        have k3 := hit i hi hn
        have := layF_bound b (i - fr) fr i E (Nat.le_refl _)
        exact pkF_bound b find hok hit f _ _ _ (Nat.le_refl _) k1 (by rw [List.length_append]; omega)
    · have := layF_bound b (b.length - fr) fr b.length E (Nat.le_refl _)
      omega

theorem pack_bound (how : Int) (b : List Nat) (hb : AllB b) : (packL how b).1.length ≤ b.length + (b.length + 127) / 128 := by
  unfold packL
  split
  · simp
  · split
    · simp
    · split
      · refine pkF_bound b _ (fdR_ok b hb) (fun p hp h => ?_) _ _ _ _ (Nat.le_refl _) (by omega) (by simp)
        simp only [fdR] at h ⊢
        split at h
        · exact absurd rfl h
        · rename_i h3; rw [if_neg h3]; simp only [List.length_cons, List.length_nil]; omega
      · split
        · refine pkF_bound b _ (fdB_ok b hb) (fun p hp h => ?_) _ _ _ _ (Nat.le_refl _) (by omega) (by simp)
          have h1 := mtF_ge b ((lastL b).getD p 0).toNat p 127 4
          unfold fdB at h ⊢
          split at h
          · exact absurd rfl h
          · rename_i h3; rw [if_neg h3]; simp only [List.length_cons, List.length_nil]; omega
        · simp only; omega

theorem un_pack (how : Int) (hh : 0 ≤ how ∧ how ≤ 2) (b : List Nat) (hb : AllB b) (hl : b.length ≤ 65536) (raw : Int) (hr : raw = b.length) : unL how (packL how b).1 raw = (b, 0) := by
  unfold unL
  rw [if_neg (by omega), if_neg (by omega), op_pack how hh b hb hl raw 61 (by omega), if_neg (by simp), if_neg (by simp only; omega)]

theorem sz_pack (how : Int) (hh : 0 ≤ how ∧ how ≤ 2) (b : List Nat) (hb : AllB b) (hl : b.length ≤ 65536) : szL how (packL how b).1 = ((b.length : Int), 0) := by
  unfold szL
  rw [if_neg (by omega), op_pack how hh b hb hl 65536 4 (by omega)]

theorem pack_zero (how : Int) (hh : 0 ≤ how ∧ how ≤ 2) (b : List Nat) (hl : b.length ≤ 65536) : (packL how b).2 = 0 := by
  unfold packL
  rw [if_neg (by omega), if_neg (by omega)]
  split
  · rfl
  · split <;> rfl

theorem pack_err (how : Int) (b : List Nat) (h : how < 0 ∨ 2 < how ∨ 65536 < b.length) : (packL how b).2 ≠ 0 := by
  unfold packL
  split
  · simp
  · rw [if_pos (by omega)]; simp

theorem ss_eql_self (s : ByteArray) : stdA.ss .eql s s = true := by simp [stdA]

theorem s_quo (a : Int) (h : 0 ≤ a) (h2 : a ≤ 9223372036854775807) : stdA.ib .quo .i64 a 128 = a / 128 := by
  have : stdA.ib .quo .i64 a 128 = IntKind.i64.wrap (a.tdiv 128) := rfl
  rw [this, Int.tdiv_eq_ediv_of_nonneg h, wrap_i64 _ (by omega) (by omega)]

def ret_sh : List Sh := [.slice 1 (.int .u8), .int .i64]

set_option maxHeartbeats 600000 in
theorem returns_law : ∀ es, HasVs ret_sh es → Tri Try.prog [] 7 es [] yesE := by
  intro es h
  obtain ⟨e1, r1, rfl, h1, e2, r2, rfl, h2, h3⟩ := h
  have h3 : r2 = [] := h3
  subst h3
  obtain ⟨b, rfl, hb, hl⟩ := HasV.bytes h1
  obtain ⟨how, rfl, hw1, hw2⟩ := HasV.i64 h2
  clear h1 h2
  refine Tri_of F7_ok fun I0 ρ0 w0 Q hρ hQ => ?_
  obtain ⟨A, hA⟩ : ∃ A, A = stdA := ⟨_, rfl⟩
  obtain ⟨N, c, hi, hN, hc⟩ := isB_open b
  rw [show EV.isl b.length none (bytesE b) = isB b from rfl, hi]
  obtain ⟨P, hP⟩ : ∃ P, P = packL how b := ⟨_, rfl⟩
  obtain ⟨pn, pc, hpi, hpn, hpc⟩ := isB_open P.1
  obtain ⟨pe, hpe⟩ : ∃ pe, pe = P.2 := ⟨_, rfl⟩
  have tP := packP how b hb hl
  rw [← hP, ← hpe, hpi, hi] at tP
  with_reducible refine runS hA hd hQ 200 ?hk ?_
  case hk => exact trivial
  conv => arg 8; cbv
  try simp only [OK]
  refine ⟨goodF_of F11_ok, awake_ok.mono fun v h' hx => ?_⟩
  obtain ⟨hv, hh⟩ := hx
  subst hv; subst hh
  with_reducible refine runK hA hd hQ 200 ?hk ?_
  case hk => exact trivial
  conv => arg 8; cbv
  try simp only [OK]
  refine ⟨fun h1 => absurd h1 (by simp (disch := omega) only [hA, OK, s_le, s_inb, s_slb, s_room, s_mks, s_ne0, s_nn, s_eql, s_neq, s_lss, s_leq, s_gtr, s_geq, s_isz, s_bnot, s_beq, s_idx, s_addN, s_subN, s_mulN, s_tn, s_ofn, s_nmin, s_drp, s_tak, s_app, s_len, s_leB, s_add, s_sub, s_mul, s_wr64, s_wr8, bytesE_fold, bytesE_length, bytesE_drop, bytesE_take, bytesE_app, intsE_fold, intsE_length, decide_eq_true_eq, decide_eq_false_iff_not, Nat.mul_one, Nat.zero_add, Nat.add_zero, Bool.not_eq_true', List.length_take, List.length_drop, List.length_append, List.length_cons, List.length_nil, List.drop_zero]; decide), fun h1 => ?_⟩
  with_reducible refine runK hA hd hQ 200 ?hk ?_
  case hk => exact trivial
  conv => arg 8; cbv
  try simp only [OK]
  refine ⟨fun h2 => ?_, fun h2 => ?_⟩ <;> simp (disch := omega) only [hA, OK, s_le, s_inb, s_slb, s_room, s_mks, s_ne0, s_nn, s_eql, s_neq, s_lss, s_leq, s_gtr, s_geq, s_isz, s_bnot, s_beq, s_idx, s_addN, s_subN, s_mulN, s_tn, s_ofn, s_nmin, s_drp, s_tak, s_app, s_len, s_leB, s_add, s_sub, s_mul, s_wr64, s_wr8, bytesE_fold, bytesE_length, bytesE_drop, bytesE_take, bytesE_app, intsE_fold, intsE_length, decide_eq_true_eq, decide_eq_false_iff_not, Nat.mul_one, Nat.zero_add, Nat.add_zero, Bool.not_eq_true', List.length_take, List.length_drop, List.length_append, List.length_cons, List.length_nil, List.drop_zero] at h2
  · have herr := pack_err how b (by omega)
    rw [← hP, ← hpe] at herr
    with_reducible refine runK hA hd hQ 200 ?hk ?_
    case hk => exact trivial
    conv => arg 8; cbv
    try simp only [OK]
    refine ⟨goodF_of F17_ok, tP.mono fun v h' hx => ?_⟩
    obtain ⟨hv, hh⟩ := hx
    subst hv; subst hh
    with_reducible refine runK hA hd hQ 200 ?hk ?_
    case hk => exact trivial
    conv => arg 8; cbv
    try simp only [OK]
    refine ⟨_, rfl, .inr ?_⟩
    show EV.sb (A.ic .neq pe 0) = _
    rw [hA, s_neq]; simp [herr]
  · with_reducible refine runK hA hd hQ 200 ?hk ?_
    case hk => exact trivial
    conv => arg 8; cbv
    try simp only [OK]
    refine ⟨fun h3 => ?_, fun h3 => ?_⟩ <;> simp (disch := omega) only [hA, OK, s_le, s_inb, s_slb, s_room, s_mks, s_ne0, s_nn, s_eql, s_neq, s_lss, s_leq, s_gtr, s_geq, s_isz, s_bnot, s_beq, s_idx, s_addN, s_subN, s_mulN, s_tn, s_ofn, s_nmin, s_drp, s_tak, s_app, s_len, s_leB, s_add, s_sub, s_mul, s_wr64, s_wr8, bytesE_fold, bytesE_length, bytesE_drop, bytesE_take, bytesE_app, intsE_fold, intsE_length, decide_eq_true_eq, decide_eq_false_iff_not, Nat.mul_one, Nat.zero_add, Nat.add_zero, Bool.not_eq_true', List.length_take, List.length_drop, List.length_append, List.length_cons, List.length_nil, List.drop_zero] at h3
    · have herr := pack_err how b (by omega)
      rw [← hP, ← hpe] at herr
      with_reducible refine runK hA hd hQ 200 ?hk ?_
      case hk => exact trivial
      conv => arg 8; cbv
      try simp only [OK]
      refine ⟨goodF_of F17_ok, tP.mono fun v h' hx => ?_⟩
      obtain ⟨hv, hh⟩ := hx
      subst hv; subst hh
      with_reducible refine runK hA hd hQ 200 ?hk ?_
      case hk => exact trivial
      conv => arg 8; cbv
      try simp only [OK]
      refine ⟨_, rfl, .inr ?_⟩
      show EV.sb (A.ic .neq pe 0) = _
      rw [hA, s_neq]; simp [herr]
    · with_reducible refine runK hA hd hQ 200 ?hk ?_
      case hk => exact trivial
      conv => arg 8; cbv
      try simp only [OK]
      refine ⟨fun h4 => ?_, fun h4 => ?_⟩ <;> simp (disch := omega) only [hA, OK, s_le, s_inb, s_slb, s_room, s_mks, s_ne0, s_nn, s_eql, s_neq, s_lss, s_leq, s_gtr, s_geq, s_isz, s_bnot, s_beq, s_idx, s_addN, s_subN, s_mulN, s_tn, s_ofn, s_nmin, s_drp, s_tak, s_app, s_len, s_leB, s_add, s_sub, s_mul, s_wr64, s_wr8, bytesE_fold, bytesE_length, bytesE_drop, bytesE_take, bytesE_app, intsE_fold, intsE_length, decide_eq_true_eq, decide_eq_false_iff_not, Nat.mul_one, Nat.zero_add, Nat.add_zero, Bool.not_eq_true', List.length_take, List.length_drop, List.length_append, List.length_cons, List.length_nil, List.drop_zero] at h4
      · have herr := pack_err how b (by omega)
        rw [← hP, ← hpe] at herr
        with_reducible refine runK hA hd hQ 200 ?hk ?_
        case hk => exact trivial
        conv => arg 8; cbv
        try simp only [OK]
        refine ⟨goodF_of F17_ok, tP.mono fun v h' hx => ?_⟩
        obtain ⟨hv, hh⟩ := hx
        subst hv; subst hh
        with_reducible refine runK hA hd hQ 200 ?hk ?_
        case hk => exact trivial
        conv => arg 8; cbv
        try simp only [OK]
        refine ⟨_, rfl, .inr ?_⟩
        show EV.sb (A.ic .neq pe 0) = _
        rw [hA, s_neq]; simp [herr]
      · have hh2 : 0 ≤ how ∧ how ≤ 2 := by omega
        have hl2 : b.length ≤ 65536 := by omega
        have hbd := pack_bound how b hb
        have hPa := pack_all how b hb
        rw [← hP] at hbd hPa
        have hp0 : pe = 0 := by rw [hpe, hP]; exact pack_zero how hh2 b hl2
        have tU := unpackP how P.1 hPa (by omega) (A.ofn N)
        rw [hP, un_pack how hh2 b hb hl2 (A.ofn N) (by rw [hA, s_ofn, hN]), ← hP, hpi, hi] at tU
        have tS := sizeP how P.1 hPa (by omega)
        rw [hP, sz_pack how hh2 b hb hl2, ← hP, hpi] at tS
        obtain ⟨nz, hnz⟩ : ∃ nz : Int, nz = (b.length : Int) := ⟨_, rfl⟩
        rw [← hnz] at tS
        with_reducible refine runK hA hd hQ 200 ?hk ?_
        case hk => exact trivial
        conv => arg 8; cbv
        try simp only [OK]
        refine ⟨goodF_of F17_ok, tP.mono fun v h' hx => ?_⟩
        obtain ⟨hv, hh⟩ := hx
        subst hv; subst hh
        with_reducible refine runK hA hd hQ 200 ?hk ?_
        case hk => exact trivial
        conv => arg 8; cbv
        try simp only [OK]
        refine ⟨goodF_of F14_ok, tU.mono fun v h' hx => ?_⟩
        obtain ⟨hv, hh⟩ := hx
        subst hv; subst hh
        with_reducible refine runK hA hd hQ 200 ?hk ?_
        case hk => exact trivial
        conv => arg 8; cbv
        try simp only [OK]
        refine ⟨goodF_of F16_ok, tS.mono fun v h' hx => ?_⟩
        obtain ⟨hv, hh⟩ := hx
        subst hv; subst hh
        with_reducible refine runK hA hd hQ 200 ?hk ?_
        case hk => exact trivial
        conv => arg 8; cbv
        try simp only [OK]
        refine ⟨fun h5 => ?_, fun h5 => ?_⟩
        rotate_left
        · with_reducible exfalso; (simp (disch := omega) only [hA, OK, s_le, s_inb, s_slb, s_room, s_mks, s_ne0, s_nn, s_eql, s_neq, s_lss, s_leq, s_gtr, s_geq, s_isz, s_bnot, s_beq, s_idx, s_addN, s_subN, s_mulN, s_tn, s_ofn, s_nmin, s_drp, s_tak, s_app, s_len, s_leB, s_add, s_sub, s_mul, s_wr64, s_wr8, bytesE_fold, bytesE_length, bytesE_drop, bytesE_take, bytesE_app, intsE_fold, intsE_length, decide_eq_true_eq, decide_eq_false_iff_not, Nat.mul_one, Nat.zero_add, Nat.add_zero, Bool.not_eq_true', List.length_take, List.length_drop, List.length_append, List.length_cons, List.length_nil, List.drop_zero, reduceCtorEq, not_true_eq_false, not_false_eq_true] at h5 <;> omega)
        with_reducible refine runK hA hd hQ 200 ?hk ?_
        case hk => exact trivial
        conv => arg 8; cbv
        try simp only [OK]
        refine ⟨fun h6 => ?_, fun h6 => ?_⟩
        rotate_left
        · with_reducible exfalso; (simp (disch := omega) only [hA, OK, s_le, s_inb, s_slb, s_room, s_mks, s_ne0, s_nn, s_eql, s_neq, s_lss, s_leq, s_gtr, s_geq, s_isz, s_bnot, s_beq, s_idx, s_addN, s_subN, s_mulN, s_tn, s_ofn, s_nmin, s_drp, s_tak, s_app, s_len, s_leB, s_add, s_sub, s_mul, s_wr64, s_wr8, bytesE_fold, bytesE_length, bytesE_drop, bytesE_take, bytesE_app, intsE_fold, intsE_length, decide_eq_true_eq, decide_eq_false_iff_not, Nat.mul_one, Nat.zero_add, Nat.add_zero, Bool.not_eq_true', List.length_take, List.length_drop, List.length_append, List.length_cons, List.length_nil, List.drop_zero, reduceCtorEq, not_true_eq_false, not_false_eq_true] at h6 <;> omega)
        with_reducible refine runK hA hd hQ 200 ?hk ?_
        case hk => exact trivial
        conv => arg 8; cbv
        try simp only [OK]
        refine ⟨fun h7 => ?_, fun h7 => ?_⟩
        rotate_left
        · with_reducible exfalso; (simp (disch := omega) only [hA, OK, s_le, s_inb, s_slb, s_room, s_mks, s_ne0, s_nn, s_eql, s_neq, s_lss, s_leq, s_gtr, s_geq, s_isz, s_bnot, s_beq, s_idx, s_addN, s_subN, s_mulN, s_tn, s_ofn, s_nmin, s_drp, s_tak, s_app, s_len, s_leB, s_add, s_sub, s_mul, s_wr64, s_wr8, bytesE_fold, bytesE_length, bytesE_drop, bytesE_take, bytesE_app, intsE_fold, intsE_length, decide_eq_true_eq, decide_eq_false_iff_not, Nat.mul_one, Nat.zero_add, Nat.add_zero, Bool.not_eq_true', List.length_take, List.length_drop, List.length_append, List.length_cons, List.length_nil, List.drop_zero, reduceCtorEq, not_true_eq_false, not_false_eq_true] at h7 <;> omega)
        with_reducible refine runK hA hd hQ 200 ?hk ?_
        case hk => exact trivial
        conv => arg 8; cbv
        try simp only [OK]
        refine ⟨fun h8 => ?_, fun h8 => ?_⟩
        rotate_left
        · with_reducible exfalso; (simp (disch := omega) only [hA, OK, s_le, s_inb, s_slb, s_room, s_mks, s_ne0, s_nn, s_eql, s_neq, s_lss, s_leq, s_gtr, s_geq, s_isz, s_bnot, s_beq, s_idx, s_addN, s_subN, s_mulN, s_tn, s_ofn, s_nmin, s_drp, s_tak, s_app, s_len, s_leB, s_add, s_sub, s_mul, s_wr64, s_wr8, bytesE_fold, bytesE_length, bytesE_drop, bytesE_take, bytesE_app, intsE_fold, intsE_length, decide_eq_true_eq, decide_eq_false_iff_not, Nat.mul_one, Nat.zero_add, Nat.add_zero, Bool.not_eq_true', List.length_take, List.length_drop, List.length_append, List.length_cons, List.length_nil, List.drop_zero, reduceCtorEq, not_true_eq_false, not_false_eq_true] at h8 <;> omega)
        with_reducible refine runK hA hd hQ 200 ?hk ?_
        case hk => exact trivial
        conv => arg 8; cbv
        try simp only [OK]
        have hby : A.byt N c = true := by rw [hA, hc, hN]; exact byt_ok hb (Nat.le_refl _)
        refine ⟨hby, hby, ?_⟩
        refine ⟨fun h9 => ?_, fun h9 => ?_⟩
        rotate_left
        · with_reducible exfalso; (simp (disch := omega) only [hA, OK, s_le, s_inb, s_slb, s_room, s_mks, s_ne0, s_nn, s_eql, s_neq, s_lss, s_leq, s_gtr, s_geq, s_isz, s_bnot, s_beq, s_idx, s_addN, s_subN, s_mulN, s_tn, s_ofn, s_nmin, s_drp, s_tak, s_app, s_len, s_leB, s_add, s_sub, s_mul, s_wr64, s_wr8, bytesE_fold, bytesE_length, bytesE_drop, bytesE_take, bytesE_app, intsE_fold, intsE_length, decide_eq_true_eq, decide_eq_false_iff_not, Nat.mul_one, Nat.zero_add, Nat.add_zero, Bool.not_eq_true', List.length_take, List.length_drop, List.length_append, List.length_cons, List.length_nil, List.drop_zero , ss_eql_self, reduceCtorEq, not_true_eq_false, not_false_eq_true] at h9 <;> omega)
        with_reducible refine runK hA hd hQ 200 ?hk ?_
        case hk => exact trivial
        conv => arg 8; cbv
        try simp only [OK]
        refine ⟨by simp (disch := omega) only [hA, OK, s_le, s_inb, s_slb, s_room, s_mks, s_ne0, s_nn, s_eql, s_neq, s_lss, s_leq, s_gtr, s_geq, s_isz, s_bnot, s_beq, s_idx, s_addN, s_subN, s_mulN, s_tn, s_ofn, s_nmin, s_drp, s_tak, s_app, s_len, s_leB, s_add, s_sub, s_mul, s_wr64, s_wr8, bytesE_fold, bytesE_length, bytesE_drop, bytesE_take, bytesE_app, intsE_fold, intsE_length, decide_eq_true_eq, decide_eq_false_iff_not, Nat.mul_one, Nat.zero_add, Nat.add_zero, Bool.not_eq_true', List.length_take, List.length_drop, List.length_append, List.length_cons, List.length_nil, List.drop_zero]; omega, _, rfl, .inr ?_⟩
        show EV.sb (A.ic .leq (A.ofn pn) (A.ib .add .i64 (A.ofn N) (A.ib .quo .i64 (A.ib .add .i64 (A.ofn N) 127) 128))) = _
        simp (disch := omega) only [hA, OK, s_le, s_inb, s_slb, s_room, s_mks, s_ne0, s_nn, s_eql, s_neq, s_lss, s_leq, s_gtr, s_geq, s_isz, s_bnot, s_beq, s_idx, s_addN, s_subN, s_mulN, s_tn, s_ofn, s_nmin, s_drp, s_tak, s_app, s_len, s_leB, s_add, s_sub, s_mul, s_wr64, s_wr8, bytesE_fold, bytesE_length, bytesE_drop, bytesE_take, bytesE_app, intsE_fold, intsE_length, decide_eq_true_eq, decide_eq_false_iff_not, Nat.mul_one, Nat.zero_add, Nat.add_zero, Bool.not_eq_true', List.length_take, List.length_drop, List.length_append, List.length_cons, List.length_nil, List.drop_zero , s_quo]
        simp only [EV.sb.injEq, decide_eq_true_eq]
        omega

end Go.Proofs.Ytplibngmgebigaa.Press
