/- Pr21: the document's four bytes as a number. No conditions beyond those written. -/
import Derived.Test.YtplibngmgebigaaPr20
set_option linter.unusedVariables false
set_option linter.unusedSimpArgs false
namespace Go.Proofs.Ytplibngmgebigaa.Press
open Go Go.Proofs.Ytplibngmgebigaa Go.Proofs.Ytplibngmgebigaa.Em

theorem s_or (k : Nat) (a m : Nat) (h1 : a < 2 ^ k) (h2 : a + m * 2 ^ k < 2 ^ 63) : stdA.ib .or .i64 (a : Int) ((m * 2 ^ k : Nat) : Int) = ((a + m * 2 ^ k : Nat) : Int) := by
  show IntKind.i64.wrap (((BitVec.ofInt 64 (a : Int) ||| BitVec.ofInt 64 ((m * 2 ^ k : Nat) : Int)).toNat : Nat) : Int) = _
  rw [BitVec.ofInt_natCast, BitVec.ofInt_natCast, BitVec.toNat_or, BitVec.toNat_ofNat, BitVec.toNat_ofNat]
  have e1 : a % 2 ^ 64 = a := Nat.mod_eq_of_lt (by omega)
  have e2 : (m * 2 ^ k) % 2 ^ 64 = m * 2 ^ k := Nat.mod_eq_of_lt (by omega)
  rw [e1, e2, Nat.or_comm, Nat.mul_comm m, ← Nat.two_pow_add_eq_or_of_lt h1, Nat.mul_comm _ m, Nat.add_comm]
  exact wrap_i64 _ (by omega) (by omega)

theorem s_shlK (z k : Nat) (hk : k ≤ 24) (h2 : z < 256) : stdA.sh .shl .i64 (z : Int) (k : Int) = ((z * 2 ^ k : Nat) : Int) := by
  simp only [stdA, IntKind.bits]
  have e : min (Int.toNat (k : Int)) 64 = k := by omega
  have e2 : 2 ^ k ≤ 2 ^ 24 := Nat.pow_le_pow_right (by omega) hk
  have e3 : z * 2 ^ k ≤ 256 * 2 ^ 24 := Nat.mul_le_mul (by omega) e2
  have e4 : (z : Int) * 2 ^ k = ((z * 2 ^ k : Nat) : Int) := by simp
  rw [e, e4]
  exact wrap_i64 _ (by omega) (by omega)

def word4 (a b c d : Nat) : Nat := a + b * 256 + c * 65536 + d * 16777216

theorem s_word (a b c d : Nat) (ha : a < 256) (hb : b < 256) (hc : c < 256) (hd : d < 256) :
    stdA.ib .or .i64 (stdA.ib .or .i64 (stdA.ib .or .i64 (a : Int) (stdA.sh .shl .i64 (b : Int) 8)) (stdA.sh .shl .i64 (c : Int) 16)) (stdA.sh .shl .i64 (d : Int) 24) = ((word4 a b c d : Nat) : Int) := by
  have e1 := s_shlK b 8 (by omega) hb
  have e2 := s_shlK c 16 (by omega) hc
  have e3 := s_shlK d 24 (by omega) hd
  rw [show ((8 : Nat) : Int) = 8 by rfl] at e1
  rw [show ((16 : Nat) : Int) = 16 by rfl] at e2
  rw [show ((24 : Nat) : Int) = 24 by rfl] at e3
  rw [e1, e2, e3, s_or 8 a b (by omega) (by omega), s_or 16 _ c (by omega) (by omega), s_or 24 _ d (by omega) (by omega)]
  simp [word4]

def wordN (w : List Nat) : Nat := word4 (w.getD 0 0) (w.getD 1 0) (w.getD 2 0) (w.getD 3 0)

def wordF (b : List Nat) (p : Nat) : Int := if p + 4 ≤ b.length then ((wordN ((b.drop p).take 4) : Nat) : Int) else -1

theorem wordN_inj : ∀ (w w' : List Nat), w.length = 4 → w'.length = 4 → AllB w → AllB w' → wordN w = wordN w' → w = w'
  | [a, b, c, d], [a', b', c', d'], _, _, h, h', e => by
    have h1 := h a (by simp); have h2 := h b (by simp); have h3 := h c (by simp); have h4 := h d (by simp)
    have k1 := h' a' (by simp); have k2 := h' b' (by simp); have k3 := h' c' (by simp); have k4 := h' d' (by simp)
    simp only [wordN, word4, List.getD_cons_zero, List.getD_cons_succ] at e
    have e4 : d = d' := by omega
    have e3 : c = c' := by omega
    have e2 : b = b' := by omega
    have e1 : a = a' := by omega
    rw [e1, e2, e3, e4]

set_option maxHeartbeats 1000000 in
theorem word_ref (b : List Nat) (hb : AllB b) (hl : b.length ≤ 65536) (p : Nat) (hp : p ≤ b.length) :
    Tri Try.prog [] 31 [isB b, .lit (.int .i64 (p : Int))] [] fun v h => v = .lit (.int .i64 (wordF b p)) ∧ h = [] := by
  refine Tri.mv (R := fun v h => v = .lit (.int .i64 (wordF b p))) ?_ fun v h hv => ⟨[], [], rfl, ⟨by simp, by simp, by simp⟩, by subst hv; simp [mvE], rfl⟩
  refine Tri_of F31_ok fun I0 ρ0 w0 Q hρ hQ => ?_
  obtain ⟨A, hA⟩ : ∃ A, A = stdA := ⟨_, rfl⟩
  obtain ⟨N, c, hi, hN, hc⟩ := isB_open b
  rw [hi]
  obtain ⟨q, hq⟩ : ∃ q : Int, q = p := ⟨_, rfl⟩
  rw [← hq]
  obtain ⟨R0, hR0⟩ : ∃ r, r = wordF b p := ⟨_, rfl⟩
  rw [← hR0] at hQ
  with_reducible refine runS hA hd hQ 100 ?hk ?_
  case hk => exact trivial
  conv => arg 8; cbv
  try simp only [OK]
  refine ⟨fun h1 => ?_, fun h1 => ?_⟩ <;> simp (disch := omega) only [hA, OK, s_le, s_inb, s_slb, s_room, s_mks, s_ne0, s_nn, s_eql, s_neq, s_lss, s_leq, s_gtr, s_geq, s_isz, s_bnot, s_beq, s_idx, s_addN, s_subN, s_mulN, s_tn, s_ofn, s_nmin, s_drp, s_tak, s_app, s_len, s_leB, s_add, s_sub, s_mul, s_wr64, s_wr8, bytesE_fold, bytesE_length, bytesE_drop, bytesE_take, bytesE_app, intsE_fold, intsE_length, decide_eq_true_eq, decide_eq_false_iff_not, Nat.mul_one, Nat.zero_add, Nat.add_zero, Bool.not_eq_true', List.length_take, List.length_drop, List.length_append, List.length_cons, List.length_nil, List.drop_zero] at h1
  · rw [wordF, if_neg (by omega)] at hR0
    with_reducible refine runK hA hd hQ 100 ?hk ?_
    case hk => exact trivial
    conv => arg 8; cbv
    try simp only [OK]
    exact ⟨_, rfl, by rw [hR0]; rfl⟩
  · rw [wordF, if_pos (by omega), take4 b p (by omega)] at hR0
    with_reducible refine runK hA hd hQ 100 ?hk ?_
    case hk => exact trivial
    conv => arg 8; cbv
    try simp only [OK]
    obtain ⟨x, x1, x2⟩ := look_at hc p (by omega)
    have e0 : q.toNat = p := by omega
    refine ⟨by simp (disch := omega) only [hA, OK, s_le, s_inb, s_slb, s_room, s_mks, s_ne0, s_nn, s_eql, s_neq, s_lss, s_leq, s_gtr, s_geq, s_isz, s_bnot, s_beq, s_idx, s_addN, s_subN, s_mulN, s_tn, s_ofn, s_nmin, s_drp, s_tak, s_app, s_len, s_leB, s_add, s_sub, s_mul, s_wr64, s_wr8, bytesE_fold, bytesE_length, bytesE_drop, bytesE_take, bytesE_app, intsE_fold, intsE_length, decide_eq_true_eq, decide_eq_false_iff_not, Nat.mul_one, Nat.zero_add, Nat.add_zero, Bool.not_eq_true', List.length_take, List.length_drop, List.length_append, List.length_cons, List.length_nil, List.drop_zero] <;> omega, [.lit (.int .u8 x)], _, rfl, by simp (disch := omega) only [hA, OK, s_le, s_inb, s_slb, s_room, s_mks, s_ne0, s_nn, s_eql, s_neq, s_lss, s_leq, s_gtr, s_geq, s_isz, s_bnot, s_beq, s_idx, s_addN, s_subN, s_mulN, s_tn, s_ofn, s_nmin, s_drp, s_tak, s_app, s_len, s_leB, s_add, s_sub, s_mul, s_wr64, s_wr8, bytesE_fold, bytesE_length, bytesE_drop, bytesE_take, bytesE_app, intsE_fold, intsE_length, decide_eq_true_eq, decide_eq_false_iff_not, Nat.mul_one, Nat.zero_add, Nat.add_zero, Bool.not_eq_true', List.length_take, List.length_drop, List.length_append, List.length_cons, List.length_nil, List.drop_zero , e0] <;> exact x1, rfl, ?_⟩
    with_reducible refine runK hA hd hQ 100 ?hk ?_
    case hk => exact trivial
    conv => arg 8; cbv
    try simp only [OK]
    obtain ⟨y, y1, y2⟩ := look_at hc (p + 1) (by omega)
    have e1 : (q + 1).toNat = p + 1 := by omega
    refine ⟨by simp (disch := omega) only [hA, OK, s_le, s_inb, s_slb, s_room, s_mks, s_ne0, s_nn, s_eql, s_neq, s_lss, s_leq, s_gtr, s_geq, s_isz, s_bnot, s_beq, s_idx, s_addN, s_subN, s_mulN, s_tn, s_ofn, s_nmin, s_drp, s_tak, s_app, s_len, s_leB, s_add, s_sub, s_mul, s_wr64, s_wr8, bytesE_fold, bytesE_length, bytesE_drop, bytesE_take, bytesE_app, intsE_fold, intsE_length, decide_eq_true_eq, decide_eq_false_iff_not, Nat.mul_one, Nat.zero_add, Nat.add_zero, Bool.not_eq_true', List.length_take, List.length_drop, List.length_append, List.length_cons, List.length_nil, List.drop_zero] <;> omega, [.lit (.int .u8 y)], _, rfl, by simp (disch := omega) only [hA, OK, s_le, s_inb, s_slb, s_room, s_mks, s_ne0, s_nn, s_eql, s_neq, s_lss, s_leq, s_gtr, s_geq, s_isz, s_bnot, s_beq, s_idx, s_addN, s_subN, s_mulN, s_tn, s_ofn, s_nmin, s_drp, s_tak, s_app, s_len, s_leB, s_add, s_sub, s_mul, s_wr64, s_wr8, bytesE_fold, bytesE_length, bytesE_drop, bytesE_take, bytesE_app, intsE_fold, intsE_length, decide_eq_true_eq, decide_eq_false_iff_not, Nat.mul_one, Nat.zero_add, Nat.add_zero, Bool.not_eq_true', List.length_take, List.length_drop, List.length_append, List.length_cons, List.length_nil, List.drop_zero , e1] <;> exact y1, rfl, ?_⟩
    with_reducible refine runK hA hd hQ 100 ?hk ?_
    case hk => exact trivial
    conv => arg 8; cbv
    try simp only [OK]
    obtain ⟨z, z1, z2⟩ := look_at hc (p + 2) (by omega)
    have e2 : (q + 2).toNat = p + 2 := by omega
    refine ⟨by simp (disch := omega) only [hA, OK, s_le, s_inb, s_slb, s_room, s_mks, s_ne0, s_nn, s_eql, s_neq, s_lss, s_leq, s_gtr, s_geq, s_isz, s_bnot, s_beq, s_idx, s_addN, s_subN, s_mulN, s_tn, s_ofn, s_nmin, s_drp, s_tak, s_app, s_len, s_leB, s_add, s_sub, s_mul, s_wr64, s_wr8, bytesE_fold, bytesE_length, bytesE_drop, bytesE_take, bytesE_app, intsE_fold, intsE_length, decide_eq_true_eq, decide_eq_false_iff_not, Nat.mul_one, Nat.zero_add, Nat.add_zero, Bool.not_eq_true', List.length_take, List.length_drop, List.length_append, List.length_cons, List.length_nil, List.drop_zero] <;> decide, by simp (disch := omega) only [hA, OK, s_le, s_inb, s_slb, s_room, s_mks, s_ne0, s_nn, s_eql, s_neq, s_lss, s_leq, s_gtr, s_geq, s_isz, s_bnot, s_beq, s_idx, s_addN, s_subN, s_mulN, s_tn, s_ofn, s_nmin, s_drp, s_tak, s_app, s_len, s_leB, s_add, s_sub, s_mul, s_wr64, s_wr8, bytesE_fold, bytesE_length, bytesE_drop, bytesE_take, bytesE_app, intsE_fold, intsE_length, decide_eq_true_eq, decide_eq_false_iff_not, Nat.mul_one, Nat.zero_add, Nat.add_zero, Bool.not_eq_true', List.length_take, List.length_drop, List.length_append, List.length_cons, List.length_nil, List.drop_zero] <;> omega, [.lit (.int .u8 z)], _, rfl, by simp (disch := omega) only [hA, OK, s_le, s_inb, s_slb, s_room, s_mks, s_ne0, s_nn, s_eql, s_neq, s_lss, s_leq, s_gtr, s_geq, s_isz, s_bnot, s_beq, s_idx, s_addN, s_subN, s_mulN, s_tn, s_ofn, s_nmin, s_drp, s_tak, s_app, s_len, s_leB, s_add, s_sub, s_mul, s_wr64, s_wr8, bytesE_fold, bytesE_length, bytesE_drop, bytesE_take, bytesE_app, intsE_fold, intsE_length, decide_eq_true_eq, decide_eq_false_iff_not, Nat.mul_one, Nat.zero_add, Nat.add_zero, Bool.not_eq_true', List.length_take, List.length_drop, List.length_append, List.length_cons, List.length_nil, List.drop_zero , e2] <;> exact z1, rfl, ?_⟩
    with_reducible refine runK hA hd hQ 100 ?hk ?_
    case hk => exact trivial
    conv => arg 8; cbv
    try simp only [OK]
    obtain ⟨u, u1, u2⟩ := look_at hc (p + 3) (by omega)
    have e3 : (q + 3).toNat = p + 3 := by omega
    refine ⟨by simp (disch := omega) only [hA, OK, s_le, s_inb, s_slb, s_room, s_mks, s_ne0, s_nn, s_eql, s_neq, s_lss, s_leq, s_gtr, s_geq, s_isz, s_bnot, s_beq, s_idx, s_addN, s_subN, s_mulN, s_tn, s_ofn, s_nmin, s_drp, s_tak, s_app, s_len, s_leB, s_add, s_sub, s_mul, s_wr64, s_wr8, bytesE_fold, bytesE_length, bytesE_drop, bytesE_take, bytesE_app, intsE_fold, intsE_length, decide_eq_true_eq, decide_eq_false_iff_not, Nat.mul_one, Nat.zero_add, Nat.add_zero, Bool.not_eq_true', List.length_take, List.length_drop, List.length_append, List.length_cons, List.length_nil, List.drop_zero] <;> decide, by simp (disch := omega) only [hA, OK, s_le, s_inb, s_slb, s_room, s_mks, s_ne0, s_nn, s_eql, s_neq, s_lss, s_leq, s_gtr, s_geq, s_isz, s_bnot, s_beq, s_idx, s_addN, s_subN, s_mulN, s_tn, s_ofn, s_nmin, s_drp, s_tak, s_app, s_len, s_leB, s_add, s_sub, s_mul, s_wr64, s_wr8, bytesE_fold, bytesE_length, bytesE_drop, bytesE_take, bytesE_app, intsE_fold, intsE_length, decide_eq_true_eq, decide_eq_false_iff_not, Nat.mul_one, Nat.zero_add, Nat.add_zero, Bool.not_eq_true', List.length_take, List.length_drop, List.length_append, List.length_cons, List.length_nil, List.drop_zero] <;> omega, [.lit (.int .u8 u)], _, rfl, by simp (disch := omega) only [hA, OK, s_le, s_inb, s_slb, s_room, s_mks, s_ne0, s_nn, s_eql, s_neq, s_lss, s_leq, s_gtr, s_geq, s_isz, s_bnot, s_beq, s_idx, s_addN, s_subN, s_mulN, s_tn, s_ofn, s_nmin, s_drp, s_tak, s_app, s_len, s_leB, s_add, s_sub, s_mul, s_wr64, s_wr8, bytesE_fold, bytesE_length, bytesE_drop, bytesE_take, bytesE_app, intsE_fold, intsE_length, decide_eq_true_eq, decide_eq_false_iff_not, Nat.mul_one, Nat.zero_add, Nat.add_zero, Bool.not_eq_true', List.length_take, List.length_drop, List.length_append, List.length_cons, List.length_nil, List.drop_zero , e3] <;> exact u1, rfl, ?_⟩
    with_reducible refine runK hA hd hQ 100 ?hk ?_
    case hk => exact trivial
    conv => arg 8; cbv
    try simp only [OK]
    refine ⟨by simp (disch := omega) only [hA, OK, s_le, s_inb, s_slb, s_room, s_mks, s_ne0, s_nn, s_eql, s_neq, s_lss, s_leq, s_gtr, s_geq, s_isz, s_bnot, s_beq, s_idx, s_addN, s_subN, s_mulN, s_tn, s_ofn, s_nmin, s_drp, s_tak, s_app, s_len, s_leB, s_add, s_sub, s_mul, s_wr64, s_wr8, bytesE_fold, bytesE_length, bytesE_drop, bytesE_take, bytesE_app, intsE_fold, intsE_length, decide_eq_true_eq, decide_eq_false_iff_not, Nat.mul_one, Nat.zero_add, Nat.add_zero, Bool.not_eq_true', List.length_take, List.length_drop, List.length_append, List.length_cons, List.length_nil, List.drop_zero] <;> decide, _, rfl, ?_⟩
    have b0 := hb.get p
    have b1 := hb.get (p + 1)
    have b2 := hb.get (p + 2)
    have b3 := hb.get (p + 3)
    have hw := s_word _ _ _ _ b0 b1 b2 b3
    rw [← x2, ← y2, ← z2, ← u2] at hw
    simp only [getT]
    simp (disch := omega) only [hA, OK, s_le, s_inb, s_slb, s_room, s_mks, s_ne0, s_nn, s_eql, s_neq, s_lss, s_leq, s_gtr, s_geq, s_isz, s_bnot, s_beq, s_idx, s_addN, s_subN, s_mulN, s_tn, s_ofn, s_nmin, s_drp, s_tak, s_app, s_len, s_leB, s_add, s_sub, s_mul, s_wr64, s_wr8, bytesE_fold, bytesE_length, bytesE_drop, bytesE_take, bytesE_app, intsE_fold, intsE_length, decide_eq_true_eq, decide_eq_false_iff_not, Nat.mul_one, Nat.zero_add, Nat.add_zero, Bool.not_eq_true', List.length_take, List.length_drop, List.length_append, List.length_cons, List.length_nil, List.drop_zero]
    rw [hR0]; exact congrArg (fun z => EV.lit (.int .i64 z)) hw

end Go.Proofs.Ytplibngmgebigaa.Press
