/- Pr22: the places that are met again, the document's answer. No conditions beyond those written. -/
import Derived.Test.YtplibngmgebigaaPr21
set_option linter.unusedVariables false
set_option linter.unusedSimpArgs false
namespace Go.Proofs.Ytplibngmgebigaa.Press
open Go Go.Proofs.Ytplibngmgebigaa Go.Proofs.Ytplibngmgebigaa.Em

/-- the latest place below j whose four bytes have a remainder -/
def lastC (b : List Nat) (r : Nat) : Nat → Int
  | 0 => -1
  | j + 1 => if j + 4 ≤ b.length ∧ wordN ((b.drop j).take 4) % 4093 = r then (j : Int) else lastC b r j

theorem lastC_ok (b : List Nat) (r : Nat) : ∀ j, lastC b r j = -1 ∨ (0 ≤ lastC b r j ∧ lastC b r j < j ∧ (lastC b r j).toNat + 4 ≤ b.length ∧ wordN ((b.drop (lastC b r j).toNat).take 4) % 4093 = r)
  | 0 => .inl rfl
  | j + 1 => by
    simp only [lastC]
    split
    · rename_i hc; right; refine ⟨by omega, by omega, ?_⟩; rw [Int.toNat_natCast]; exact hc
    · rcases lastC_ok b r j with h | ⟨h1, h2, h3⟩
      · left; exact h
      · right; exact ⟨h1, by omega, h3⟩

theorem lastW_lastC (b w : List Nat) : ∀ j, lastW b w j = lastW b w (lastC b (wordN w % 4093) j + 1).toNat
  | 0 => rfl
  | j + 1 => by
    simp only [lastC]
    split
    · rw [show ((j : Int) + 1).toNat = j + 1 by omega]
    · rename_i hc
      rw [lastW, if_neg (fun h => hc ⟨h.1, by rw [h.2]⟩)]
      exact lastW_lastC b w j

theorem s_rem (a b : Nat) : stdA.ib .rem .i64 (a : Int) (b : Int) = ((a % b : Nat) : Int) := by
  show Int.tmod (a : Int) (b : Int) = _
  rw [Int.tmod_eq_emod_of_nonneg (by omega)]; exact (Int.natCast_emod a b).symm

theorem rep_intsA (n : Nat) : stdA.rep [EV.lit (.int .i64 0)] n = intsE (List.replicate n 0) := by rw [s_rep]; exact rep_ints n
theorem setA_ints (l : List Int) (i v : Int) (h : i.toNat < l.length) : stdA.setl (intsE l) (stdA.idx 0 i 1) [.lit (.int .i64 v)] = intsE (l.set i.toNat v) := by
  rw [s_idx, show 0 + i.toNat * 1 = i.toNat by omega]; exact setl_ints _ _ _ h

set_option maxHeartbeats 4000000 in
theorem metAt_pre (b : List Nat) (hb : AllB b) (hl : b.length ≤ 65536) (N : Nat) (c : List EV) (hN : N = b.length) (hc : c = bytesE b) :
    Tri Try.prog [] 30 [.isl N none c] [] fun v h => v = .sl 1 2 0 N (some N) ∧ getH h 2 = .blk (intsE (lastL b)) := by
  refine Tri_of F30_ok fun I0 ρ0 w0 Q hρ hQ => ?_
  obtain ⟨A, hA⟩ : ∃ A, A = stdA := ⟨_, rfl⟩
  obtain ⟨nz, hnz⟩ : ∃ nz : Nat, nz = A.tn (A.ofn N) := ⟨_, rfl⟩
  have hnN : nz = N := by rw [hnz, hA]; rfl
  with_reducible refine runS hA hd hQ 200 ?hk ?_
  case hk => exact trivial
  conv => arg 8; cbv
  try simp only [OK]
  refine ⟨by simp (disch := omega) only [hA, OK, s_le, s_inb, s_slb, s_room, s_mks, s_ne0, s_nn, s_eql, s_neq, s_lss, s_leq, s_gtr, s_geq, s_isz, s_bnot, s_beq, s_idx, s_addN, s_subN, s_mulN, s_tn, s_ofn, s_nmin, s_drp, s_tak, s_app, s_len, s_leB, s_add, s_sub, s_mul, s_wr64, s_wr8, bytesE_fold, bytesE_length, bytesE_drop, bytesE_take, bytesE_app, intsE_fold, intsE_length, decide_eq_true_eq, decide_eq_false_iff_not, Nat.mul_one, Nat.zero_add, Nat.add_zero, Bool.not_eq_true', List.length_take, List.length_drop, List.length_append, List.length_cons, List.length_nil, List.drop_zero]; omega, ?_⟩
  refine OKs.mask (msk 74 [0, 3, 13, 14]) ?_
  refine OKs.loop (fun s => ∃ (i : Int) (lc : List EV) (l : List Int), s = ⟨mkT 74 [(0, .isl N none c), (3, .sl 1 0 0 (A.tn 4093) (some (A.tn 4093))), (13, .lit (.int .i64 (A.ofn (A.tn 4093)))), (14, .lit (.int .i64 i))], [.blk lc]⟩ ∧
      lc = intsE l ∧ l.length = 4093 ∧ 0 ≤ i ∧ i ≤ 4093 ∧ (∀ j : Nat, (j : Int) < i → l.getD j 0 = -1)) (fun s => (4093 - intN (getT s.t 14)).toNat) (fun s hs ih => ?_)
    ⟨0, _, List.replicate (A.tn 4093) 0, rfl, by rw [hA]; exact rep_intsA (stdA.tn 4093), by rw [List.length_replicate, hA, s_tn]; rfl, by omega, by omega, fun j hj => by omega⟩
  obtain ⟨i, lc, l, rfl, hlc, hll, hi0, hi1, hlj⟩ := hs
  with_reducible refine runS hA hd hQ 200 ?hk ?_
  case hk => exact trivial
  conv => arg 8; cbv
  try simp only [OK]
  refine ⟨fun h1 => ?_, fun h1 => ?_⟩ <;> simp (disch := omega) only [hA, OK, s_le, s_inb, s_slb, s_room, s_mks, s_ne0, s_nn, s_eql, s_neq, s_lss, s_leq, s_gtr, s_geq, s_isz, s_bnot, s_beq, s_idx, s_addN, s_subN, s_mulN, s_tn, s_ofn, s_nmin, s_drp, s_tak, s_app, s_len, s_leB, s_add, s_sub, s_mul, s_wr64, s_wr8, bytesE_fold, bytesE_length, bytesE_drop, bytesE_take, bytesE_app, intsE_fold, intsE_length, decide_eq_true_eq, decide_eq_false_iff_not, Nat.mul_one, Nat.zero_add, Nat.add_zero, Bool.not_eq_true', List.length_take, List.length_drop, List.length_append, List.length_cons, List.length_nil, List.drop_zero] at h1
  · with_reducible refine runK hA hd hQ 200 ?hk ?_
    case hk => exact trivial
    conv => arg 8; cbv
    try simp only [OK]
    refine ⟨by simp (disch := omega) only [hA, OK, s_le, s_inb, s_slb, s_room, s_mks, s_ne0, s_nn, s_eql, s_neq, s_lss, s_leq, s_gtr, s_geq, s_isz, s_bnot, s_beq, s_idx, s_addN, s_subN, s_mulN, s_tn, s_ofn, s_nmin, s_drp, s_tak, s_app, s_len, s_leB, s_add, s_sub, s_mul, s_wr64, s_wr8, bytesE_fold, bytesE_length, bytesE_drop, bytesE_take, bytesE_app, intsE_fold, intsE_length, decide_eq_true_eq, decide_eq_false_iff_not, Nat.mul_one, Nat.zero_add, Nat.add_zero, Bool.not_eq_true', List.length_take, List.length_drop, List.length_append, List.length_cons, List.length_nil, List.drop_zero] <;> omega, by simp (disch := omega) only [hA, OK, s_le, s_inb, s_slb, s_room, s_mks, s_ne0, s_nn, s_eql, s_neq, s_lss, s_leq, s_gtr, s_geq, s_isz, s_bnot, s_beq, s_idx, s_addN, s_subN, s_mulN, s_tn, s_ofn, s_nmin, s_drp, s_tak, s_app, s_len, s_leB, s_add, s_sub, s_mul, s_wr64, s_wr8, bytesE_fold, bytesE_length, bytesE_drop, bytesE_take, bytesE_app, intsE_fold, intsE_length, decide_eq_true_eq, decide_eq_false_iff_not, Nat.mul_one, Nat.zero_add, Nat.add_zero, Bool.not_eq_true', List.length_take, List.length_drop, List.length_append, List.length_cons, List.length_nil, List.drop_zero , hlc] <;> omega, ?_⟩
    refine OKs.mask (msk 74 [0, 3, 13, 14]) ?_
    refine ih _ ⟨_, _, l.set i.toNat (-1), rfl, ?_, by simpa using hll, ?_, ?_, fun j hj => ?_⟩ (show (4093 - A.ib .add .i64 i 1).toNat < (4093 - i).toNat from ?_)
    · rw [hA, hlc]; exact setA_ints _ _ _ (by omega)
    · simp (disch := omega) only [hA, OK, s_le, s_inb, s_slb, s_room, s_mks, s_ne0, s_nn, s_eql, s_neq, s_lss, s_leq, s_gtr, s_geq, s_isz, s_bnot, s_beq, s_idx, s_addN, s_subN, s_mulN, s_tn, s_ofn, s_nmin, s_drp, s_tak, s_app, s_len, s_leB, s_add, s_sub, s_mul, s_wr64, s_wr8, bytesE_fold, bytesE_length, bytesE_drop, bytesE_take, bytesE_app, intsE_fold, intsE_length, decide_eq_true_eq, decide_eq_false_iff_not, Nat.mul_one, Nat.zero_add, Nat.add_zero, Bool.not_eq_true', List.length_take, List.length_drop, List.length_append, List.length_cons, List.length_nil, List.drop_zero]; omega
    · simp (disch := omega) only [hA, OK, s_le, s_inb, s_slb, s_room, s_mks, s_ne0, s_nn, s_eql, s_neq, s_lss, s_leq, s_gtr, s_geq, s_isz, s_bnot, s_beq, s_idx, s_addN, s_subN, s_mulN, s_tn, s_ofn, s_nmin, s_drp, s_tak, s_app, s_len, s_leB, s_add, s_sub, s_mul, s_wr64, s_wr8, bytesE_fold, bytesE_length, bytesE_drop, bytesE_take, bytesE_app, intsE_fold, intsE_length, decide_eq_true_eq, decide_eq_false_iff_not, Nat.mul_one, Nat.zero_add, Nat.add_zero, Bool.not_eq_true', List.length_take, List.length_drop, List.length_append, List.length_cons, List.length_nil, List.drop_zero]; omega
    · have hj' : (j : Int) < i + 1 := by simpa (disch := omega) only [hA, s_add] using hj
      rw [getD_set _ _ _ _ (by omega)]
      split
      · rfl
      · exact hlj j (by omega)
    · simp (disch := omega) only [hA, OK, s_le, s_inb, s_slb, s_room, s_mks, s_ne0, s_nn, s_eql, s_neq, s_lss, s_leq, s_gtr, s_geq, s_isz, s_bnot, s_beq, s_idx, s_addN, s_subN, s_mulN, s_tn, s_ofn, s_nmin, s_drp, s_tak, s_app, s_len, s_leB, s_add, s_sub, s_mul, s_wr64, s_wr8, bytesE_fold, bytesE_length, bytesE_drop, bytesE_take, bytesE_app, intsE_fold, intsE_length, decide_eq_true_eq, decide_eq_false_iff_not, Nat.mul_one, Nat.zero_add, Nat.add_zero, Bool.not_eq_true', List.length_take, List.length_drop, List.length_append, List.length_cons, List.length_nil, List.drop_zero]; omega
  · have hi2 : i = 4093 := by omega
    subst hi2
    clear ih
    with_reducible refine runK hA hd hQ 200 ?hk ?_
    case hk => exact trivial
    conv => arg 8; cbv
    try simp only [OK]
    refine ⟨by simp (disch := omega) only [hA, OK, s_le, s_inb, s_slb, s_room, s_mks, s_ne0, s_nn, s_eql, s_neq, s_lss, s_leq, s_gtr, s_geq, s_isz, s_bnot, s_beq, s_idx, s_addN, s_subN, s_mulN, s_tn, s_ofn, s_nmin, s_drp, s_tak, s_app, s_len, s_leB, s_add, s_sub, s_mul, s_wr64, s_wr8, bytesE_fold, bytesE_length, bytesE_drop, bytesE_take, bytesE_app, intsE_fold, intsE_length, decide_eq_true_eq, decide_eq_false_iff_not, Nat.mul_one, Nat.zero_add, Nat.add_zero, Bool.not_eq_true', List.length_take, List.length_drop, List.length_append, List.length_cons, List.length_nil, List.drop_zero]; omega, by simp (disch := omega) only [hA, OK, s_le, s_inb, s_slb, s_room, s_mks, s_ne0, s_nn, s_eql, s_neq, s_lss, s_leq, s_gtr, s_geq, s_isz, s_bnot, s_beq, s_idx, s_addN, s_subN, s_mulN, s_tn, s_ofn, s_nmin, s_drp, s_tak, s_app, s_len, s_leB, s_add, s_sub, s_mul, s_wr64, s_wr8, bytesE_fold, bytesE_length, bytesE_drop, bytesE_take, bytesE_app, intsE_fold, intsE_length, decide_eq_true_eq, decide_eq_false_iff_not, Nat.mul_one, Nat.zero_add, Nat.add_zero, Bool.not_eq_true', List.length_take, List.length_drop, List.length_append, List.length_cons, List.length_nil, List.drop_zero]; omega, ?_⟩
    refine OKs.mask (msk 74 [0, 3, 5, 6, 28, 29]) ?_
    refine OKs.loop (fun s => ∃ (i : Int) (lc : List EV) (l : List Int) (bc : List EV) (bl : List Int) (mc : List EV) (ml : List Int), s = ⟨mkT 74 [(0, .isl N none c), (3, .sl 1 0 0 (A.tn 4093) (some (A.tn 4093))), (5, .sl 1 1 0 (A.tn (A.ofn N)) (some (A.tn (A.ofn N)))), (6, .sl 1 2 0 (A.tn (A.ofn N)) (some (A.tn (A.ofn N)))), (28, .lit (.int .i64 (A.ofn N))), (29, .lit (.int .i64 i))], [.blk lc, .blk bc, .blk mc]⟩ ∧
        0 ≤ i ∧ i ≤ N ∧ lc = intsE l ∧ l.length = 4093 ∧ (∀ r : Nat, r < 4093 → l.getD r 0 = lastC b r i.toNat) ∧ bc = intsE bl ∧ bl.length = N ∧ (∀ j : Nat, (j : Int) < i → j + 4 ≤ b.length → bl.getD j 0 = lastC b (wordN ((b.drop j).take 4) % 4093) j) ∧
        mc = intsE ml ∧ ml.length = N ∧ (∀ j : Nat, (j : Int) < i → ml.getD j 0 = lastA b j)) (fun s => (N - intN (getT s.t 29)).toNat) (fun s hs ih => ?_)
      ⟨0, _, l, _, List.replicate (A.tn (A.ofn N)) 0, _, List.replicate (A.tn (A.ofn N)) 0, rfl, by omega, by omega, hlc, hll, fun r hr => hlj r (by omega), by rw [hA]; exact rep_intsA (stdA.tn (stdA.ofn N)), by simp [hA, s_tn, s_ofn], fun j hj => by omega, by rw [hA]; exact rep_intsA (stdA.tn (stdA.ofn N)), by simp [hA, s_tn, s_ofn], fun j hj => by omega⟩
    clear hlj hll hlc
    clear lc l
    obtain ⟨i, lc, l, bc, bl, mc, ml, rfl, hi0, hi1, hlc, hll, hlj, hbc, hbl, hbj, hmc, hml, hmj⟩ := hs
    with_reducible refine runS hA hd hQ 200 ?hk ?_
    case hk => exact trivial
    conv => arg 8; cbv
    try simp only [OK]
    refine ⟨fun h1 => ?_, fun h1 => ?_⟩ <;> simp (disch := omega) only [hA, OK, s_le, s_inb, s_slb, s_room, s_mks, s_ne0, s_nn, s_eql, s_neq, s_lss, s_leq, s_gtr, s_geq, s_isz, s_bnot, s_beq, s_idx, s_addN, s_subN, s_mulN, s_tn, s_ofn, s_nmin, s_drp, s_tak, s_app, s_len, s_leB, s_add, s_sub, s_mul, s_wr64, s_wr8, bytesE_fold, bytesE_length, bytesE_drop, bytesE_take, bytesE_app, intsE_fold, intsE_length, decide_eq_true_eq, decide_eq_false_iff_not, Nat.mul_one, Nat.zero_add, Nat.add_zero, Bool.not_eq_true', List.length_take, List.length_drop, List.length_append, List.length_cons, List.length_nil, List.drop_zero] at h1
    · with_reducible refine runK hA hd hQ 200 ?hk ?_
      case hk => exact trivial
      conv => arg 8; cbv
      try simp only [OK]
      have zi : (i + 1).toNat = i.toNat + 1 := by omega
      have z1 : A.inb i (A.tn (A.ofn N)) = true := by simp (disch := omega) only [hA, OK, s_le, s_inb, s_slb, s_room, s_mks, s_ne0, s_nn, s_eql, s_neq, s_lss, s_leq, s_gtr, s_geq, s_isz, s_bnot, s_beq, s_idx, s_addN, s_subN, s_mulN, s_tn, s_ofn, s_nmin, s_drp, s_tak, s_app, s_len, s_leB, s_add, s_sub, s_mul, s_wr64, s_wr8, bytesE_fold, bytesE_length, bytesE_drop, bytesE_take, bytesE_app, intsE_fold, intsE_length, decide_eq_true_eq, decide_eq_false_iff_not, Nat.mul_one, Nat.zero_add, Nat.add_zero, Bool.not_eq_true', List.length_take, List.length_drop, List.length_append, List.length_cons, List.length_nil, List.drop_zero]; omega
      have z2 : A.le (A.add (A.idx 0 i 1) 1) (A.len mc) = true := by simp (disch := omega) only [hA, OK, s_le, s_inb, s_slb, s_room, s_mks, s_ne0, s_nn, s_eql, s_neq, s_lss, s_leq, s_gtr, s_geq, s_isz, s_bnot, s_beq, s_idx, s_addN, s_subN, s_mulN, s_tn, s_ofn, s_nmin, s_drp, s_tak, s_app, s_len, s_leB, s_add, s_sub, s_mul, s_wr64, s_wr8, bytesE_fold, bytesE_length, bytesE_drop, bytesE_take, bytesE_app, intsE_fold, intsE_length, decide_eq_true_eq, decide_eq_false_iff_not, Nat.mul_one, Nat.zero_add, Nat.add_zero, Bool.not_eq_true', List.length_take, List.length_drop, List.length_append, List.length_cons, List.length_nil, List.drop_zero , hmc]; omega
      have hs1 : A.setl mc (A.idx 0 i 1) [.lit (.int .i64 (-1))] = intsE (ml.set i.toNat (-1)) := by
        rw [hA, hmc]; exact setA_ints _ _ _ (by omega)
      have t := word_ref b hb hl i.toNat (by omega)
      rw [isB, ← hN, ← hc, show ((i.toNat : Nat) : Int) = i by omega] at t
      obtain ⟨wz, hwz⟩ : ∃ wz, wz = wordF b i.toNat := ⟨_, rfl⟩
      rw [← hwz] at t
      refine ⟨z1, z2, goodF_of F31_ok, (Tri.clean rfl rfl t _).mono fun v h' hx => ?_⟩
      obtain ⟨hv, hh⟩ := hx
      subst hv; subst hh
      with_reducible refine runK hA hd hQ 200 ?hk ?_
      case hk => exact trivial
      conv => arg 8; cbv
      try simp only [OK]
      refine ⟨fun h2 => ?_, fun h2 => ?_⟩ <;> simp (disch := omega) only [hA, OK, s_le, s_inb, s_slb, s_room, s_mks, s_ne0, s_nn, s_eql, s_neq, s_lss, s_leq, s_gtr, s_geq, s_isz, s_bnot, s_beq, s_idx, s_addN, s_subN, s_mulN, s_tn, s_ofn, s_nmin, s_drp, s_tak, s_app, s_len, s_leB, s_add, s_sub, s_mul, s_wr64, s_wr8, bytesE_fold, bytesE_length, bytesE_drop, bytesE_take, bytesE_app, intsE_fold, intsE_length, decide_eq_true_eq, decide_eq_false_iff_not, Nat.mul_one, Nat.zero_add, Nat.add_zero, Bool.not_eq_true', List.length_take, List.length_drop, List.length_append, List.length_cons, List.length_nil, List.drop_zero] at h2
      · -- too near the end
        have hnr : ¬ i.toNat + 4 ≤ b.length := fun h => by rw [wordF, if_pos h] at hwz; omega
        with_reducible refine runK hA hd hQ 200 ?hk ?_
        case hk => exact trivial
        conv => arg 8; cbv
        try simp only [OK]
        refine OKs.mask (msk 74 [0, 3, 5, 6, 28, 29]) ?_
        refine ih _ ⟨_, _, l, _, bl, _, ml.set i.toNat (-1), rfl, ?_, ?_, hlc, hll, fun r hr => ?_, hbc, hbl, fun j hj hj4 => ?_, hs1, by simpa using hml, fun j hj => ?_⟩ (show (N - A.ib .add .i64 i 1).toNat < (N - i).toNat from ?_)
        · simp (disch := omega) only [hA, OK, s_le, s_inb, s_slb, s_room, s_mks, s_ne0, s_nn, s_eql, s_neq, s_lss, s_leq, s_gtr, s_geq, s_isz, s_bnot, s_beq, s_idx, s_addN, s_subN, s_mulN, s_tn, s_ofn, s_nmin, s_drp, s_tak, s_app, s_len, s_leB, s_add, s_sub, s_mul, s_wr64, s_wr8, bytesE_fold, bytesE_length, bytesE_drop, bytesE_take, bytesE_app, intsE_fold, intsE_length, decide_eq_true_eq, decide_eq_false_iff_not, Nat.mul_one, Nat.zero_add, Nat.add_zero, Bool.not_eq_true', List.length_take, List.length_drop, List.length_append, List.length_cons, List.length_nil, List.drop_zero]; omega
        · simp (disch := omega) only [hA, OK, s_le, s_inb, s_slb, s_room, s_mks, s_ne0, s_nn, s_eql, s_neq, s_lss, s_leq, s_gtr, s_geq, s_isz, s_bnot, s_beq, s_idx, s_addN, s_subN, s_mulN, s_tn, s_ofn, s_nmin, s_drp, s_tak, s_app, s_len, s_leB, s_add, s_sub, s_mul, s_wr64, s_wr8, bytesE_fold, bytesE_length, bytesE_drop, bytesE_take, bytesE_app, intsE_fold, intsE_length, decide_eq_true_eq, decide_eq_false_iff_not, Nat.mul_one, Nat.zero_add, Nat.add_zero, Bool.not_eq_true', List.length_take, List.length_drop, List.length_append, List.length_cons, List.length_nil, List.drop_zero]; omega
        · rw [hlj r hr]; simp (disch := omega) only [hA, s_add]; rw [zi, lastC, if_neg (fun h => hnr h.1)]
        · have hj' : (j : Int) < i + 1 := by simpa (disch := omega) only [hA, s_add] using hj
          exact hbj j (by omega) hj4
        · have hj' : (j : Int) < i + 1 := by simpa (disch := omega) only [hA, s_add] using hj
          rw [getD_set _ _ _ _ (by omega)]
          split
          · rename_i hji; rw [hji, lastA, if_neg hnr]
          · exact hmj j (by omega)
        · simp (disch := omega) only [hA, OK, s_le, s_inb, s_slb, s_room, s_mks, s_ne0, s_nn, s_eql, s_neq, s_lss, s_leq, s_gtr, s_geq, s_isz, s_bnot, s_beq, s_idx, s_addN, s_subN, s_mulN, s_tn, s_ofn, s_nmin, s_drp, s_tak, s_app, s_len, s_leB, s_add, s_sub, s_mul, s_wr64, s_wr8, bytesE_fold, bytesE_length, bytesE_drop, bytesE_take, bytesE_app, intsE_fold, intsE_length, decide_eq_true_eq, decide_eq_false_iff_not, Nat.mul_one, Nat.zero_add, Nat.add_zero, Bool.not_eq_true', List.length_take, List.length_drop, List.length_append, List.length_cons, List.length_nil, List.drop_zero]; omega
      · have hnr : i.toNat + 4 ≤ b.length := by
          apply Classical.byContradiction; intro h; rw [wordF, if_neg h] at hwz; omega
        obtain ⟨w0, hw0⟩ : ∃ w0, w0 = (b.drop i.toNat).take 4 := ⟨_, rfl⟩
        have hw4 : w0.length = 4 := by rw [hw0, List.length_take, List.length_drop]; omega
        have hwb : AllB w0 := by rw [hw0]; exact (hb.drop _).take _
        rw [wordF, if_pos hnr, ← hw0] at hwz
        have hla : lastA b i.toNat = match lastW b w0 i.toNat with
            | some j => (j : Int)
            | none => -1 := by rw [lastA, if_pos hnr, ← hw0]; rfl
        obtain ⟨r0, hr0⟩ : ∃ r0, r0 = wordN w0 % 4093 := ⟨_, rfl⟩
        have hr1 : r0 < 4093 := by omega
        with_reducible refine runK hA hd hQ 200 ?hk ?_
        case hk => exact trivial
        conv => arg 8; cbv
        try simp only [OK]
        have hrz : stdA.ib .rem .i64 wz 4093 = (r0 : Int) := by rw [hwz, hr0]; exact s_rem (wordN w0) 4093
        have zr : ((r0 : Int)).toNat = r0 := by omega
        obtain ⟨p0, p1, p2⟩ := look_atI hlc r0 (by omega)
        rw [hlj r0 hr1] at p2
        refine ⟨by simp (disch := omega) only [hA, OK, s_le, s_inb, s_slb, s_room, s_mks, s_ne0, s_nn, s_eql, s_neq, s_lss, s_leq, s_gtr, s_geq, s_isz, s_bnot, s_beq, s_idx, s_addN, s_subN, s_mulN, s_tn, s_ofn, s_nmin, s_drp, s_tak, s_app, s_len, s_leB, s_add, s_sub, s_mul, s_wr64, s_wr8, bytesE_fold, bytesE_length, bytesE_drop, bytesE_take, bytesE_app, intsE_fold, intsE_length, decide_eq_true_eq, decide_eq_false_iff_not, Nat.mul_one, Nat.zero_add, Nat.add_zero, Bool.not_eq_true', List.length_take, List.length_drop, List.length_append, List.length_cons, List.length_nil, List.drop_zero] <;> decide, by simp (disch := omega) only [hA, OK, s_le, s_inb, s_slb, s_room, s_mks, s_ne0, s_nn, s_eql, s_neq, s_lss, s_leq, s_gtr, s_geq, s_isz, s_bnot, s_beq, s_idx, s_addN, s_subN, s_mulN, s_tn, s_ofn, s_nmin, s_drp, s_tak, s_app, s_len, s_leB, s_add, s_sub, s_mul, s_wr64, s_wr8, bytesE_fold, bytesE_length, bytesE_drop, bytesE_take, bytesE_app, intsE_fold, intsE_length, decide_eq_true_eq, decide_eq_false_iff_not, Nat.mul_one, Nat.zero_add, Nat.add_zero, Bool.not_eq_true', List.length_take, List.length_drop, List.length_append, List.length_cons, List.length_nil, List.drop_zero , hrz] <;> omega, [.lit (.int .i64 p0)], _, rfl, by simp (disch := omega) only [hA, OK, s_le, s_inb, s_slb, s_room, s_mks, s_ne0, s_nn, s_eql, s_neq, s_lss, s_leq, s_gtr, s_geq, s_isz, s_bnot, s_beq, s_idx, s_addN, s_subN, s_mulN, s_tn, s_ofn, s_nmin, s_drp, s_tak, s_app, s_len, s_leB, s_add, s_sub, s_mul, s_wr64, s_wr8, bytesE_fold, bytesE_length, bytesE_drop, bytesE_take, bytesE_app, intsE_fold, intsE_length, decide_eq_true_eq, decide_eq_false_iff_not, Nat.mul_one, Nat.zero_add, Nat.add_zero, Bool.not_eq_true', List.length_take, List.length_drop, List.length_append, List.length_cons, List.length_nil, List.drop_zero , hrz, zr] <;> exact p1, rfl, ?_⟩
        with_reducible refine runK hA hd hQ 200 ?hk ?_
        case hk => exact trivial
        conv => arg 8; cbv
        try simp only [OK]
        refine OKs.mask (msk 74 [0, 3, 5, 6, 7, 8, 9, 10, 28, 29]) ?_
        refine OKs.loop (fun s => ∃ (p : Int), s = ⟨mkT 74 [(0, .isl N none c), (3, .sl 1 0 0 (A.tn 4093) (some (A.tn 4093))), (5, .sl 1 1 0 (A.tn (A.ofn N)) (some (A.tn (A.ofn N)))), (6, .sl 1 2 0 (A.tn (A.ofn N)) (some (A.tn (A.ofn N)))), (7, .lit (.int .i64 i)), (8, .lit (.int .i64 wz)), (9, .lit (.int .i64 (A.ib .rem .i64 wz 4093))), (10, .lit (.int .i64 p)), (28, .lit (.int .i64 (A.ofn N))), (29, .lit (.int .i64 i))], [.blk lc, .blk bc, .blk (A.setl mc (A.idx 0 i 1) [.lit (.int .i64 (-1))])]⟩ ∧
            (p = -1 ∨ (0 ≤ p ∧ p < i ∧ p.toNat + 4 ≤ b.length ∧ wordN ((b.drop p.toNat).take 4) % 4093 = r0)) ∧ lastW b w0 i.toNat = lastW b w0 (p + 1).toNat) (fun s => (intN (getT s.t 10) + 1).toNat) (fun s hs ih2 => ?_)
          ⟨p0, rfl, ?_, ?_⟩
        · obtain ⟨p, rfl, hp, hlw⟩ := hs
          with_reducible refine runS hA hd hQ 200 ?hk ?_
          case hk => exact trivial
          conv => arg 8; cbv
          try simp only [OK]
          refine ⟨fun h3 => ?_, fun h3 => ?_⟩ <;> simp (disch := omega) only [hA, OK, s_le, s_inb, s_slb, s_room, s_mks, s_ne0, s_nn, s_eql, s_neq, s_lss, s_leq, s_gtr, s_geq, s_isz, s_bnot, s_beq, s_idx, s_addN, s_subN, s_mulN, s_tn, s_ofn, s_nmin, s_drp, s_tak, s_app, s_len, s_leB, s_add, s_sub, s_mul, s_wr64, s_wr8, bytesE_fold, bytesE_length, bytesE_drop, bytesE_take, bytesE_app, intsE_fold, intsE_length, decide_eq_true_eq, decide_eq_false_iff_not, Nat.mul_one, Nat.zero_add, Nat.add_zero, Bool.not_eq_true', List.length_take, List.length_drop, List.length_append, List.length_cons, List.length_nil, List.drop_zero] at h3
          · obtain ⟨q1, q2, q3, q4⟩ : 0 ≤ p ∧ p < i ∧ p.toNat + 4 ≤ b.length ∧ wordN ((b.drop p.toNat).take 4) % 4093 = r0 := by
              rcases hp with hp | hp
              · omega
              · exact hp
            have t2 := word_ref b hb hl p.toNat (by omega)
            rw [isB, ← hN, ← hc, show ((p.toNat : Nat) : Int) = p by omega] at t2
            obtain ⟨uz, huz⟩ : ∃ wz, wz = wordF b p.toNat := ⟨_, rfl⟩
            rw [← huz] at t2
            rw [wordF, if_pos q3] at huz
            obtain ⟨w1, hw1⟩ : ∃ w1, w1 = (b.drop p.toNat).take 4 := ⟨_, rfl⟩
            have hw14 : w1.length = 4 := by rw [hw1, List.length_take, List.length_drop]; omega
            have hw1b : AllB w1 := by rw [hw1]; exact (hb.drop _).take _
            rw [← hw1] at huz q4
            rw [show (p + 1).toNat = p.toNat + 1 by omega, lastW] at hlw
            with_reducible refine runK hA hd hQ 200 ?hk ?_
            case hk => exact trivial
            conv => arg 8; cbv
            try simp only [OK]
            refine ⟨goodF_of F31_ok, (Tri.clean rfl rfl t2 _).mono fun v h' hx => ?_⟩
            obtain ⟨hv, hh⟩ := hx
            subst hv; subst hh
            with_reducible refine runK hA hd hQ 200 ?hk ?_
            case hk => exact trivial
            conv => arg 8; cbv
            try simp only [OK]
            refine ⟨fun h4 => ?_, fun h4 => ?_⟩ <;> simp (disch := omega) only [hA, OK, s_le, s_inb, s_slb, s_room, s_mks, s_ne0, s_nn, s_eql, s_neq, s_lss, s_leq, s_gtr, s_geq, s_isz, s_bnot, s_beq, s_idx, s_addN, s_subN, s_mulN, s_tn, s_ofn, s_nmin, s_drp, s_tak, s_app, s_len, s_leB, s_add, s_sub, s_mul, s_wr64, s_wr8, bytesE_fold, bytesE_length, bytesE_drop, bytesE_take, bytesE_app, intsE_fold, intsE_length, decide_eq_true_eq, decide_eq_false_iff_not, Nat.mul_one, Nat.zero_add, Nat.add_zero, Bool.not_eq_true', List.length_take, List.length_drop, List.length_append, List.length_cons, List.length_nil, List.drop_zero] at h4
            · -- the same four bytes
              have hww : w1 = w0 := wordN_inj w1 w0 hw14 hw4 hw1b hwb (by omega)
              rw [if_pos ⟨q3, by rw [← hw1, hww]⟩] at hlw
              have hs2 : A.setl (A.setl mc (A.idx 0 i 1) [.lit (.int .i64 (-1))]) (A.idx 0 i 1) [.lit (.int .i64 p)] = intsE (ml.set i.toNat p) := by
                rw [hs1, hA, setA_ints _ _ _ (by simp; omega), List.set_set]
              have z3 : A.le (A.add (A.idx 0 i 1) 1) (A.len (A.setl mc (A.idx 0 i 1) [.lit (.int .i64 (-1))])) = true := by rw [hs1]; simp (disch := omega) only [hA, OK, s_le, s_inb, s_slb, s_room, s_mks, s_ne0, s_nn, s_eql, s_neq, s_lss, s_leq, s_gtr, s_geq, s_isz, s_bnot, s_beq, s_idx, s_addN, s_subN, s_mulN, s_tn, s_ofn, s_nmin, s_drp, s_tak, s_app, s_len, s_leB, s_add, s_sub, s_mul, s_wr64, s_wr8, bytesE_fold, bytesE_length, bytesE_drop, bytesE_take, bytesE_app, intsE_fold, intsE_length, decide_eq_true_eq, decide_eq_false_iff_not, Nat.mul_one, Nat.zero_add, Nat.add_zero, Bool.not_eq_true', List.length_take, List.length_drop, List.length_append, List.length_cons, List.length_nil, List.drop_zero]; simp; omega
              have hlai : lastA b i.toNat = p := by rw [hla, hlw]; simp only; omega
              with_reducible refine runK hA hd hQ 200 ?hk ?_
              case hk => exact trivial
              conv => arg 8; cbv
              try simp only [OK]
              refine ⟨z1, z3, ?_⟩
              have hs3 : A.setl bc (A.idx 0 i 1) [.lit (.int .i64 p0)] = intsE (bl.set i.toNat p0) := by
                rw [hA, hbc]; exact setA_ints _ _ _ (by omega)
              have hs4 : A.setl lc (A.idx 0 (A.ib .rem .i64 wz 4093) 1) [.lit (.int .i64 i)] = intsE (l.set r0 i) := by
                rw [hA, hrz, hlc, setA_ints _ _ _ (by omega), zr]
              refine ⟨by simp (disch := omega) only [hA, OK, s_le, s_inb, s_slb, s_room, s_mks, s_ne0, s_nn, s_eql, s_neq, s_lss, s_leq, s_gtr, s_geq, s_isz, s_bnot, s_beq, s_idx, s_addN, s_subN, s_mulN, s_tn, s_ofn, s_nmin, s_drp, s_tak, s_app, s_len, s_leB, s_add, s_sub, s_mul, s_wr64, s_wr8, bytesE_fold, bytesE_length, bytesE_drop, bytesE_take, bytesE_app, intsE_fold, intsE_length, decide_eq_true_eq, decide_eq_false_iff_not, Nat.mul_one, Nat.zero_add, Nat.add_zero, Bool.not_eq_true', List.length_take, List.length_drop, List.length_append, List.length_cons, List.length_nil, List.drop_zero , hrz] <;> omega, [.lit (.int .i64 p0)], _, rfl, by simp (disch := omega) only [hA, OK, s_le, s_inb, s_slb, s_room, s_mks, s_ne0, s_nn, s_eql, s_neq, s_lss, s_leq, s_gtr, s_geq, s_isz, s_bnot, s_beq, s_idx, s_addN, s_subN, s_mulN, s_tn, s_ofn, s_nmin, s_drp, s_tak, s_app, s_len, s_leB, s_add, s_sub, s_mul, s_wr64, s_wr8, bytesE_fold, bytesE_length, bytesE_drop, bytesE_take, bytesE_app, intsE_fold, intsE_length, decide_eq_true_eq, decide_eq_false_iff_not, Nat.mul_one, Nat.zero_add, Nat.add_zero, Bool.not_eq_true', List.length_take, List.length_drop, List.length_append, List.length_cons, List.length_nil, List.drop_zero , hrz, zr] <;> exact p1, rfl, ?_⟩
              with_reducible refine runK hA hd hQ 200 ?hk ?_
              case hk => exact trivial
              conv => arg 8; cbv
              try simp only [OK]
              have z4 : A.le (A.add (A.idx 0 i 1) 1) (A.len bc) = true := by simp (disch := omega) only [hA, OK, s_le, s_inb, s_slb, s_room, s_mks, s_ne0, s_nn, s_eql, s_neq, s_lss, s_leq, s_gtr, s_geq, s_isz, s_bnot, s_beq, s_idx, s_addN, s_subN, s_mulN, s_tn, s_ofn, s_nmin, s_drp, s_tak, s_app, s_len, s_leB, s_add, s_sub, s_mul, s_wr64, s_wr8, bytesE_fold, bytesE_length, bytesE_drop, bytesE_take, bytesE_app, intsE_fold, intsE_length, decide_eq_true_eq, decide_eq_false_iff_not, Nat.mul_one, Nat.zero_add, Nat.add_zero, Bool.not_eq_true', List.length_take, List.length_drop, List.length_append, List.length_cons, List.length_nil, List.drop_zero , hbc]; omega
              have z5 : A.le (A.add (A.idx 0 (A.ib .rem .i64 wz 4093) 1) 1) (A.len lc) = true := by simp (disch := omega) only [hA, OK, s_le, s_inb, s_slb, s_room, s_mks, s_ne0, s_nn, s_eql, s_neq, s_lss, s_leq, s_gtr, s_geq, s_isz, s_bnot, s_beq, s_idx, s_addN, s_subN, s_mulN, s_tn, s_ofn, s_nmin, s_drp, s_tak, s_app, s_len, s_leB, s_add, s_sub, s_mul, s_wr64, s_wr8, bytesE_fold, bytesE_length, bytesE_drop, bytesE_take, bytesE_app, intsE_fold, intsE_length, decide_eq_true_eq, decide_eq_false_iff_not, Nat.mul_one, Nat.zero_add, Nat.add_zero, Bool.not_eq_true', List.length_take, List.length_drop, List.length_append, List.length_cons, List.length_nil, List.drop_zero , hlc, hrz]; omega
              refine ⟨z1, z4, by simp (disch := omega) only [hA, OK, s_le, s_inb, s_slb, s_room, s_mks, s_ne0, s_nn, s_eql, s_neq, s_lss, s_leq, s_gtr, s_geq, s_isz, s_bnot, s_beq, s_idx, s_addN, s_subN, s_mulN, s_tn, s_ofn, s_nmin, s_drp, s_tak, s_app, s_len, s_leB, s_add, s_sub, s_mul, s_wr64, s_wr8, bytesE_fold, bytesE_length, bytesE_drop, bytesE_take, bytesE_app, intsE_fold, intsE_length, decide_eq_true_eq, decide_eq_false_iff_not, Nat.mul_one, Nat.zero_add, Nat.add_zero, Bool.not_eq_true', List.length_take, List.length_drop, List.length_append, List.length_cons, List.length_nil, List.drop_zero , hrz] <;> omega, z5, ?_⟩
              refine OKs.mask (msk 74 [0, 3, 5, 6, 28, 29]) ?_
              refine ih _ ⟨_, _, l.set r0 i, _, bl.set i.toNat p0, _, ml.set i.toNat p, rfl, ?_, ?_, hs4, by simpa using hll, fun r hr => ?_, hs3, by simpa using hbl, fun j hj hj4 => ?_, hs2, by simpa using hml, fun j hj => ?_⟩ (show (N - A.ib .add .i64 i 1).toNat < (N - i).toNat from ?_)
              · simp (disch := omega) only [hA, OK, s_le, s_inb, s_slb, s_room, s_mks, s_ne0, s_nn, s_eql, s_neq, s_lss, s_leq, s_gtr, s_geq, s_isz, s_bnot, s_beq, s_idx, s_addN, s_subN, s_mulN, s_tn, s_ofn, s_nmin, s_drp, s_tak, s_app, s_len, s_leB, s_add, s_sub, s_mul, s_wr64, s_wr8, bytesE_fold, bytesE_length, bytesE_drop, bytesE_take, bytesE_app, intsE_fold, intsE_length, decide_eq_true_eq, decide_eq_false_iff_not, Nat.mul_one, Nat.zero_add, Nat.add_zero, Bool.not_eq_true', List.length_take, List.length_drop, List.length_append, List.length_cons, List.length_nil, List.drop_zero]; omega
              · simp (disch := omega) only [hA, OK, s_le, s_inb, s_slb, s_room, s_mks, s_ne0, s_nn, s_eql, s_neq, s_lss, s_leq, s_gtr, s_geq, s_isz, s_bnot, s_beq, s_idx, s_addN, s_subN, s_mulN, s_tn, s_ofn, s_nmin, s_drp, s_tak, s_app, s_len, s_leB, s_add, s_sub, s_mul, s_wr64, s_wr8, bytesE_fold, bytesE_length, bytesE_drop, bytesE_take, bytesE_app, intsE_fold, intsE_length, decide_eq_true_eq, decide_eq_false_iff_not, Nat.mul_one, Nat.zero_add, Nat.add_zero, Bool.not_eq_true', List.length_take, List.length_drop, List.length_append, List.length_cons, List.length_nil, List.drop_zero]; omega
              · rw [getD_set _ _ _ _ (by omega)]; simp (disch := omega) only [hA, s_add]; rw [zi, lastC]
                by_cases hrr : r = r0
                · rw [if_pos hrr, if_pos ⟨hnr, by rw [← hw0, hrr, hr0]⟩]; omega
                · rw [if_neg hrr, if_neg (fun h => hrr (by rw [← h.2, hr0, hw0]))]; exact hlj r hr
              · have hj' : (j : Int) < i + 1 := by simpa (disch := omega) only [hA, s_add] using hj
                rw [getD_set _ _ _ _ (by omega)]
                split
                · rename_i hji; rw [hji, ← hw0, ← hr0]; exact p2
                · exact hbj j (by omega) hj4
              · have hj' : (j : Int) < i + 1 := by simpa (disch := omega) only [hA, s_add] using hj
                rw [getD_set _ _ _ _ (by omega)]
                split
                · rename_i hji; rw [hji]; exact hlai.symm
                · exact hmj j (by omega)
              · simp (disch := omega) only [hA, OK, s_le, s_inb, s_slb, s_room, s_mks, s_ne0, s_nn, s_eql, s_neq, s_lss, s_leq, s_gtr, s_geq, s_isz, s_bnot, s_beq, s_idx, s_addN, s_subN, s_mulN, s_tn, s_ofn, s_nmin, s_drp, s_tak, s_app, s_len, s_leB, s_add, s_sub, s_mul, s_wr64, s_wr8, bytesE_fold, bytesE_length, bytesE_drop, bytesE_take, bytesE_app, intsE_fold, intsE_length, decide_eq_true_eq, decide_eq_false_iff_not, Nat.mul_one, Nat.zero_add, Nat.add_zero, Bool.not_eq_true', List.length_take, List.length_drop, List.length_append, List.length_cons, List.length_nil, List.drop_zero]; omega
            · -- other bytes
              have hww : ¬ (p.toNat + 4 ≤ b.length ∧ (b.drop p.toNat).take 4 = w0) := fun h => h4 (by rw [huz, hwz, hw1, h.2])
              rw [if_neg hww] at hlw
              obtain ⟨n0, n1, n2⟩ := look_atI hbc p.toNat (by omega)
              rw [hbj p.toNat (by omega) q3, ← hw1, q4] at n2
              with_reducible refine runK hA hd hQ 200 ?hk ?_
              case hk => exact trivial
              conv => arg 8; cbv
              try simp only [OK]
              refine ⟨by simp (disch := omega) only [hA, OK, s_le, s_inb, s_slb, s_room, s_mks, s_ne0, s_nn, s_eql, s_neq, s_lss, s_leq, s_gtr, s_geq, s_isz, s_bnot, s_beq, s_idx, s_addN, s_subN, s_mulN, s_tn, s_ofn, s_nmin, s_drp, s_tak, s_app, s_len, s_leB, s_add, s_sub, s_mul, s_wr64, s_wr8, bytesE_fold, bytesE_length, bytesE_drop, bytesE_take, bytesE_app, intsE_fold, intsE_length, decide_eq_true_eq, decide_eq_false_iff_not, Nat.mul_one, Nat.zero_add, Nat.add_zero, Bool.not_eq_true', List.length_take, List.length_drop, List.length_append, List.length_cons, List.length_nil, List.drop_zero] <;> omega, [.lit (.int .i64 n0)], _, rfl, by simp (disch := omega) only [hA, OK, s_le, s_inb, s_slb, s_room, s_mks, s_ne0, s_nn, s_eql, s_neq, s_lss, s_leq, s_gtr, s_geq, s_isz, s_bnot, s_beq, s_idx, s_addN, s_subN, s_mulN, s_tn, s_ofn, s_nmin, s_drp, s_tak, s_app, s_len, s_leB, s_add, s_sub, s_mul, s_wr64, s_wr8, bytesE_fold, bytesE_length, bytesE_drop, bytesE_take, bytesE_app, intsE_fold, intsE_length, decide_eq_true_eq, decide_eq_false_iff_not, Nat.mul_one, Nat.zero_add, Nat.add_zero, Bool.not_eq_true', List.length_take, List.length_drop, List.length_append, List.length_cons, List.length_nil, List.drop_zero] <;> exact n1, rfl, ?_⟩
              with_reducible refine runK hA hd hQ 200 ?hk ?_
              case hk => exact trivial
              conv => arg 8; cbv
              try simp only [OK]
              refine OKs.mask (msk 74 [0, 3, 5, 6, 7, 8, 9, 10, 28, 29]) ?_
              have hlk := lastC_ok b r0 p.toNat
              have hlw2 := lastW_lastC b w0 p.toNat
              rw [← hr0] at hlw2
              rw [← n2] at hlk hlw2
              refine ih2 _ ⟨n0, rfl, ?_, hlw.trans hlw2⟩ (show (n0 + 1).toNat < (p + 1).toNat from ?_)
              · rcases hlk with h | ⟨k1, k2, k3, k4⟩
                · exact .inl h
                · exact .inr ⟨k1, by omega, k3, k4⟩
              · rcases hlk with h | ⟨k1, k2, k3, k4⟩ <;> omega
          · -- none
            have hp1 : p = -1 := by rcases hp with h | h <;> omega
            have hlai : lastA b i.toNat = -1 := by rw [hla, hlw, hp1]; rfl
            with_reducible refine runK hA hd hQ 200 ?hk ?_
            case hk => exact trivial
            conv => arg 8; cbv
            try simp only [OK]
            have hs3 : A.setl bc (A.idx 0 i 1) [.lit (.int .i64 p0)] = intsE (bl.set i.toNat p0) := by
              rw [hA, hbc]; exact setA_ints _ _ _ (by omega)
            have hs4 : A.setl lc (A.idx 0 (A.ib .rem .i64 wz 4093) 1) [.lit (.int .i64 i)] = intsE (l.set r0 i) := by
              rw [hA, hrz, hlc, setA_ints _ _ _ (by omega), zr]
            refine ⟨by simp (disch := omega) only [hA, OK, s_le, s_inb, s_slb, s_room, s_mks, s_ne0, s_nn, s_eql, s_neq, s_lss, s_leq, s_gtr, s_geq, s_isz, s_bnot, s_beq, s_idx, s_addN, s_subN, s_mulN, s_tn, s_ofn, s_nmin, s_drp, s_tak, s_app, s_len, s_leB, s_add, s_sub, s_mul, s_wr64, s_wr8, bytesE_fold, bytesE_length, bytesE_drop, bytesE_take, bytesE_app, intsE_fold, intsE_length, decide_eq_true_eq, decide_eq_false_iff_not, Nat.mul_one, Nat.zero_add, Nat.add_zero, Bool.not_eq_true', List.length_take, List.length_drop, List.length_append, List.length_cons, List.length_nil, List.drop_zero , hrz] <;> omega, [.lit (.int .i64 p0)], _, rfl, by simp (disch := omega) only [hA, OK, s_le, s_inb, s_slb, s_room, s_mks, s_ne0, s_nn, s_eql, s_neq, s_lss, s_leq, s_gtr, s_geq, s_isz, s_bnot, s_beq, s_idx, s_addN, s_subN, s_mulN, s_tn, s_ofn, s_nmin, s_drp, s_tak, s_app, s_len, s_leB, s_add, s_sub, s_mul, s_wr64, s_wr8, bytesE_fold, bytesE_length, bytesE_drop, bytesE_take, bytesE_app, intsE_fold, intsE_length, decide_eq_true_eq, decide_eq_false_iff_not, Nat.mul_one, Nat.zero_add, Nat.add_zero, Bool.not_eq_true', List.length_take, List.length_drop, List.length_append, List.length_cons, List.length_nil, List.drop_zero , hrz, zr] <;> exact p1, rfl, ?_⟩
            with_reducible refine runK hA hd hQ 200 ?hk ?_
            case hk => exact trivial
            conv => arg 8; cbv
            try simp only [OK]
            have z4 : A.le (A.add (A.idx 0 i 1) 1) (A.len bc) = true := by simp (disch := omega) only [hA, OK, s_le, s_inb, s_slb, s_room, s_mks, s_ne0, s_nn, s_eql, s_neq, s_lss, s_leq, s_gtr, s_geq, s_isz, s_bnot, s_beq, s_idx, s_addN, s_subN, s_mulN, s_tn, s_ofn, s_nmin, s_drp, s_tak, s_app, s_len, s_leB, s_add, s_sub, s_mul, s_wr64, s_wr8, bytesE_fold, bytesE_length, bytesE_drop, bytesE_take, bytesE_app, intsE_fold, intsE_length, decide_eq_true_eq, decide_eq_false_iff_not, Nat.mul_one, Nat.zero_add, Nat.add_zero, Bool.not_eq_true', List.length_take, List.length_drop, List.length_append, List.length_cons, List.length_nil, List.drop_zero , hbc]; omega
            have z5 : A.le (A.add (A.idx 0 (A.ib .rem .i64 wz 4093) 1) 1) (A.len lc) = true := by simp (disch := omega) only [hA, OK, s_le, s_inb, s_slb, s_room, s_mks, s_ne0, s_nn, s_eql, s_neq, s_lss, s_leq, s_gtr, s_geq, s_isz, s_bnot, s_beq, s_idx, s_addN, s_subN, s_mulN, s_tn, s_ofn, s_nmin, s_drp, s_tak, s_app, s_len, s_leB, s_add, s_sub, s_mul, s_wr64, s_wr8, bytesE_fold, bytesE_length, bytesE_drop, bytesE_take, bytesE_app, intsE_fold, intsE_length, decide_eq_true_eq, decide_eq_false_iff_not, Nat.mul_one, Nat.zero_add, Nat.add_zero, Bool.not_eq_true', List.length_take, List.length_drop, List.length_append, List.length_cons, List.length_nil, List.drop_zero , hlc, hrz]; omega
            refine ⟨z1, z4, by simp (disch := omega) only [hA, OK, s_le, s_inb, s_slb, s_room, s_mks, s_ne0, s_nn, s_eql, s_neq, s_lss, s_leq, s_gtr, s_geq, s_isz, s_bnot, s_beq, s_idx, s_addN, s_subN, s_mulN, s_tn, s_ofn, s_nmin, s_drp, s_tak, s_app, s_len, s_leB, s_add, s_sub, s_mul, s_wr64, s_wr8, bytesE_fold, bytesE_length, bytesE_drop, bytesE_take, bytesE_app, intsE_fold, intsE_length, decide_eq_true_eq, decide_eq_false_iff_not, Nat.mul_one, Nat.zero_add, Nat.add_zero, Bool.not_eq_true', List.length_take, List.length_drop, List.length_append, List.length_cons, List.length_nil, List.drop_zero , hrz] <;> omega, z5, ?_⟩
            refine OKs.mask (msk 74 [0, 3, 5, 6, 28, 29]) ?_
            refine ih _ ⟨_, _, l.set r0 i, _, bl.set i.toNat p0, _, ml.set i.toNat (-1), rfl, ?_, ?_, hs4, by simpa using hll, fun r hr => ?_, hs3, by simpa using hbl, fun j hj hj4 => ?_, hs1, by simpa using hml, fun j hj => ?_⟩ (show (N - A.ib .add .i64 i 1).toNat < (N - i).toNat from ?_)
            · simp (disch := omega) only [hA, OK, s_le, s_inb, s_slb, s_room, s_mks, s_ne0, s_nn, s_eql, s_neq, s_lss, s_leq, s_gtr, s_geq, s_isz, s_bnot, s_beq, s_idx, s_addN, s_subN, s_mulN, s_tn, s_ofn, s_nmin, s_drp, s_tak, s_app, s_len, s_leB, s_add, s_sub, s_mul, s_wr64, s_wr8, bytesE_fold, bytesE_length, bytesE_drop, bytesE_take, bytesE_app, intsE_fold, intsE_length, decide_eq_true_eq, decide_eq_false_iff_not, Nat.mul_one, Nat.zero_add, Nat.add_zero, Bool.not_eq_true', List.length_take, List.length_drop, List.length_append, List.length_cons, List.length_nil, List.drop_zero]; omega
            · simp (disch := omega) only [hA, OK, s_le, s_inb, s_slb, s_room, s_mks, s_ne0, s_nn, s_eql, s_neq, s_lss, s_leq, s_gtr, s_geq, s_isz, s_bnot, s_beq, s_idx, s_addN, s_subN, s_mulN, s_tn, s_ofn, s_nmin, s_drp, s_tak, s_app, s_len, s_leB, s_add, s_sub, s_mul, s_wr64, s_wr8, bytesE_fold, bytesE_length, bytesE_drop, bytesE_take, bytesE_app, intsE_fold, intsE_length, decide_eq_true_eq, decide_eq_false_iff_not, Nat.mul_one, Nat.zero_add, Nat.add_zero, Bool.not_eq_true', List.length_take, List.length_drop, List.length_append, List.length_cons, List.length_nil, List.drop_zero]; omega
            · rw [getD_set _ _ _ _ (by omega)]; simp (disch := omega) only [hA, s_add]; rw [zi, lastC]
              by_cases hrr : r = r0
              · rw [if_pos hrr, if_pos ⟨hnr, by rw [← hw0, hrr, hr0]⟩]; omega
              · rw [if_neg hrr, if_neg (fun h => hrr (by rw [← h.2, hr0, hw0]))]; exact hlj r hr
            · have hj' : (j : Int) < i + 1 := by simpa (disch := omega) only [hA, s_add] using hj
              rw [getD_set _ _ _ _ (by omega)]
              split
              · rename_i hji; rw [hji, ← hw0, ← hr0]; exact p2
              · exact hbj j (by omega) hj4
            · have hj' : (j : Int) < i + 1 := by simpa (disch := omega) only [hA, s_add] using hj
              rw [getD_set _ _ _ _ (by omega)]
              split
              · rename_i hji; rw [hji]; exact hlai.symm
              · exact hmj j (by omega)
            · simp (disch := omega) only [hA, OK, s_le, s_inb, s_slb, s_room, s_mks, s_ne0, s_nn, s_eql, s_neq, s_lss, s_leq, s_gtr, s_geq, s_isz, s_bnot, s_beq, s_idx, s_addN, s_subN, s_mulN, s_tn, s_ofn, s_nmin, s_drp, s_tak, s_app, s_len, s_leB, s_add, s_sub, s_mul, s_wr64, s_wr8, bytesE_fold, bytesE_length, bytesE_drop, bytesE_take, bytesE_app, intsE_fold, intsE_length, decide_eq_true_eq, decide_eq_false_iff_not, Nat.mul_one, Nat.zero_add, Nat.add_zero, Bool.not_eq_true', List.length_take, List.length_drop, List.length_append, List.length_cons, List.length_nil, List.drop_zero]; omega
        · have hlk := lastC_ok b r0 i.toNat
          rw [← p2] at hlk
          rcases hlk with h | ⟨k1, k2, k3, k4⟩
          · exact .inl h
          · exact .inr ⟨k1, by omega, k3, k4⟩
        · rw [lastW_lastC b w0 i.toNat, ← hr0, ← p2]
    · with_reducible refine runK hA hd hQ 200 ?hk ?_
      case hk => exact trivial
      conv => arg 8; cbv
      try simp only [OK]
      have hll2 : ml = lastL b := by
        apply List.ext_getElem?
        intro j
        by_cases hj : j < b.length
        · have e1 := hmj j (by omega)
          have e2 := lastL_get b j hj
          rw [← e2] at e1
          have h1 : j < ml.length := by omega
          have h2 : j < (lastL b).length := by simp [lastL]; exact hj
          rw [List.getD_eq_getElem?_getD, List.getD_eq_getElem?_getD, List.getElem?_eq_getElem h1, List.getElem?_eq_getElem h2] at e1
          rw [List.getElem?_eq_getElem h1, List.getElem?_eq_getElem h2]
          simpa using e1
        · rw [List.getElem?_eq_none (by omega), List.getElem?_eq_none (by simp [lastL]; omega)]
      refine ⟨_, rfl, ?_, ?_⟩
      · show EV.sl 1 2 0 (A.tn (A.ofn N)) (some (A.tn (A.ofn N))) = _
        rw [← hnz, hnN]
      · rw [← hll2, ← hmc]; rfl

end Go.Proofs.Ytplibngmgebigaa.Press
