/- Pr5: unpacking, the document's answer. No conditions beyond those written. -/
import Derived.Test.YtplibngmgebigaaPr4
import Derived.Test.YtplibngmgebigaaEm25
set_option linter.unusedVariables false
set_option linter.unusedSimpArgs false
namespace Go.Proofs.Ytplibngmgebigaa.Press
open Go Go.Proofs.Ytplibngmgebigaa Go.Proofs.Ytplibngmgebigaa.Em

theorem drop_cons_getD (B : List Nat) (k : Nat) (h : k < B.length) : B.drop k = B.getD k 0 :: B.drop (k + 1) := by
  rw [List.drop_eq_getElem_cons h]; simp [List.getElem?_eq_getElem h]
theorem getD_drop (B : List Nat) (k j : Nat) : (B.drop k).getD j 0 = B.getD (k + j) 0 := by
  simp [List.getD_eq_getElem?_getD, List.getElem?_drop]

theorem opened_fr (how : Int) (b : List Nat) (hb : AllB b) (hl : b.length ≤ 140737488351232) (most more : Int) (hm : 0 ≤ most ∧ most ≤ 65536) :
    Tri Try.prog [] 22 [.lit (.int .i64 how), .isl b.length none (bytesE b), .lit (.int .i64 most), .lit (.int .i64 more)] [] fun v h =>
      v = .tup [isB (opL how b most more).1, .lit (.int .i64 (opL how b most more).2)] ∧ h = [] := by
  refine Tri.frozen2 rfl ((opened_ok how b hb (by omega) most more hm).mono fun v h ⟨hv, hh⟩ => ⟨_, hv, ?_⟩)
  generalize (opL how b most more).1 = r at *
  cases r with
  | nil => exact .inl ⟨rfl, rfl⟩
  | cons x r => rcases hh with hh | hh
                · cases hh
                · subst hh; exact .inr ⟨0, none, rfl, rfl⟩

theorem s_shl8 (z : Int) (h1 : 0 ≤ z) (h2 : z < 256) : stdA.sh .shl .i64 z 8 = z * 256 := by
  simp only [stdA, IntKind.bits]
  rw [show min (Int.toNat 8) 64 = 8 by rfl]
  rw [wrap_i64 _ (by omega) (by omega)]
  omega

set_option maxHeartbeats 4000000 in
theorem lay_fr (how : Int) (hh : how = 0 ∨ how = 1 ∨ how = 2) (B : List Nat) (hb : AllB B) (hl : B.length ≤ 140737488351232) (most more : Int) (hm : 0 ≤ most ∧ most ≤ 65536) :
    Tri Try.prog [] 20 [.lit (.int .i64 how), .isl B.length none (bytesE B), .lit (.int .i64 most), .lit (.int .i64 more)] [] fun v h =>
      v = .tup [isB (opL how B most more).1, .lit (.int .i64 (opL how B most more).2)] ∧ h = [] := by
  refine Tri.frozen2 rfl ?_
  refine Tri_of F20_ok fun I0 ρ0 w0 Q hρ hQ => ?_
  obtain ⟨A, hA⟩ : ∃ A, A = stdA := ⟨_, rfl⟩
  obtain ⟨c, hc⟩ : ∃ c, c = bytesE B := ⟨_, rfl⟩
  obtain ⟨n, hn⟩ : ∃ n, n = B.length := ⟨_, rfl⟩
  rw [← hc, ← hn]
  obtain ⟨R0, hR0⟩ : ∃ r, r = opL how B most more := ⟨_, rfl⟩
  rw [← hR0] at hQ
  refine runS hA hd hQ 100 trivial ?_
  conv => arg 8; cbv
  try simp only [OK]
  refine ⟨fun h0 => ?_, fun h0 => ?_⟩ <;> simp (disch := omega) only [hA, OK, s_le, s_inb, s_slb, s_room, s_mks, s_ne0, s_nn, s_eql, s_neq, s_lss, s_leq, s_gtr, s_geq, s_isz, s_bnot, s_beq, s_idx, s_addN, s_subN, s_mulN, s_tn, s_ofn, s_nmin, s_drp, s_tak, s_app, s_len, s_leB, s_add, s_sub, s_mul, s_wr64, s_wr8, bytesE_fold, bytesE_length, bytesE_drop, bytesE_take, bytesE_app, intsE_fold, intsE_length, decide_eq_true_eq, decide_eq_false_iff_not, Nat.mul_one, Nat.zero_add, Nat.add_zero, Bool.not_eq_true', List.length_take, List.length_drop, List.length_append, List.length_cons, List.length_nil, List.drop_zero] at h0
  · refine runK hA hd hQ 100 trivial ?_
    conv => arg 8; cbv
    try simp only [OK]
    refine ⟨fun h1 => ?_, fun h1 => ?_⟩ <;> simp (disch := omega) only [hA, OK, s_le, s_inb, s_slb, s_room, s_mks, s_ne0, s_nn, s_eql, s_neq, s_lss, s_leq, s_gtr, s_geq, s_isz, s_bnot, s_beq, s_idx, s_addN, s_subN, s_mulN, s_tn, s_ofn, s_nmin, s_drp, s_tak, s_app, s_len, s_leB, s_add, s_sub, s_mul, s_wr64, s_wr8, bytesE_fold, bytesE_length, bytesE_drop, bytesE_take, bytesE_app, intsE_fold, intsE_length, decide_eq_true_eq, decide_eq_false_iff_not, Nat.mul_one, Nat.zero_add, Nat.add_zero, Bool.not_eq_true', List.length_take, List.length_drop, List.length_append, List.length_cons, List.length_nil, List.drop_zero] at h1
    · have hr' : R0 = ([], more) := by rw [hR0]; simp [opL, h0, show most < (B.length : Int) by omega]
      refine runK hA hd hQ 100 trivial ?_
      conv => arg 8; cbv
      try simp only [OK]
      refine ⟨_, rfl, .lit (.slice none 0 0), ?_, .inl ⟨rfl, ?_⟩⟩ <;> rw [hr'] <;> rfl
    · have hr' : R0 = (B, 0) := by rw [hR0]; simp [opL, h0, show ¬ most < (B.length : Int) by omega]
      refine runK hA hd hQ 100 trivial ?_
      conv => arg 8; cbv
      try simp only [OK]
      refine ⟨by simp (disch := omega) only [hA, OK, s_le, s_inb, s_slb, s_room, s_mks, s_ne0, s_nn, s_eql, s_neq, s_lss, s_leq, s_gtr, s_geq, s_isz, s_bnot, s_beq, s_idx, s_addN, s_subN, s_mulN, s_tn, s_ofn, s_nmin, s_drp, s_tak, s_app, s_len, s_leB, s_add, s_sub, s_mul, s_wr64, s_wr8, bytesE_fold, bytesE_length, bytesE_drop, bytesE_take, bytesE_app, intsE_fold, intsE_length, decide_eq_true_eq, decide_eq_false_iff_not, Nat.mul_one, Nat.zero_add, Nat.add_zero, Bool.not_eq_true', List.length_take, List.length_drop, List.length_append, List.length_cons, List.length_nil, List.drop_zero , hc] <;> omega, by simp (disch := omega) only [hA, OK, s_le, s_inb, s_slb, s_room, s_mks, s_ne0, s_nn, s_eql, s_neq, s_lss, s_leq, s_gtr, s_geq, s_isz, s_bnot, s_beq, s_idx, s_addN, s_subN, s_mulN, s_tn, s_ofn, s_nmin, s_drp, s_tak, s_app, s_len, s_leB, s_add, s_sub, s_mul, s_wr64, s_wr8, bytesE_fold, bytesE_length, bytesE_drop, bytesE_take, bytesE_app, intsE_fold, intsE_length, decide_eq_true_eq, decide_eq_false_iff_not, Nat.mul_one, Nat.zero_add, Nat.add_zero, Bool.not_eq_true', List.length_take, List.length_drop, List.length_append, List.length_cons, List.length_nil, List.drop_zero] <;> omega, by simp (disch := omega) only [hA, OK, s_le, s_inb, s_slb, s_room, s_mks, s_ne0, s_nn, s_eql, s_neq, s_lss, s_leq, s_gtr, s_geq, s_isz, s_bnot, s_beq, s_idx, s_addN, s_subN, s_mulN, s_tn, s_ofn, s_nmin, s_drp, s_tak, s_app, s_len, s_leB, s_add, s_sub, s_mul, s_wr64, s_wr8, bytesE_fold, bytesE_length, bytesE_drop, bytesE_take, bytesE_app, intsE_fold, intsE_length, decide_eq_true_eq, decide_eq_false_iff_not, Nat.mul_one, Nat.zero_add, Nat.add_zero, Bool.not_eq_true', List.length_take, List.length_drop, List.length_append, List.length_cons, List.length_nil, List.drop_zero] <;> omega, by simp (disch := omega) only [hA, OK, s_le, s_inb, s_slb, s_room, s_mks, s_ne0, s_nn, s_eql, s_neq, s_lss, s_leq, s_gtr, s_geq, s_isz, s_bnot, s_beq, s_idx, s_addN, s_subN, s_mulN, s_tn, s_ofn, s_nmin, s_drp, s_tak, s_app, s_len, s_leB, s_add, s_sub, s_mul, s_wr64, s_wr8, bytesE_fold, bytesE_length, bytesE_drop, bytesE_take, bytesE_app, intsE_fold, intsE_length, decide_eq_true_eq, decide_eq_false_iff_not, Nat.mul_one, Nat.zero_add, Nat.add_zero, Bool.not_eq_true', List.length_take, List.length_drop, List.length_append, List.length_cons, List.length_nil, List.drop_zero] <;> omega, fun h2 => ?_, fun h2 => ?_⟩ <;> simp (disch := omega) only [hA, OK, s_le, s_inb, s_slb, s_room, s_mks, s_ne0, s_nn, s_eql, s_neq, s_lss, s_leq, s_gtr, s_geq, s_isz, s_bnot, s_beq, s_idx, s_addN, s_subN, s_mulN, s_tn, s_ofn, s_nmin, s_drp, s_tak, s_app, s_len, s_leB, s_add, s_sub, s_mul, s_wr64, s_wr8, bytesE_fold, bytesE_length, bytesE_drop, bytesE_take, bytesE_app, intsE_fold, intsE_length, decide_eq_true_eq, decide_eq_false_iff_not, Nat.mul_one, Nat.zero_add, Nat.add_zero, Bool.not_eq_true', List.length_take, List.length_drop, List.length_append, List.length_cons, List.length_nil, List.drop_zero] at h2
      · refine runK hA hd hQ 100 trivial ?_
        conv => arg 8; cbv
        try simp only [OK]
        have : B = [] := List.length_eq_zero_iff.1 (by omega)
        subst this
        refine ⟨_, rfl, .sl 1 0 0 0 (some 0), ?_, .inr ⟨0, some 0, ?_, ?_⟩⟩
        · rw [hr']; simp only [getT]; simp (disch := omega) only [hA, OK, s_le, s_inb, s_slb, s_room, s_mks, s_ne0, s_nn, s_eql, s_neq, s_lss, s_leq, s_gtr, s_geq, s_isz, s_bnot, s_beq, s_idx, s_addN, s_subN, s_mulN, s_tn, s_ofn, s_nmin, s_drp, s_tak, s_app, s_len, s_leB, s_add, s_sub, s_mul, s_wr64, s_wr8, bytesE_fold, bytesE_length, bytesE_drop, bytesE_take, bytesE_app, intsE_fold, intsE_length, decide_eq_true_eq, decide_eq_false_iff_not, Nat.mul_one, Nat.zero_add, Nat.add_zero, Bool.not_eq_true', List.length_take, List.length_drop, List.length_append, List.length_cons, List.length_nil, List.drop_zero]; rw [show n = 0 by simpa using hn]
        · rw [hr']; rfl
        · rw [hr']; simp only [getH]; simp (disch := omega) only [hA, OK, s_le, s_inb, s_slb, s_room, s_mks, s_ne0, s_nn, s_eql, s_neq, s_lss, s_leq, s_gtr, s_geq, s_isz, s_bnot, s_beq, s_idx, s_addN, s_subN, s_mulN, s_tn, s_ofn, s_nmin, s_drp, s_tak, s_app, s_len, s_leB, s_add, s_sub, s_mul, s_wr64, s_wr8, bytesE_fold, bytesE_length, bytesE_drop, bytesE_take, bytesE_app, intsE_fold, intsE_length, decide_eq_true_eq, decide_eq_false_iff_not, Nat.mul_one, Nat.zero_add, Nat.add_zero, Bool.not_eq_true', List.length_take, List.length_drop, List.length_append, List.length_cons, List.length_nil, List.drop_zero , s_setl, hc, bytesE_nil]; simp
      · refine runK hA hd hQ 100 trivial ?_
        conv => arg 8; cbv
        try simp only [OK]
        refine ⟨_, rfl, .sl 1 1 0 n none, ?_, .inr ⟨1, none, ?_, ?_⟩⟩
        · rw [hr']; simp only [getT]; simp (disch := omega) only [hA, OK, s_le, s_inb, s_slb, s_room, s_mks, s_ne0, s_nn, s_eql, s_neq, s_lss, s_leq, s_gtr, s_geq, s_isz, s_bnot, s_beq, s_idx, s_addN, s_subN, s_mulN, s_tn, s_ofn, s_nmin, s_drp, s_tak, s_app, s_len, s_leB, s_add, s_sub, s_mul, s_wr64, s_wr8, bytesE_fold, bytesE_length, bytesE_drop, bytesE_take, bytesE_app, intsE_fold, intsE_length, decide_eq_true_eq, decide_eq_false_iff_not, Nat.mul_one, Nat.zero_add, Nat.add_zero, Bool.not_eq_true', List.length_take, List.length_drop, List.length_append, List.length_cons, List.length_nil, List.drop_zero]
        · rw [hr', hn]
        · rw [hr']; simp only [getH]; simp (disch := omega) only [hA, OK, s_le, s_inb, s_slb, s_room, s_mks, s_ne0, s_nn, s_eql, s_neq, s_lss, s_leq, s_gtr, s_geq, s_isz, s_bnot, s_beq, s_idx, s_addN, s_subN, s_mulN, s_tn, s_ofn, s_nmin, s_drp, s_tak, s_app, s_len, s_leB, s_add, s_sub, s_mul, s_wr64, s_wr8, bytesE_fold, bytesE_length, bytesE_drop, bytesE_take, bytesE_app, intsE_fold, intsE_length, decide_eq_true_eq, decide_eq_false_iff_not, Nat.mul_one, Nat.zero_add, Nat.add_zero, Bool.not_eq_true', List.length_take, List.length_drop, List.length_append, List.length_cons, List.length_nil, List.drop_zero , hc, hn, List.take_length]; simp
  · refine runK hA hd hQ 100 trivial ?_
    conv => arg 8; cbv
    try simp only [OK]
    refine OKs.mask (msk 136 [0, 1, 2, 3, 10, 11]) (OKs.up 10 (.sl 1 0 0 0 none) (Up.scap _ _ _ _ _) ?_)
    refine OKs.loop (fun s => ∃ a m oc out fuel, s = ⟨mkT 136 [(0, .lit (.int .i64 how)), (1, .isl n none c), (2, .lit (.int .i64 most)), (3, .lit (.int .i64 more)), (10, .sl 1 0 0 m none), (11, .lit (.int .i64 a))], [.blk oc]⟩ ∧
        m = out.length ∧ oc = bytesE out ∧ AllB out ∧ 0 ≤ a ∧ a ≤ n ∧ (out.length : Int) ≤ most ∧ n - a.toNat ≤ fuel ∧ lyL (decide (how = 2)) most more fuel (B.drop a.toNat) out = R0) (fun s => (n - intN (getT s.t 11)).toNat) (fun s hs ih => ?_)
      ⟨0, 0, [], [], n, rfl, rfl, rfl, AllB.nil, by omega, by omega, by simp; omega, by omega, by rw [hR0, hn]; simp [opL, h0]⟩
    obtain ⟨a, m, oc, out, fuel, rfl, hm', hoc, ho, ha0, ha1, hlo, hf, hr⟩ := hs
    have hlo' : (m : Int) ≤ most := by rw [hm']; exact hlo
    refine runS hA hd hQ 100 trivial ?_
    conv => arg 8; cbv
    try simp only [OK]
    refine ⟨fun h1 => ?_, fun h1 => ?_⟩ <;> simp (disch := omega) only [hA, OK, s_le, s_inb, s_slb, s_room, s_mks, s_ne0, s_nn, s_eql, s_neq, s_lss, s_leq, s_gtr, s_geq, s_isz, s_bnot, s_beq, s_idx, s_addN, s_subN, s_mulN, s_tn, s_ofn, s_nmin, s_drp, s_tak, s_app, s_len, s_leB, s_add, s_sub, s_mul, s_wr64, s_wr8, bytesE_fold, bytesE_length, bytesE_drop, bytesE_take, bytesE_app, intsE_fold, intsE_length, decide_eq_true_eq, decide_eq_false_iff_not, Nat.mul_one, Nat.zero_add, Nat.add_zero, Bool.not_eq_true', List.length_take, List.length_drop, List.length_append, List.length_cons, List.length_nil, List.drop_zero] at h1
    · -- an item
      refine runK hA hd hQ 200 trivial ?_
      conv => arg 8; cbv
      try simp only [OK]
      obtain ⟨K, hK⟩ : ∃ K, K = a.toNat := ⟨_, rfl⟩
      rw [← hK] at hf hr
      rw [drop_cons_getD B K (by omega)] at hr
      obtain ⟨x0, hx0⟩ : ∃ x0, x0 = B.getD K 0 := ⟨_, rfl⟩
      obtain ⟨b', hb'⟩ : ∃ b', b' = B.drop (K + 1) := ⟨_, rfl⟩
      have hx3 : x0 < 256 := by rw [hx0]; exact hb.get K
      have hbl : b'.length = n - (K + 1) := by rw [hb', List.length_drop, hn]
      have hg0 : b'.getD 0 0 = B.getD (K + 1) 0 := by rw [hb', getD_drop]
      have hg1 : b'.getD 1 0 = B.getD (K + 2) 0 := by rw [hb', getD_drop]
      have hab : AllB b' := by rw [hb']; exact hb.drop _
      have hy0 := hab.get 0
      have hz0 := hab.get 1
      rw [← hx0, ← hb'] at hr
      have e0 : a.toNat = K := hK.symm
      have e1 : (a + 1).toNat = K + 1 := by omega
      have e2 : (a + 1 + 1).toNat = K + 2 := by omega
      obtain ⟨f, rfl⟩ : ∃ f, fuel = f + 1 := ⟨fuel - 1, by omega⟩
      obtain ⟨x, x1, x2⟩ := look_at hc (K) (by omega)
      refine ⟨by simp (disch := omega) only [hA, OK, s_le, s_inb, s_slb, s_room, s_mks, s_ne0, s_nn, s_eql, s_neq, s_lss, s_leq, s_gtr, s_geq, s_isz, s_bnot, s_beq, s_idx, s_addN, s_subN, s_mulN, s_tn, s_ofn, s_nmin, s_drp, s_tak, s_app, s_len, s_leB, s_add, s_sub, s_mul, s_wr64, s_wr8, bytesE_fold, bytesE_length, bytesE_drop, bytesE_take, bytesE_app, intsE_fold, intsE_length, decide_eq_true_eq, decide_eq_false_iff_not, Nat.mul_one, Nat.zero_add, Nat.add_zero, Bool.not_eq_true', List.length_take, List.length_drop, List.length_append, List.length_cons, List.length_nil, List.drop_zero] <;> omega, [.lit (.int .u8 x)], _, rfl, by simp (disch := omega) only [hA, OK, s_le, s_inb, s_slb, s_room, s_mks, s_ne0, s_nn, s_eql, s_neq, s_lss, s_leq, s_gtr, s_geq, s_isz, s_bnot, s_beq, s_idx, s_addN, s_subN, s_mulN, s_tn, s_ofn, s_nmin, s_drp, s_tak, s_app, s_len, s_leB, s_add, s_sub, s_mul, s_wr64, s_wr8, bytesE_fold, bytesE_length, bytesE_drop, bytesE_take, bytesE_app, intsE_fold, intsE_length, decide_eq_true_eq, decide_eq_false_iff_not, Nat.mul_one, Nat.zero_add, Nat.add_zero, Bool.not_eq_true', List.length_take, List.length_drop, List.length_append, List.length_cons, List.length_nil, List.drop_zero , e0] <;> exact x1, rfl, ?_⟩
      rw [← hx0] at x2
      refine runK hA hd hQ 200 trivial ?_
      conv => arg 8; cbv
      try simp only [OK]
      refine ⟨fun h2 => ?_, fun h2 => ?_⟩ <;> simp (disch := omega) only [hA, OK, s_le, s_inb, s_slb, s_room, s_mks, s_ne0, s_nn, s_eql, s_neq, s_lss, s_leq, s_gtr, s_geq, s_isz, s_bnot, s_beq, s_idx, s_addN, s_subN, s_mulN, s_tn, s_ofn, s_nmin, s_drp, s_tak, s_app, s_len, s_leB, s_add, s_sub, s_mul, s_wr64, s_wr8, bytesE_fold, bytesE_length, bytesE_drop, bytesE_take, bytesE_app, intsE_fold, intsE_length, decide_eq_true_eq, decide_eq_false_iff_not, Nat.mul_one, Nat.zero_add, Nat.add_zero, Bool.not_eq_true', List.length_take, List.length_drop, List.length_append, List.length_cons, List.length_nil, List.drop_zero] at h2
      · -- a literal
        refine runK hA hd hQ 200 trivial ?_
        conv => arg 8; cbv
        try simp only [OK]
        refine ⟨fun h3 => ?_, fun h3 => ?_⟩ <;> simp (disch := omega) only [hA, OK, s_le, s_inb, s_slb, s_room, s_mks, s_ne0, s_nn, s_eql, s_neq, s_lss, s_leq, s_gtr, s_geq, s_isz, s_bnot, s_beq, s_idx, s_addN, s_subN, s_mulN, s_tn, s_ofn, s_nmin, s_drp, s_tak, s_app, s_len, s_leB, s_add, s_sub, s_mul, s_wr64, s_wr8, bytesE_fold, bytesE_length, bytesE_drop, bytesE_take, bytesE_app, intsE_fold, intsE_length, decide_eq_true_eq, decide_eq_false_iff_not, Nat.mul_one, Nat.zero_add, Nat.add_zero, Bool.not_eq_true', List.length_take, List.length_drop, List.length_append, List.length_cons, List.length_nil, List.drop_zero] at h3
        · have hr' : R0 = ([], 60) := by rw [← hr, lyL, if_pos (by omega), if_pos (by omega)]
          refine runK hA hd hQ 200 trivial ?_
          conv => arg 8; cbv
          try simp only [OK]
          refine ⟨_, rfl, .lit (.slice none 0 0), ?_, .inl ⟨rfl, ?_⟩⟩ <;> rw [hr'] <;> rfl
        · refine runK hA hd hQ 200 trivial ?_
          conv => arg 8; cbv
          try simp only [OK]
          refine ⟨fun h4 => ?_, fun h4 => ?_⟩ <;> simp (disch := omega) only [hA, OK, s_le, s_inb, s_slb, s_room, s_mks, s_ne0, s_nn, s_eql, s_neq, s_lss, s_leq, s_gtr, s_geq, s_isz, s_bnot, s_beq, s_idx, s_addN, s_subN, s_mulN, s_tn, s_ofn, s_nmin, s_drp, s_tak, s_app, s_len, s_leB, s_add, s_sub, s_mul, s_wr64, s_wr8, bytesE_fold, bytesE_length, bytesE_drop, bytesE_take, bytesE_app, intsE_fold, intsE_length, decide_eq_true_eq, decide_eq_false_iff_not, Nat.mul_one, Nat.zero_add, Nat.add_zero, Bool.not_eq_true', List.length_take, List.length_drop, List.length_append, List.length_cons, List.length_nil, List.drop_zero] at h4
          · have hr' : R0 = ([], more) := by rw [← hr, lyL, if_pos (by omega), if_neg (by omega), if_pos (by omega)]
            refine runK hA hd hQ 200 trivial ?_
            conv => arg 8; cbv
            try simp only [OK]
            refine ⟨_, rfl, .lit (.slice none 0 0), ?_, .inl ⟨rfl, ?_⟩⟩ <;> rw [hr'] <;> rfl
          · refine runK hA hd hQ 200 trivial ?_
            conv => arg 8; cbv
            try simp only [OK]
            have hr' : lyL (decide (how = 2)) most more f (B.drop (K + 1 + (x0 + 1))) (out ++ b'.take (x0 + 1)) = R0 := by rw [← hr, lyL, if_pos (by omega), if_neg (by omega), if_neg (by omega), hb', List.drop_drop]
            have e3 : (a + 1 + x + 1).toNat - (K + 1) = x0 + 1 := by omega
            have e4 : (a + 1 + (x + 1)).toNat = K + 1 + (x0 + 1) := by omega
            refine ⟨by simp (disch := omega) only [hA, OK, s_le, s_inb, s_slb, s_room, s_mks, s_ne0, s_nn, s_eql, s_neq, s_lss, s_leq, s_gtr, s_geq, s_isz, s_bnot, s_beq, s_idx, s_addN, s_subN, s_mulN, s_tn, s_ofn, s_nmin, s_drp, s_tak, s_app, s_len, s_leB, s_add, s_sub, s_mul, s_wr64, s_wr8, bytesE_fold, bytesE_length, bytesE_drop, bytesE_take, bytesE_app, intsE_fold, intsE_length, decide_eq_true_eq, decide_eq_false_iff_not, Nat.mul_one, Nat.zero_add, Nat.add_zero, Bool.not_eq_true', List.length_take, List.length_drop, List.length_append, List.length_cons, List.length_nil, List.drop_zero] <;> omega, by simp (disch := omega) only [hA, OK, s_le, s_inb, s_slb, s_room, s_mks, s_ne0, s_nn, s_eql, s_neq, s_lss, s_leq, s_gtr, s_geq, s_isz, s_bnot, s_beq, s_idx, s_addN, s_subN, s_mulN, s_tn, s_ofn, s_nmin, s_drp, s_tak, s_app, s_len, s_leB, s_add, s_sub, s_mul, s_wr64, s_wr8, bytesE_fold, bytesE_length, bytesE_drop, bytesE_take, bytesE_app, intsE_fold, intsE_length, decide_eq_true_eq, decide_eq_false_iff_not, Nat.mul_one, Nat.zero_add, Nat.add_zero, Bool.not_eq_true', List.length_take, List.length_drop, List.length_append, List.length_cons, List.length_nil, List.drop_zero , hc, e1, e3] <;> omega, by simp (disch := omega) only [hA, OK, s_le, s_inb, s_slb, s_room, s_mks, s_ne0, s_nn, s_eql, s_neq, s_lss, s_leq, s_gtr, s_geq, s_isz, s_bnot, s_beq, s_idx, s_addN, s_subN, s_mulN, s_tn, s_ofn, s_nmin, s_drp, s_tak, s_app, s_len, s_leB, s_add, s_sub, s_mul, s_wr64, s_wr8, bytesE_fold, bytesE_length, bytesE_drop, bytesE_take, bytesE_app, intsE_fold, intsE_length, decide_eq_true_eq, decide_eq_false_iff_not, Nat.mul_one, Nat.zero_add, Nat.add_zero, Bool.not_eq_true', List.length_take, List.length_drop, List.length_append, List.length_cons, List.length_nil, List.drop_zero , hoc] <;> omega, by simp (disch := omega) only [hA, OK, s_le, s_inb, s_slb, s_room, s_mks, s_ne0, s_nn, s_eql, s_neq, s_lss, s_leq, s_gtr, s_geq, s_isz, s_bnot, s_beq, s_idx, s_addN, s_subN, s_mulN, s_tn, s_ofn, s_nmin, s_drp, s_tak, s_app, s_len, s_leB, s_add, s_sub, s_mul, s_wr64, s_wr8, bytesE_fold, bytesE_length, bytesE_drop, bytesE_take, bytesE_app, intsE_fold, intsE_length, decide_eq_true_eq, decide_eq_false_iff_not, Nat.mul_one, Nat.zero_add, Nat.add_zero, Bool.not_eq_true', List.length_take, List.length_drop, List.length_append, List.length_cons, List.length_nil, List.drop_zero] <;> omega, ?_⟩
            refine OKs.mask (msk 136 [0, 1, 2, 3, 10, 11]) (OKs.mv [1] [] (by rw [hρ]; rfl) ⟨by simp, by simp [sizeH], by simp⟩ ?_)
            refine ih _ ⟨_, _, _, out ++ b'.take (x0 + 1), f, rfl, ?_, ?_, ho.app (hab.take _), ?_, ?_, ?_, ?_, ?_⟩ (show (n - (A.ib .add .i64 (A.ib .add .i64 a 1) (A.ib .add .i64 (A.wr .i64 x) 1))).toNat < (n - a).toNat from ?_)
            all_goals (try simp (disch := omega) only [hA, OK, s_le, s_inb, s_slb, s_room, s_mks, s_ne0, s_nn, s_eql, s_neq, s_lss, s_leq, s_gtr, s_geq, s_isz, s_bnot, s_beq, s_idx, s_addN, s_subN, s_mulN, s_tn, s_ofn, s_nmin, s_drp, s_tak, s_app, s_len, s_leB, s_add, s_sub, s_mul, s_wr64, s_wr8, bytesE_fold, bytesE_length, bytesE_drop, bytesE_take, bytesE_app, intsE_fold, intsE_length, decide_eq_true_eq, decide_eq_false_iff_not, Nat.mul_one, Nat.zero_add, Nat.add_zero, Bool.not_eq_true', List.length_take, List.length_drop, List.length_append, List.length_cons, List.length_nil, List.drop_zero , hc, hoc, e1, e3, e4, mvL_bytes])
            all_goals first | omega | exact hr' | (rw [hm', List.take_length, ← hb'])
      · refine runK hA hd hQ 200 trivial ?_
        conv => arg 8; cbv
        try simp only [OK]
        refine ⟨fun h3 => ?_, fun h3 => ?_⟩ <;> simp (disch := omega) only [hA, OK, s_le, s_inb, s_slb, s_room, s_mks, s_ne0, s_nn, s_eql, s_neq, s_lss, s_leq, s_gtr, s_geq, s_isz, s_bnot, s_beq, s_idx, s_addN, s_subN, s_mulN, s_tn, s_ofn, s_nmin, s_drp, s_tak, s_app, s_len, s_leB, s_add, s_sub, s_mul, s_wr64, s_wr8, bytesE_fold, bytesE_length, bytesE_drop, bytesE_take, bytesE_app, intsE_fold, intsE_length, decide_eq_true_eq, decide_eq_false_iff_not, Nat.mul_one, Nat.zero_add, Nat.add_zero, Bool.not_eq_true', List.length_take, List.length_drop, List.length_append, List.length_cons, List.length_nil, List.drop_zero] at h3
        · -- a reference
          have h3' : (decide (how = 2) = true) := by simp [h3]
          refine runK hA hd hQ 200 trivial ?_
          conv => arg 8; cbv
          try simp only [OK]
          refine ⟨fun h4 => ?_, fun h4 => ?_⟩ <;> simp (disch := omega) only [hA, OK, s_le, s_inb, s_slb, s_room, s_mks, s_ne0, s_nn, s_eql, s_neq, s_lss, s_leq, s_gtr, s_geq, s_isz, s_bnot, s_beq, s_idx, s_addN, s_subN, s_mulN, s_tn, s_ofn, s_nmin, s_drp, s_tak, s_app, s_len, s_leB, s_add, s_sub, s_mul, s_wr64, s_wr8, bytesE_fold, bytesE_length, bytesE_drop, bytesE_take, bytesE_app, intsE_fold, intsE_length, decide_eq_true_eq, decide_eq_false_iff_not, Nat.mul_one, Nat.zero_add, Nat.add_zero, Bool.not_eq_true', List.length_take, List.length_drop, List.length_append, List.length_cons, List.length_nil, List.drop_zero] at h4
          · have hr' : R0 = ([], 60) := by rw [← hr, lyL, if_neg (by omega), if_pos h3', if_pos (by omega)]
            refine runK hA hd hQ 200 trivial ?_
            conv => arg 8; cbv
            try simp only [OK]
            refine ⟨_, rfl, .lit (.slice none 0 0), ?_, .inl ⟨rfl, ?_⟩⟩ <;> rw [hr'] <;> rfl
          · refine runK hA hd hQ 200 trivial ?_
            conv => arg 8; cbv
            try simp only [OK]
            refine ⟨fun h5 => ?_, fun h5 => absurd h5 (by simp (disch := omega) only [hA, OK, s_le, s_inb, s_slb, s_room, s_mks, s_ne0, s_nn, s_eql, s_neq, s_lss, s_leq, s_gtr, s_geq, s_isz, s_bnot, s_beq, s_idx, s_addN, s_subN, s_mulN, s_tn, s_ofn, s_nmin, s_drp, s_tak, s_app, s_len, s_leB, s_add, s_sub, s_mul, s_wr64, s_wr8, bytesE_fold, bytesE_length, bytesE_drop, bytesE_take, bytesE_app, intsE_fold, intsE_length, decide_eq_true_eq, decide_eq_false_iff_not, Nat.mul_one, Nat.zero_add, Nat.add_zero, Bool.not_eq_true', List.length_take, List.length_drop, List.length_append, List.length_cons, List.length_nil, List.drop_zero] <;> omega)⟩
            refine runK hA hd hQ 200 trivial ?_
            conv => arg 8; cbv
            try simp only [OK]
            obtain ⟨y, y1, y2⟩ := look_at hc (K + 1) (by omega)
            refine ⟨by simp (disch := omega) only [hA, OK, s_le, s_inb, s_slb, s_room, s_mks, s_ne0, s_nn, s_eql, s_neq, s_lss, s_leq, s_gtr, s_geq, s_isz, s_bnot, s_beq, s_idx, s_addN, s_subN, s_mulN, s_tn, s_ofn, s_nmin, s_drp, s_tak, s_app, s_len, s_leB, s_add, s_sub, s_mul, s_wr64, s_wr8, bytesE_fold, bytesE_length, bytesE_drop, bytesE_take, bytesE_app, intsE_fold, intsE_length, decide_eq_true_eq, decide_eq_false_iff_not, Nat.mul_one, Nat.zero_add, Nat.add_zero, Bool.not_eq_true', List.length_take, List.length_drop, List.length_append, List.length_cons, List.length_nil, List.drop_zero] <;> omega, [.lit (.int .u8 y)], _, rfl, by simp (disch := omega) only [hA, OK, s_le, s_inb, s_slb, s_room, s_mks, s_ne0, s_nn, s_eql, s_neq, s_lss, s_leq, s_gtr, s_geq, s_isz, s_bnot, s_beq, s_idx, s_addN, s_subN, s_mulN, s_tn, s_ofn, s_nmin, s_drp, s_tak, s_app, s_len, s_leB, s_add, s_sub, s_mul, s_wr64, s_wr8, bytesE_fold, bytesE_length, bytesE_drop, bytesE_take, bytesE_app, intsE_fold, intsE_length, decide_eq_true_eq, decide_eq_false_iff_not, Nat.mul_one, Nat.zero_add, Nat.add_zero, Bool.not_eq_true', List.length_take, List.length_drop, List.length_append, List.length_cons, List.length_nil, List.drop_zero , e1] <;> exact y1, rfl, ?_⟩
            rw [← hg0] at y2
            refine runK hA hd hQ 200 trivial ?_
            conv => arg 8; cbv
            try simp only [OK]
            obtain ⟨z, z1, z2⟩ := look_at hc (K + 2) (by omega)
            refine ⟨by simp (disch := omega) only [hA, OK, s_le, s_inb, s_slb, s_room, s_mks, s_ne0, s_nn, s_eql, s_neq, s_lss, s_leq, s_gtr, s_geq, s_isz, s_bnot, s_beq, s_idx, s_addN, s_subN, s_mulN, s_tn, s_ofn, s_nmin, s_drp, s_tak, s_app, s_len, s_leB, s_add, s_sub, s_mul, s_wr64, s_wr8, bytesE_fold, bytesE_length, bytesE_drop, bytesE_take, bytesE_app, intsE_fold, intsE_length, decide_eq_true_eq, decide_eq_false_iff_not, Nat.mul_one, Nat.zero_add, Nat.add_zero, Bool.not_eq_true', List.length_take, List.length_drop, List.length_append, List.length_cons, List.length_nil, List.drop_zero] <;> omega, [.lit (.int .u8 z)], _, rfl, by simp (disch := omega) only [hA, OK, s_le, s_inb, s_slb, s_room, s_mks, s_ne0, s_nn, s_eql, s_neq, s_lss, s_leq, s_gtr, s_geq, s_isz, s_bnot, s_beq, s_idx, s_addN, s_subN, s_mulN, s_tn, s_ofn, s_nmin, s_drp, s_tak, s_app, s_len, s_leB, s_add, s_sub, s_mul, s_wr64, s_wr8, bytesE_fold, bytesE_length, bytesE_drop, bytesE_take, bytesE_app, intsE_fold, intsE_length, decide_eq_true_eq, decide_eq_false_iff_not, Nat.mul_one, Nat.zero_add, Nat.add_zero, Bool.not_eq_true', List.length_take, List.length_drop, List.length_append, List.length_cons, List.length_nil, List.drop_zero , e2] <;> exact z1, rfl, ?_⟩
            rw [← hg1] at z2
            refine runK hA hd hQ 200 trivial ?_
            conv => arg 8; cbv
            try simp only [OK]
            refine ⟨by simp (disch := omega) only [hA, OK, s_le, s_inb, s_slb, s_room, s_mks, s_ne0, s_nn, s_eql, s_neq, s_lss, s_leq, s_gtr, s_geq, s_isz, s_bnot, s_beq, s_idx, s_addN, s_subN, s_mulN, s_tn, s_ofn, s_nmin, s_drp, s_tak, s_app, s_len, s_leB, s_add, s_sub, s_mul, s_wr64, s_wr8, bytesE_fold, bytesE_length, bytesE_drop, bytesE_take, bytesE_app, intsE_fold, intsE_length, decide_eq_true_eq, decide_eq_false_iff_not, Nat.mul_one, Nat.zero_add, Nat.add_zero, Bool.not_eq_true', List.length_take, List.length_drop, List.length_append, List.length_cons, List.length_nil, List.drop_zero] <;> decide, fun h7 => ?_, fun h7 => ?_⟩ <;> simp (disch := omega) only [hA, OK, s_le, s_inb, s_slb, s_room, s_mks, s_ne0, s_nn, s_eql, s_neq, s_lss, s_leq, s_gtr, s_geq, s_isz, s_bnot, s_beq, s_idx, s_addN, s_subN, s_mulN, s_tn, s_ofn, s_nmin, s_drp, s_tak, s_app, s_len, s_leB, s_add, s_sub, s_mul, s_wr64, s_wr8, bytesE_fold, bytesE_length, bytesE_drop, bytesE_take, bytesE_app, intsE_fold, intsE_length, decide_eq_true_eq, decide_eq_false_iff_not, Nat.mul_one, Nat.zero_add, Nat.add_zero, Bool.not_eq_true', List.length_take, List.length_drop, List.length_append, List.length_cons, List.length_nil, List.drop_zero, s_shl8] at h7
            · have hr' : R0 = ([], 63) := by rw [← hr, lyL, if_neg (by omega), if_pos h3', if_neg (by omega), if_pos (by omega)]
              refine runK hA hd hQ 200 trivial ?_
              conv => arg 8; cbv
              try simp only [OK]
              refine ⟨_, rfl, .lit (.slice none 0 0), ?_, .inl ⟨rfl, ?_⟩⟩ <;> rw [hr'] <;> rfl
            · refine runK hA hd hQ 200 trivial ?_
              conv => arg 8; cbv
              try simp only [OK]
              refine ⟨fun h8 => ?_, fun h8 => ?_⟩ <;> simp (disch := omega) only [hA, OK, s_le, s_inb, s_slb, s_room, s_mks, s_ne0, s_nn, s_eql, s_neq, s_lss, s_leq, s_gtr, s_geq, s_isz, s_bnot, s_beq, s_idx, s_addN, s_subN, s_mulN, s_tn, s_ofn, s_nmin, s_drp, s_tak, s_app, s_len, s_leB, s_add, s_sub, s_mul, s_wr64, s_wr8, bytesE_fold, bytesE_length, bytesE_drop, bytesE_take, bytesE_app, intsE_fold, intsE_length, decide_eq_true_eq, decide_eq_false_iff_not, Nat.mul_one, Nat.zero_add, Nat.add_zero, Bool.not_eq_true', List.length_take, List.length_drop, List.length_append, List.length_cons, List.length_nil, List.drop_zero] at h8
              · have hr' : R0 = ([], more) := by rw [← hr, lyL, if_neg (by omega), if_pos h3', if_neg (by omega), if_neg (by omega), if_pos (by omega)]
                refine runK hA hd hQ 200 trivial ?_
                conv => arg 8; cbv
                try simp only [OK]
                refine ⟨_, rfl, .lit (.slice none 0 0), ?_, .inl ⟨rfl, ?_⟩⟩ <;> rw [hr'] <;> rfl
              · refine runK hA hd hQ 200 trivial ?_
                conv => arg 8; cbv
                try simp only [OK]
                obtain ⟨F, hF⟩ : ∃ F, F = out.length - (b'.getD 0 0 + 256 * b'.getD 1 0 + 1) := ⟨_, rfl⟩
                have hr' : lyL (decide (how = 2)) most more f (B.drop (K + 1 + 2)) (cpB (x0 - 124) out F) = R0 := by rw [← hr, lyL, if_neg (by omega), if_pos h3', if_neg (by omega), if_neg (by omega), if_neg (by omega), hF, hb', List.drop_drop]
                refine OKs.mask (msk 136 [0, 1, 2, 3, 10, 11, 13, 14, 15, 16]) ?_
                refine OKs.loop (fun s => ∃ i m2 oc2 outc, s = ⟨mkT 136 [(0, .lit (.int .i64 how)), (1, .isl n none c), (2, .lit (.int .i64 most)), (3, .lit (.int .i64 more)), (10, .sl 1 0 0 m2 none), (11, .lit (.int .i64 (A.ib .add .i64 a 1))), (13, .lit (.int .i64 (A.ib .sub .i64 (A.wr .i64 x) 124))), (14, .lit (.int .i64 2)), (15, .lit (.int .i64 (A.ib .add .i64 (A.ib .add .i64 (A.wr .i64 y) (A.sh .shl .i64 (A.wr .i64 z) 8)) 1))), (16, .lit (.int .i64 i))], [.blk oc2]⟩ ∧ m2 = outc.length ∧ oc2 = bytesE outc ∧ AllB outc ∧ 0 ≤ i ∧ i ≤ x - 124 ∧ outc.length = out.length + i.toNat ∧ cpB (x0 - 124 - i.toNat) outc (F + i.toNat) = cpB (x0 - 124) out F) (fun s => (x - 124 - intN (getT s.t 16)).toNat) (fun s hs ih2 => ?_)
                  ⟨0, _, _, out, rfl, hm', hoc, ho, by omega, by omega, by simp, by simp⟩
                obtain ⟨i, m2, oc2, outc, rfl, hm2, hoc2, ho2, hi0, hi1, hlen, hcp⟩ := hs
                refine runS hA hd hQ 100 trivial ?_
                conv => arg 8; cbv
                try simp only [OK]
                refine ⟨fun h11 => ?_, fun h11 => ?_⟩ <;> simp (disch := omega) only [hA, OK, s_le, s_inb, s_slb, s_room, s_mks, s_ne0, s_nn, s_eql, s_neq, s_lss, s_leq, s_gtr, s_geq, s_isz, s_bnot, s_beq, s_idx, s_addN, s_subN, s_mulN, s_tn, s_ofn, s_nmin, s_drp, s_tak, s_app, s_len, s_leB, s_add, s_sub, s_mul, s_wr64, s_wr8, bytesE_fold, bytesE_length, bytesE_drop, bytesE_take, bytesE_app, intsE_fold, intsE_length, decide_eq_true_eq, decide_eq_false_iff_not, Nat.mul_one, Nat.zero_add, Nat.add_zero, Bool.not_eq_true', List.length_take, List.length_drop, List.length_append, List.length_cons, List.length_nil, List.drop_zero] at h11
                · refine runK hA hd hQ 200 trivial ?_
                  conv => arg 8; cbv
                  try simp only [OK]
                  refine ⟨fun h12 => absurd h12 (by simp (disch := omega) only [hA, OK, s_le, s_inb, s_slb, s_room, s_mks, s_ne0, s_nn, s_eql, s_neq, s_lss, s_leq, s_gtr, s_geq, s_isz, s_bnot, s_beq, s_idx, s_addN, s_subN, s_mulN, s_tn, s_ofn, s_nmin, s_drp, s_tak, s_app, s_len, s_leB, s_add, s_sub, s_mul, s_wr64, s_wr8, bytesE_fold, bytesE_length, bytesE_drop, bytesE_take, bytesE_app, intsE_fold, intsE_length, decide_eq_true_eq, decide_eq_false_iff_not, Nat.mul_one, Nat.zero_add, Nat.add_zero, Bool.not_eq_true', List.length_take, List.length_drop, List.length_append, List.length_cons, List.length_nil, List.drop_zero] <;> omega), fun h12 => ?_⟩
                  refine runK hA hd hQ 200 trivial ?_
                  conv => arg 8; cbv
                  try simp only [OK]
                  have hu3 := ho2.get (F + i.toNat)
                  have e5 : ((m2 : Int) - (y + z * 256 + 1)).toNat = F + i.toNat := by omega
                  obtain ⟨u, u1, u2⟩ := look_at hoc2 (F + i.toNat) (by omega)
                  refine ⟨by simp (disch := omega) only [hA, OK, s_le, s_inb, s_slb, s_room, s_mks, s_ne0, s_nn, s_eql, s_neq, s_lss, s_leq, s_gtr, s_geq, s_isz, s_bnot, s_beq, s_idx, s_addN, s_subN, s_mulN, s_tn, s_ofn, s_nmin, s_drp, s_tak, s_app, s_len, s_leB, s_add, s_sub, s_mul, s_wr64, s_wr8, bytesE_fold, bytesE_length, bytesE_drop, bytesE_take, bytesE_app, intsE_fold, intsE_length, decide_eq_true_eq, decide_eq_false_iff_not, Nat.mul_one, Nat.zero_add, Nat.add_zero, Bool.not_eq_true', List.length_take, List.length_drop, List.length_append, List.length_cons, List.length_nil, List.drop_zero , s_shl8] <;> omega, [.lit (.int .u8 u)], _, rfl, by simp (disch := omega) only [hA, OK, s_le, s_inb, s_slb, s_room, s_mks, s_ne0, s_nn, s_eql, s_neq, s_lss, s_leq, s_gtr, s_geq, s_isz, s_bnot, s_beq, s_idx, s_addN, s_subN, s_mulN, s_tn, s_ofn, s_nmin, s_drp, s_tak, s_app, s_len, s_leB, s_add, s_sub, s_mul, s_wr64, s_wr8, bytesE_fold, bytesE_length, bytesE_drop, bytesE_take, bytesE_app, intsE_fold, intsE_length, decide_eq_true_eq, decide_eq_false_iff_not, Nat.mul_one, Nat.zero_add, Nat.add_zero, Bool.not_eq_true', List.length_take, List.length_drop, List.length_append, List.length_cons, List.length_nil, List.drop_zero , s_shl8, e5] <;> exact u1, rfl, ?_⟩
                  refine runK hA hd hQ 200 trivial ?_
                  conv => arg 8; cbv
                  try simp only [OK]
                  refine ⟨by simp (disch := omega) only [hA, OK, s_le, s_inb, s_slb, s_room, s_mks, s_ne0, s_nn, s_eql, s_neq, s_lss, s_leq, s_gtr, s_geq, s_isz, s_bnot, s_beq, s_idx, s_addN, s_subN, s_mulN, s_tn, s_ofn, s_nmin, s_drp, s_tak, s_app, s_len, s_leB, s_add, s_sub, s_mul, s_wr64, s_wr8, bytesE_fold, bytesE_length, bytesE_drop, bytesE_take, bytesE_app, intsE_fold, intsE_length, decide_eq_true_eq, decide_eq_false_iff_not, Nat.mul_one, Nat.zero_add, Nat.add_zero, Bool.not_eq_true', List.length_take, List.length_drop, List.length_append, List.length_cons, List.length_nil, List.drop_zero] <;> decide, by simp (disch := omega) only [hA, OK, s_le, s_inb, s_slb, s_room, s_mks, s_ne0, s_nn, s_eql, s_neq, s_lss, s_leq, s_gtr, s_geq, s_isz, s_bnot, s_beq, s_idx, s_addN, s_subN, s_mulN, s_tn, s_ofn, s_nmin, s_drp, s_tak, s_app, s_len, s_leB, s_add, s_sub, s_mul, s_wr64, s_wr8, bytesE_fold, bytesE_length, bytesE_drop, bytesE_take, bytesE_app, intsE_fold, intsE_length, decide_eq_true_eq, decide_eq_false_iff_not, Nat.mul_one, Nat.zero_add, Nat.add_zero, Bool.not_eq_true', List.length_take, List.length_drop, List.length_append, List.length_cons, List.length_nil, List.drop_zero , hoc2] <;> omega, by simp (disch := omega) only [hA, OK, s_le, s_inb, s_slb, s_room, s_mks, s_ne0, s_nn, s_eql, s_neq, s_lss, s_leq, s_gtr, s_geq, s_isz, s_bnot, s_beq, s_idx, s_addN, s_subN, s_mulN, s_tn, s_ofn, s_nmin, s_drp, s_tak, s_app, s_len, s_leB, s_add, s_sub, s_mul, s_wr64, s_wr8, bytesE_fold, bytesE_length, bytesE_drop, bytesE_take, bytesE_app, intsE_fold, intsE_length, decide_eq_true_eq, decide_eq_false_iff_not, Nat.mul_one, Nat.zero_add, Nat.add_zero, Bool.not_eq_true', List.length_take, List.length_drop, List.length_append, List.length_cons, List.length_nil, List.drop_zero] <;> omega, ?_⟩
                  refine OKs.mask (msk 136 [0, 1, 2, 3, 10, 11, 13, 14, 15, 16]) (OKs.mv [2] [] (by rw [hρ]; rfl) ⟨by simp, by simp [sizeH], by simp⟩ ?_)
                  obtain ⟨k, hk⟩ : ∃ k, x0 - 124 - i.toNat = k + 1 := ⟨x0 - 124 - i.toNat - 1, by omega⟩
                  rw [hk, cpB] at hcp
                  refine ih2 _ ⟨_, _, _, outc ++ [outc.getD (F + i.toNat) 0], rfl, ?_, ?_, ho2.app (AllB.one hu3), ?_, ?_, ?_, ?_⟩ (show (x - 124 - (A.ib .add .i64 i 1)).toNat < (x - 124 - i).toNat from ?_)
                  all_goals (try simp (disch := omega) only [hA, OK, s_le, s_inb, s_slb, s_room, s_mks, s_ne0, s_nn, s_eql, s_neq, s_lss, s_leq, s_gtr, s_geq, s_isz, s_bnot, s_beq, s_idx, s_addN, s_subN, s_mulN, s_tn, s_ofn, s_nmin, s_drp, s_tak, s_app, s_len, s_leB, s_add, s_sub, s_mul, s_wr64, s_wr8, bytesE_fold, bytesE_length, bytesE_drop, bytesE_take, bytesE_app, intsE_fold, intsE_length, decide_eq_true_eq, decide_eq_false_iff_not, Nat.mul_one, Nat.zero_add, Nat.add_zero, Bool.not_eq_true', List.length_take, List.length_drop, List.length_append, List.length_cons, List.length_nil, List.drop_zero , hoc2, u2, bytesE_one, mvL_bytes])
                  all_goals first | omega | skip
                  · rw [hm2, List.take_length]; rfl
                  · rw [show (i + 1).toNat = i.toNat + 1 by omega, show x0 - 124 - (i.toNat + 1) = k by omega, ← Nat.add_assoc]; exact hcp
                · refine runK hA hd hQ 200 trivial ?_
                  conv => arg 8; cbv
                  try simp only [OK]
                  refine OKs.mask (msk 136 [0, 1, 2, 3, 10, 11]) ?_
                  have hcp' : outc = cpB (x0 - 124) out F := by rw [← hcp, show x0 - 124 - i.toNat = 0 by omega]; rfl
                  have hcl := cpB_length (x0 - 124) out F
                  rw [← hcp'] at hcl hr'
                  have e6 : (a + 1 + 2).toNat = K + 1 + 2 := by omega
                  refine ih _ ⟨_, _, _, outc, f, rfl, hm2, hoc2, ho2, ?_, ?_, ?_, ?_, ?_⟩ (show (n - (A.ib .add .i64 (A.ib .add .i64 a 1) 2)).toNat < (n - a).toNat from ?_)
                  all_goals (try simp (disch := omega) only [hA, OK, s_le, s_inb, s_slb, s_room, s_mks, s_ne0, s_nn, s_eql, s_neq, s_lss, s_leq, s_gtr, s_geq, s_isz, s_bnot, s_beq, s_idx, s_addN, s_subN, s_mulN, s_tn, s_ofn, s_nmin, s_drp, s_tak, s_app, s_len, s_leB, s_add, s_sub, s_mul, s_wr64, s_wr8, bytesE_fold, bytesE_length, bytesE_drop, bytesE_take, bytesE_app, intsE_fold, intsE_length, decide_eq_true_eq, decide_eq_false_iff_not, Nat.mul_one, Nat.zero_add, Nat.add_zero, Bool.not_eq_true', List.length_take, List.length_drop, List.length_append, List.length_cons, List.length_nil, List.drop_zero , e6])
                  all_goals first | omega | exact hr'
        · -- a run
          have h3' : ¬ (decide (how = 2) = true) := by simp [h3]
          refine runK hA hd hQ 200 trivial ?_
          conv => arg 8; cbv
          try simp only [OK]
          refine ⟨fun h4 => ?_, fun h4 => ?_⟩ <;> simp (disch := omega) only [hA, OK, s_le, s_inb, s_slb, s_room, s_mks, s_ne0, s_nn, s_eql, s_neq, s_lss, s_leq, s_gtr, s_geq, s_isz, s_bnot, s_beq, s_idx, s_addN, s_subN, s_mulN, s_tn, s_ofn, s_nmin, s_drp, s_tak, s_app, s_len, s_leB, s_add, s_sub, s_mul, s_wr64, s_wr8, bytesE_fold, bytesE_length, bytesE_drop, bytesE_take, bytesE_app, intsE_fold, intsE_length, decide_eq_true_eq, decide_eq_false_iff_not, Nat.mul_one, Nat.zero_add, Nat.add_zero, Bool.not_eq_true', List.length_take, List.length_drop, List.length_append, List.length_cons, List.length_nil, List.drop_zero] at h4
          · have hr' : R0 = ([], 60) := by rw [← hr, lyL, if_neg (by omega), if_neg h3', if_pos (by omega)]
            refine runK hA hd hQ 200 trivial ?_
            conv => arg 8; cbv
            try simp only [OK]
            refine ⟨_, rfl, .lit (.slice none 0 0), ?_, .inl ⟨rfl, ?_⟩⟩ <;> rw [hr'] <;> rfl
          · refine runK hA hd hQ 200 trivial ?_
            conv => arg 8; cbv
            try simp only [OK]
            refine ⟨fun h5 => absurd h5 (by simp (disch := omega) only [hA, OK, s_le, s_inb, s_slb, s_room, s_mks, s_ne0, s_nn, s_eql, s_neq, s_lss, s_leq, s_gtr, s_geq, s_isz, s_bnot, s_beq, s_idx, s_addN, s_subN, s_mulN, s_tn, s_ofn, s_nmin, s_drp, s_tak, s_app, s_len, s_leB, s_add, s_sub, s_mul, s_wr64, s_wr8, bytesE_fold, bytesE_length, bytesE_drop, bytesE_take, bytesE_app, intsE_fold, intsE_length, decide_eq_true_eq, decide_eq_false_iff_not, Nat.mul_one, Nat.zero_add, Nat.add_zero, Bool.not_eq_true', List.length_take, List.length_drop, List.length_append, List.length_cons, List.length_nil, List.drop_zero] <;> omega), fun h5 => ?_⟩
            refine runK hA hd hQ 200 trivial ?_
            conv => arg 8; cbv
            try simp only [OK]
            refine ⟨fun h8 => ?_, fun h8 => ?_⟩ <;> simp (disch := omega) only [hA, OK, s_le, s_inb, s_slb, s_room, s_mks, s_ne0, s_nn, s_eql, s_neq, s_lss, s_leq, s_gtr, s_geq, s_isz, s_bnot, s_beq, s_idx, s_addN, s_subN, s_mulN, s_tn, s_ofn, s_nmin, s_drp, s_tak, s_app, s_len, s_leB, s_add, s_sub, s_mul, s_wr64, s_wr8, bytesE_fold, bytesE_length, bytesE_drop, bytesE_take, bytesE_app, intsE_fold, intsE_length, decide_eq_true_eq, decide_eq_false_iff_not, Nat.mul_one, Nat.zero_add, Nat.add_zero, Bool.not_eq_true', List.length_take, List.length_drop, List.length_append, List.length_cons, List.length_nil, List.drop_zero] at h8
            · have hr' : R0 = ([], more) := by rw [← hr, lyL, if_neg (by omega), if_neg h3', if_neg (by omega), if_pos (by omega)]
              refine runK hA hd hQ 200 trivial ?_
              conv => arg 8; cbv
              try simp only [OK]
              refine ⟨_, rfl, .lit (.slice none 0 0), ?_, .inl ⟨rfl, ?_⟩⟩ <;> rw [hr'] <;> rfl
            · refine runK hA hd hQ 200 trivial ?_
              conv => arg 8; cbv
              try simp only [OK]
              have hr' : lyL (decide (how = 2)) most more f (B.drop (K + 1 + 1)) (out ++ List.replicate (x0 - 125) (b'.getD 0 0)) = R0 := by rw [← hr, lyL, if_neg (by omega), if_neg h3', if_neg (by omega), if_neg (by omega), hb', List.drop_drop]
              refine OKs.mask (msk 136 [0, 1, 2, 3, 10, 11, 13, 14, 15, 16]) ?_
              refine OKs.loop (fun s => ∃ i m2 oc2 outc, s = ⟨mkT 136 [(0, .lit (.int .i64 how)), (1, .isl n none c), (2, .lit (.int .i64 most)), (3, .lit (.int .i64 more)), (10, .sl 1 0 0 m2 none), (11, .lit (.int .i64 (A.ib .add .i64 a 1))), (13, .lit (.int .i64 (A.ib .sub .i64 (A.wr .i64 x) 125))), (14, .lit (.int .i64 1)), (15, .lit (.int .i64 (0))), (16, .lit (.int .i64 i))], [.blk oc2]⟩ ∧ m2 = outc.length ∧ oc2 = bytesE outc ∧ AllB outc ∧ 0 ≤ i ∧ i ≤ x - 125 ∧ outc = out ++ List.replicate i.toNat (b'.getD 0 0)) (fun s => (x - 125 - intN (getT s.t 16)).toNat) (fun s hs ih2 => ?_)
                ⟨0, _, _, out, rfl, hm', hoc, ho, by omega, by omega, by simp⟩
              obtain ⟨i, m2, oc2, outc, rfl, hm2, hoc2, ho2, hi0, hi1, hout⟩ := hs
              have hlen := congrArg List.length hout
              simp only [List.length_append, List.length_replicate] at hlen
              refine runS hA hd hQ 100 trivial ?_
              conv => arg 8; cbv
              try simp only [OK]
              refine ⟨fun h11 => ?_, fun h11 => ?_⟩ <;> simp (disch := omega) only [hA, OK, s_le, s_inb, s_slb, s_room, s_mks, s_ne0, s_nn, s_eql, s_neq, s_lss, s_leq, s_gtr, s_geq, s_isz, s_bnot, s_beq, s_idx, s_addN, s_subN, s_mulN, s_tn, s_ofn, s_nmin, s_drp, s_tak, s_app, s_len, s_leB, s_add, s_sub, s_mul, s_wr64, s_wr8, bytesE_fold, bytesE_length, bytesE_drop, bytesE_take, bytesE_app, intsE_fold, intsE_length, decide_eq_true_eq, decide_eq_false_iff_not, Nat.mul_one, Nat.zero_add, Nat.add_zero, Bool.not_eq_true', List.length_take, List.length_drop, List.length_append, List.length_cons, List.length_nil, List.drop_zero] at h11
              · refine runK hA hd hQ 200 trivial ?_
                conv => arg 8; cbv
                try simp only [OK]
                refine ⟨fun h12 => ?_, fun h12 => absurd h12 (by simp (disch := omega) only [hA, OK, s_le, s_inb, s_slb, s_room, s_mks, s_ne0, s_nn, s_eql, s_neq, s_lss, s_leq, s_gtr, s_geq, s_isz, s_bnot, s_beq, s_idx, s_addN, s_subN, s_mulN, s_tn, s_ofn, s_nmin, s_drp, s_tak, s_app, s_len, s_leB, s_add, s_sub, s_mul, s_wr64, s_wr8, bytesE_fold, bytesE_length, bytesE_drop, bytesE_take, bytesE_app, intsE_fold, intsE_length, decide_eq_true_eq, decide_eq_false_iff_not, Nat.mul_one, Nat.zero_add, Nat.add_zero, Bool.not_eq_true', List.length_take, List.length_drop, List.length_append, List.length_cons, List.length_nil, List.drop_zero] <;> omega)⟩
                refine runK hA hd hQ 200 trivial ?_
                conv => arg 8; cbv
                try simp only [OK]
                obtain ⟨u, u1, u2⟩ := look_at hc (K + 1) (by omega)
                refine ⟨by simp (disch := omega) only [hA, OK, s_le, s_inb, s_slb, s_room, s_mks, s_ne0, s_nn, s_eql, s_neq, s_lss, s_leq, s_gtr, s_geq, s_isz, s_bnot, s_beq, s_idx, s_addN, s_subN, s_mulN, s_tn, s_ofn, s_nmin, s_drp, s_tak, s_app, s_len, s_leB, s_add, s_sub, s_mul, s_wr64, s_wr8, bytesE_fold, bytesE_length, bytesE_drop, bytesE_take, bytesE_app, intsE_fold, intsE_length, decide_eq_true_eq, decide_eq_false_iff_not, Nat.mul_one, Nat.zero_add, Nat.add_zero, Bool.not_eq_true', List.length_take, List.length_drop, List.length_append, List.length_cons, List.length_nil, List.drop_zero] <;> omega, [.lit (.int .u8 u)], _, rfl, by simp (disch := omega) only [hA, OK, s_le, s_inb, s_slb, s_room, s_mks, s_ne0, s_nn, s_eql, s_neq, s_lss, s_leq, s_gtr, s_geq, s_isz, s_bnot, s_beq, s_idx, s_addN, s_subN, s_mulN, s_tn, s_ofn, s_nmin, s_drp, s_tak, s_app, s_len, s_leB, s_add, s_sub, s_mul, s_wr64, s_wr8, bytesE_fold, bytesE_length, bytesE_drop, bytesE_take, bytesE_app, intsE_fold, intsE_length, decide_eq_true_eq, decide_eq_false_iff_not, Nat.mul_one, Nat.zero_add, Nat.add_zero, Bool.not_eq_true', List.length_take, List.length_drop, List.length_append, List.length_cons, List.length_nil, List.drop_zero , e1] <;> exact u1, rfl, ?_⟩
                rw [← hg0] at u2
                refine runK hA hd hQ 200 trivial ?_
                conv => arg 8; cbv
                try simp only [OK]
                refine ⟨by simp (disch := omega) only [hA, OK, s_le, s_inb, s_slb, s_room, s_mks, s_ne0, s_nn, s_eql, s_neq, s_lss, s_leq, s_gtr, s_geq, s_isz, s_bnot, s_beq, s_idx, s_addN, s_subN, s_mulN, s_tn, s_ofn, s_nmin, s_drp, s_tak, s_app, s_len, s_leB, s_add, s_sub, s_mul, s_wr64, s_wr8, bytesE_fold, bytesE_length, bytesE_drop, bytesE_take, bytesE_app, intsE_fold, intsE_length, decide_eq_true_eq, decide_eq_false_iff_not, Nat.mul_one, Nat.zero_add, Nat.add_zero, Bool.not_eq_true', List.length_take, List.length_drop, List.length_append, List.length_cons, List.length_nil, List.drop_zero] <;> decide, by simp (disch := omega) only [hA, OK, s_le, s_inb, s_slb, s_room, s_mks, s_ne0, s_nn, s_eql, s_neq, s_lss, s_leq, s_gtr, s_geq, s_isz, s_bnot, s_beq, s_idx, s_addN, s_subN, s_mulN, s_tn, s_ofn, s_nmin, s_drp, s_tak, s_app, s_len, s_leB, s_add, s_sub, s_mul, s_wr64, s_wr8, bytesE_fold, bytesE_length, bytesE_drop, bytesE_take, bytesE_app, intsE_fold, intsE_length, decide_eq_true_eq, decide_eq_false_iff_not, Nat.mul_one, Nat.zero_add, Nat.add_zero, Bool.not_eq_true', List.length_take, List.length_drop, List.length_append, List.length_cons, List.length_nil, List.drop_zero , hoc2] <;> omega, by simp (disch := omega) only [hA, OK, s_le, s_inb, s_slb, s_room, s_mks, s_ne0, s_nn, s_eql, s_neq, s_lss, s_leq, s_gtr, s_geq, s_isz, s_bnot, s_beq, s_idx, s_addN, s_subN, s_mulN, s_tn, s_ofn, s_nmin, s_drp, s_tak, s_app, s_len, s_leB, s_add, s_sub, s_mul, s_wr64, s_wr8, bytesE_fold, bytesE_length, bytesE_drop, bytesE_take, bytesE_app, intsE_fold, intsE_length, decide_eq_true_eq, decide_eq_false_iff_not, Nat.mul_one, Nat.zero_add, Nat.add_zero, Bool.not_eq_true', List.length_take, List.length_drop, List.length_append, List.length_cons, List.length_nil, List.drop_zero] <;> omega, ?_⟩
                refine OKs.mask (msk 136 [0, 1, 2, 3, 10, 11, 13, 14, 15, 16]) (OKs.mv [2] [] (by rw [hρ]; rfl) ⟨by simp, by simp [sizeH], by simp⟩ ?_)
                refine ih2 _ ⟨_, _, _, outc ++ [b'.getD 0 0], rfl, ?_, ?_, ho2.app (AllB.one hy0), ?_, ?_, ?_⟩ (show (x - 125 - (A.ib .add .i64 i 1)).toNat < (x - 125 - i).toNat from ?_)
                all_goals (try simp (disch := omega) only [hA, OK, s_le, s_inb, s_slb, s_room, s_mks, s_ne0, s_nn, s_eql, s_neq, s_lss, s_leq, s_gtr, s_geq, s_isz, s_bnot, s_beq, s_idx, s_addN, s_subN, s_mulN, s_tn, s_ofn, s_nmin, s_drp, s_tak, s_app, s_len, s_leB, s_add, s_sub, s_mul, s_wr64, s_wr8, bytesE_fold, bytesE_length, bytesE_drop, bytesE_take, bytesE_app, intsE_fold, intsE_length, decide_eq_true_eq, decide_eq_false_iff_not, Nat.mul_one, Nat.zero_add, Nat.add_zero, Bool.not_eq_true', List.length_take, List.length_drop, List.length_append, List.length_cons, List.length_nil, List.drop_zero , hoc2, u2, bytesE_one, mvL_bytes])
                all_goals first | omega | skip
                · rw [hm2, List.take_length]; rfl
                · rw [show (i + 1).toNat = i.toNat + 1 by omega, List.replicate_succ', ← List.append_assoc, ← hout]
              · refine runK hA hd hQ 200 trivial ?_
                conv => arg 8; cbv
                try simp only [OK]
                refine OKs.mask (msk 136 [0, 1, 2, 3, 10, 11]) ?_
                have hcp' : outc = out ++ List.replicate (x0 - 125) (b'.getD 0 0) := by rw [hout, show i.toNat = x0 - 125 by omega]
                rw [← hcp'] at hr'
                have e6 : (a + 1 + 1).toNat = K + 1 + 1 := by omega
                refine ih _ ⟨_, _, _, outc, f, rfl, hm2, hoc2, ho2, ?_, ?_, ?_, ?_, ?_⟩ (show (n - (A.ib .add .i64 (A.ib .add .i64 a 1) 1)).toNat < (n - a).toNat from ?_)
                all_goals (try simp (disch := omega) only [hA, OK, s_le, s_inb, s_slb, s_room, s_mks, s_ne0, s_nn, s_eql, s_neq, s_lss, s_leq, s_gtr, s_geq, s_isz, s_bnot, s_beq, s_idx, s_addN, s_subN, s_mulN, s_tn, s_ofn, s_nmin, s_drp, s_tak, s_app, s_len, s_leB, s_add, s_sub, s_mul, s_wr64, s_wr8, bytesE_fold, bytesE_length, bytesE_drop, bytesE_take, bytesE_app, intsE_fold, intsE_length, decide_eq_true_eq, decide_eq_false_iff_not, Nat.mul_one, Nat.zero_add, Nat.add_zero, Bool.not_eq_true', List.length_take, List.length_drop, List.length_append, List.length_cons, List.length_nil, List.drop_zero , e6])
                all_goals first | omega | exact hr'
    · refine runK hA hd hQ 200 trivial ?_
      conv => arg 8; cbv
      try simp only [OK]
      have hr' : R0 = (out, 0) := by
        rw [← hr, List.drop_eq_nil_of_le (by omega)]; cases fuel <;> rfl
      refine ⟨_, rfl, .sl 1 0 0 m none, ?_, .inr ⟨0, none, ?_, ?_⟩⟩ <;> rw [hr']
      · rfl
      · rw [hm']
      · rw [← hoc]; rfl

end Go.Proofs.Ytplibngmgebigaa.Press
