/- Pr10: literals laid out. No conditions beyond those written. -/
import Derived.Test.YtplibngmgebigaaPr9
set_option linter.unusedVariables false
set_option linter.unusedSimpArgs false
namespace Go.Proofs.Ytplibngmgebigaa.Press
open Go Go.Proofs.Ytplibngmgebigaa Go.Proofs.Ytplibngmgebigaa.Em

/-- the bytes of a place up to another, as literals of 128 at most -/
def layF (b : List Nat) : Nat → Nat → Nat → List Nat → List Nat
  | 0, _, _, out => out
  | f + 1, fr, to, out => if fr < to then layF b f (fr + min (to - fr) 128) to (out ++ (min (to - fr) 128 - 1) :: (b.drop fr).take (min (to - fr) 128)) else out

theorem layF_stop (b : List Nat) (f fr to : Nat) (out : List Nat) (h : ¬ fr < to) : layF b f fr to out = out := by
  cases f with
  | zero => rfl
  | succ f => rw [layF, if_neg h]

theorem layF_length (b : List Nat) : ∀ (f fr to : Nat) (out : List Nat), (layF b f fr to out).length ≤ out.length + 2 * (to - fr)
  | 0, _, _, _ => by simp [layF]
  | f + 1, fr, to, out => by
    simp only [layF]
    split
    · have := layF_length b f (fr + min (to - fr) 128) to (out ++ (min (to - fr) 128 - 1) :: (b.drop fr).take (min (to - fr) 128))
      simp only [List.length_append, List.length_cons, List.length_take] at this
      omega
    · omega

theorem layF_all (b : List Nat) (hb : AllB b) : ∀ (f fr to : Nat) (out : List Nat), AllB out → AllB (layF b f fr to out)
  | 0, _, _, _, h => h
  | f + 1, fr, to, out, h => by
    simp only [layF]
    split
    · refine layF_all b hb f _ _ _ (h.app fun y hy => ?_)
      rcases List.mem_cons.1 hy with rfl | hy
      · omega
      · exact (hb.drop _).take _ y hy
    · exact h


set_option maxHeartbeats 2000000 in
theorem lay_nil (b : List Nat) (hb : AllB b) (hl : b.length ≤ 65536) (N : Nat) (c : List EV) (hN : N = b.length) (hc : c = bytesE b) (fr0 tz : Int) (hfr : 0 ≤ fr0 ∧ fr0 ≤ N) (htz : 0 ≤ tz ∧ tz ≤ N) (hbd : ([] : List Nat).length + 2 * (tz.toNat - fr0.toNat) ≤ 1000000) :
    Tri Try.prog [] 27 [.lit (.int .i64 tz), .ptr 2 0, .ptr 1 0, .ptr 0 0] [.blk [.isl N none c], .blk [.lit (.slice none 0 0)], .blk [.lit (.int .i64 fr0)]] fun v h => v = .tup [] ∧ (((layF b (tz.toNat - fr0.toNat) fr0.toNat tz.toNat []) = [] ∧ ∃ fr', h = [.blk [.isl N none c], .blk [.lit (.slice none 0 0)], .blk [.lit (.int .i64 fr')]]) ∨
      (∃ m oc fr', h = [.blk [.isl N none c], .blk [.sl 1 3 0 m none], .blk [.lit (.int .i64 fr')], .blk oc] ∧ m = (layF b (tz.toNat - fr0.toNat) fr0.toNat tz.toNat []).length ∧ oc = bytesE (layF b (tz.toNat - fr0.toNat) fr0.toNat tz.toNat []) ∧ (layF b (tz.toNat - fr0.toNat) fr0.toNat tz.toNat []) ≠ [])) := by
  refine Tri_of F27_ok fun I0 ρ0 w0 Q hρ hQ => ?_
  obtain ⟨A, hA⟩ : ∃ A, A = stdA := ⟨_, rfl⟩
  obtain ⟨R0, hR0⟩ : ∃ r, r = layF b (tz.toNat - fr0.toNat) fr0.toNat tz.toNat [] := ⟨_, rfl⟩
  rw [← hR0] at hQ
  with_reducible refine runS hA hd hQ 20 ?hk ?_
  case hk => exact trivial
  conv => arg 8; cbv
  try simp only [OK]
  refine OKs.mask (msk 30 [0, 1, 2, 3]) ?_
  refine OKs.loop (fun s => ∃ fr out f, ((s = ⟨mkT 30 [(0, .lit (.int .i64 tz)), (1, .ptr 2 0), (2, .ptr 1 0), (3, .ptr 0 0)], [.blk [.isl N none c], .blk [.lit (.slice none 0 0)], .blk [.lit (.int .i64 fr)]]⟩ ∧ out = []) ∨ False ∨ ∃ m oc, s = ⟨mkT 30 [(0, .lit (.int .i64 tz)), (1, .ptr 2 0), (2, .ptr 1 0), (3, .ptr 0 0)], [.blk [.isl N none c], .blk [.sl 1 3 0 m none], .blk [.lit (.int .i64 fr)], .blk oc]⟩ ∧ m = out.length ∧ oc = bytesE out ∧ out ≠ []) ∧
      0 ≤ fr ∧ fr ≤ N ∧ out.length + 2 * (tz.toNat - fr.toNat) ≤ 1000000 ∧ tz.toNat - fr.toNat ≤ f ∧ layF b f fr.toNat tz.toNat out = R0) (fun s => (tz - intN (match getH s.h 2 with | .blk (x :: _) => x | _ => .top)).toNat) (fun s hs ih => ?_)
    ⟨fr0, [], tz.toNat - fr0.toNat, .inl ⟨rfl, rfl⟩, by omega, by omega, hbd, by omega, hR0.symm⟩
  obtain ⟨fr, out, f, hst, hf0, hf1, hbd1, hf, hr⟩ := hs
  rcases hst with ⟨rfl, rfl⟩ | hff | ⟨m, oc, rfl, hm', hoc, hne⟩
  · with_reducible refine runS hA hd hQ 200 ?hk ?_
    case hk => exact trivial
    conv => arg 8; cbv
    try simp only [OK]
    refine ⟨fun h1 => ?_, fun h1 => ?_⟩ <;> simp (disch := omega) only [hA, OK, s_le, s_inb, s_slb, s_room, s_mks, s_ne0, s_nn, s_eql, s_neq, s_lss, s_leq, s_gtr, s_geq, s_isz, s_bnot, s_beq, s_idx, s_addN, s_subN, s_mulN, s_tn, s_ofn, s_nmin, s_drp, s_tak, s_app, s_len, s_leB, s_add, s_sub, s_mul, s_wr64, s_wr8, bytesE_fold, bytesE_length, bytesE_drop, bytesE_take, bytesE_app, intsE_fold, intsE_length, decide_eq_true_eq, decide_eq_false_iff_not, Nat.mul_one, Nat.zero_add, Nat.add_zero, Bool.not_eq_true', List.length_take, List.length_drop, List.length_append, List.length_cons, List.length_nil, List.drop_zero] at h1
    · with_reducible refine runK hA hd hQ 300 ?hk ?_
      case hk => exact trivial
      conv => arg 8; cbv
      try simp only [OK]
      obtain ⟨g, rfl⟩ : ∃ g, f = g + 1 := ⟨f - 1, by omega⟩
      rw [layF, if_pos (by omega)] at hr
      obtain ⟨k, hk⟩ : ∃ k, k = min (tz.toNat - fr.toNat) 128 := ⟨_, rfl⟩
      rw [← hk] at hr
      have e1 : (if (128 : Int) < tz - fr then (128 : Int) else tz - fr) = (k : Int) := by split <;> omega
      have e2 : ((k : Int) - 1) = ((k - 1 : Nat) : Int) := by omega
      have e3 : (fr + (k : Int)).toNat - fr.toNat = k := by omega
      have e4 : (fr + (k : Int)).toNat = fr.toNat + k := by omega
      refine ⟨by simp (disch := omega) only [hA, OK, s_le, s_inb, s_slb, s_room, s_mks, s_ne0, s_nn, s_eql, s_neq, s_lss, s_leq, s_gtr, s_geq, s_isz, s_bnot, s_beq, s_idx, s_addN, s_subN, s_mulN, s_tn, s_ofn, s_nmin, s_drp, s_tak, s_app, s_len, s_leB, s_add, s_sub, s_mul, s_wr64, s_wr8, bytesE_fold, bytesE_length, bytesE_drop, bytesE_take, bytesE_app, intsE_fold, intsE_length, decide_eq_true_eq, decide_eq_false_iff_not, Nat.mul_one, Nat.zero_add, Nat.add_zero, Bool.not_eq_true', List.length_take, List.length_drop, List.length_append, List.length_cons, List.length_nil, List.drop_zero] <;> decide, by simp (disch := omega) only [hA, OK, s_le, s_inb, s_slb, s_room, s_mks, s_ne0, s_nn, s_eql, s_neq, s_lss, s_leq, s_gtr, s_geq, s_isz, s_bnot, s_beq, s_idx, s_addN, s_subN, s_mulN, s_tn, s_ofn, s_nmin, s_drp, s_tak, s_app, s_len, s_leB, s_add, s_sub, s_mul, s_wr64, s_wr8, bytesE_fold, bytesE_length, bytesE_drop, bytesE_take, bytesE_app, intsE_fold, intsE_length, decide_eq_true_eq, decide_eq_false_iff_not, Nat.mul_one, Nat.zero_add, Nat.add_zero, Bool.not_eq_true', List.length_take, List.length_drop, List.length_append, List.length_cons, List.length_nil, List.drop_zero] <;> omega, fun h2 => absurd h2 (by simp (disch := omega) only [hA, OK, s_le, s_inb, s_slb, s_room, s_mks, s_ne0, s_nn, s_eql, s_neq, s_lss, s_leq, s_gtr, s_geq, s_isz, s_bnot, s_beq, s_idx, s_addN, s_subN, s_mulN, s_tn, s_ofn, s_nmin, s_drp, s_tak, s_app, s_len, s_leB, s_add, s_sub, s_mul, s_wr64, s_wr8, bytesE_fold, bytesE_length, bytesE_drop, bytesE_take, bytesE_app, intsE_fold, intsE_length, decide_eq_true_eq, decide_eq_false_iff_not, Nat.mul_one, Nat.zero_add, Nat.add_zero, Bool.not_eq_true', List.length_take, List.length_drop, List.length_append, List.length_cons, List.length_nil, List.drop_zero] <;> omega), fun h2 => ?_⟩
      with_reducible refine runK hA hd hQ 300 ?hk ?_
      case hk => exact trivial
      conv => arg 8; cbv
      try simp only [OK]
      refine ⟨by simp (disch := omega) only [hA, OK, s_le, s_inb, s_slb, s_room, s_mks, s_ne0, s_nn, s_eql, s_neq, s_lss, s_leq, s_gtr, s_geq, s_isz, s_bnot, s_beq, s_idx, s_addN, s_subN, s_mulN, s_tn, s_ofn, s_nmin, s_drp, s_tak, s_app, s_len, s_leB, s_add, s_sub, s_mul, s_wr64, s_wr8, bytesE_fold, bytesE_length, bytesE_drop, bytesE_take, bytesE_app, intsE_fold, intsE_length, decide_eq_true_eq, decide_eq_false_iff_not, Nat.mul_one, Nat.zero_add, Nat.add_zero, Bool.not_eq_true', List.length_take, List.length_drop, List.length_append, List.length_cons, List.length_nil, List.drop_zero , s_imin, e1, e3, hc] <;> omega, by simp (disch := omega) only [hA, OK, s_le, s_inb, s_slb, s_room, s_mks, s_ne0, s_nn, s_eql, s_neq, s_lss, s_leq, s_gtr, s_geq, s_isz, s_bnot, s_beq, s_idx, s_addN, s_subN, s_mulN, s_tn, s_ofn, s_nmin, s_drp, s_tak, s_app, s_len, s_leB, s_add, s_sub, s_mul, s_wr64, s_wr8, bytesE_fold, bytesE_length, bytesE_drop, bytesE_take, bytesE_app, intsE_fold, intsE_length, decide_eq_true_eq, decide_eq_false_iff_not, Nat.mul_one, Nat.zero_add, Nat.add_zero, Bool.not_eq_true', List.length_take, List.length_drop, List.length_append, List.length_cons, List.length_nil, List.drop_zero , s_imin, e1, e3, hc] <;> omega, by simp (disch := omega) only [hA, OK, s_le, s_inb, s_slb, s_room, s_mks, s_ne0, s_nn, s_eql, s_neq, s_lss, s_leq, s_gtr, s_geq, s_isz, s_bnot, s_beq, s_idx, s_addN, s_subN, s_mulN, s_tn, s_ofn, s_nmin, s_drp, s_tak, s_app, s_len, s_leB, s_add, s_sub, s_mul, s_wr64, s_wr8, bytesE_fold, bytesE_length, bytesE_drop, bytesE_take, bytesE_app, intsE_fold, intsE_length, decide_eq_true_eq, decide_eq_false_iff_not, Nat.mul_one, Nat.zero_add, Nat.add_zero, Bool.not_eq_true', List.length_take, List.length_drop, List.length_append, List.length_cons, List.length_nil, List.drop_zero , s_imin, e1, e3, hc] <;> omega, by simp (disch := omega) only [hA, OK, s_le, s_inb, s_slb, s_room, s_mks, s_ne0, s_nn, s_eql, s_neq, s_lss, s_leq, s_gtr, s_geq, s_isz, s_bnot, s_beq, s_idx, s_addN, s_subN, s_mulN, s_tn, s_ofn, s_nmin, s_drp, s_tak, s_app, s_len, s_leB, s_add, s_sub, s_mul, s_wr64, s_wr8, bytesE_fold, bytesE_length, bytesE_drop, bytesE_take, bytesE_app, intsE_fold, intsE_length, decide_eq_true_eq, decide_eq_false_iff_not, Nat.mul_one, Nat.zero_add, Nat.add_zero, Bool.not_eq_true', List.length_take, List.length_drop, List.length_append, List.length_cons, List.length_nil, List.drop_zero , s_imin, e1, e3, hc] <;> omega, ?_⟩
      refine OKs.mask (msk 30 [0, 1, 2, 3]) (OKs.mv [0, 1, 2, 5] [] (by rw [hρ]; rfl) ⟨by simp, by simp [sizeH], by simp⟩ ?_)
      refine ih _ ⟨_, [] ++ (k - 1) :: (b.drop fr.toNat).take k, g, .inr (.inr ⟨_, _, rfl, ?_, ?_, by simp⟩), ?_, ?_, ?_, ?_, ?_⟩ (show (tz - A.ib .add .i64 fr (A.imin (A.ib .sub .i64 tz fr) 128)).toNat < (tz - fr).toNat from ?_)
      all_goals (try simp (disch := omega) only [hA, OK, s_le, s_inb, s_slb, s_room, s_mks, s_ne0, s_nn, s_eql, s_neq, s_lss, s_leq, s_gtr, s_geq, s_isz, s_bnot, s_beq, s_idx, s_addN, s_subN, s_mulN, s_tn, s_ofn, s_nmin, s_drp, s_tak, s_app, s_len, s_leB, s_add, s_sub, s_mul, s_wr64, s_wr8, bytesE_fold, bytesE_length, bytesE_drop, bytesE_take, bytesE_app, intsE_fold, intsE_length, decide_eq_true_eq, decide_eq_false_iff_not, Nat.mul_one, Nat.zero_add, Nat.add_zero, Bool.not_eq_true', List.length_take, List.length_drop, List.length_append, List.length_cons, List.length_nil, List.drop_zero , s_imin, e1, e2, e3, e4, hc, bytesE_one, mvL_bytes])
      all_goals first | omega | exact hr | skip
      · simp only [List.nil_append]; congr 1; rw [show fr.toNat + k - fr.toNat = k by omega]; rfl
    · with_reducible refine runK hA hd hQ 100 ?hk ?_
      case hk => exact trivial
      conv => arg 8; cbv
      try simp only [OK]
      have hr' : R0 = [] := by rw [← hr]; exact layF_stop _ _ _ _ _ (by omega)
      exact ⟨_, rfl, rfl, .inl ⟨hr', _, rfl⟩⟩
  · exact hff.elim
  · with_reducible refine runS hA hd hQ 200 ?hk ?_
    case hk => exact trivial
    conv => arg 8; cbv
    try simp only [OK]
    refine ⟨fun h1 => ?_, fun h1 => ?_⟩ <;> simp (disch := omega) only [hA, OK, s_le, s_inb, s_slb, s_room, s_mks, s_ne0, s_nn, s_eql, s_neq, s_lss, s_leq, s_gtr, s_geq, s_isz, s_bnot, s_beq, s_idx, s_addN, s_subN, s_mulN, s_tn, s_ofn, s_nmin, s_drp, s_tak, s_app, s_len, s_leB, s_add, s_sub, s_mul, s_wr64, s_wr8, bytesE_fold, bytesE_length, bytesE_drop, bytesE_take, bytesE_app, intsE_fold, intsE_length, decide_eq_true_eq, decide_eq_false_iff_not, Nat.mul_one, Nat.zero_add, Nat.add_zero, Bool.not_eq_true', List.length_take, List.length_drop, List.length_append, List.length_cons, List.length_nil, List.drop_zero] at h1
    · with_reducible refine runK hA hd hQ 300 ?hk ?_
      case hk => exact trivial
      conv => arg 8; cbv
      try simp only [OK]
      obtain ⟨g, rfl⟩ : ∃ g, f = g + 1 := ⟨f - 1, by omega⟩
      rw [layF, if_pos (by omega)] at hr
      obtain ⟨k, hk⟩ : ∃ k, k = min (tz.toNat - fr.toNat) 128 := ⟨_, rfl⟩
      rw [← hk] at hr
      have e1 : (if (128 : Int) < tz - fr then (128 : Int) else tz - fr) = (k : Int) := by split <;> omega
      have e2 : ((k : Int) - 1) = ((k - 1 : Nat) : Int) := by omega
      have e3 : (fr + (k : Int)).toNat - fr.toNat = k := by omega
      have e4 : (fr + (k : Int)).toNat = fr.toNat + k := by omega
      refine ⟨by simp (disch := omega) only [hA, OK, s_le, s_inb, s_slb, s_room, s_mks, s_ne0, s_nn, s_eql, s_neq, s_lss, s_leq, s_gtr, s_geq, s_isz, s_bnot, s_beq, s_idx, s_addN, s_subN, s_mulN, s_tn, s_ofn, s_nmin, s_drp, s_tak, s_app, s_len, s_leB, s_add, s_sub, s_mul, s_wr64, s_wr8, bytesE_fold, bytesE_length, bytesE_drop, bytesE_take, bytesE_app, intsE_fold, intsE_length, decide_eq_true_eq, decide_eq_false_iff_not, Nat.mul_one, Nat.zero_add, Nat.add_zero, Bool.not_eq_true', List.length_take, List.length_drop, List.length_append, List.length_cons, List.length_nil, List.drop_zero] <;> decide, by simp (disch := omega) only [hA, OK, s_le, s_inb, s_slb, s_room, s_mks, s_ne0, s_nn, s_eql, s_neq, s_lss, s_leq, s_gtr, s_geq, s_isz, s_bnot, s_beq, s_idx, s_addN, s_subN, s_mulN, s_tn, s_ofn, s_nmin, s_drp, s_tak, s_app, s_len, s_leB, s_add, s_sub, s_mul, s_wr64, s_wr8, bytesE_fold, bytesE_length, bytesE_drop, bytesE_take, bytesE_app, intsE_fold, intsE_length, decide_eq_true_eq, decide_eq_false_iff_not, Nat.mul_one, Nat.zero_add, Nat.add_zero, Bool.not_eq_true', List.length_take, List.length_drop, List.length_append, List.length_cons, List.length_nil, List.drop_zero , s_imin, e1, e3, hc, hoc] <;> omega, by simp (disch := omega) only [hA, OK, s_le, s_inb, s_slb, s_room, s_mks, s_ne0, s_nn, s_eql, s_neq, s_lss, s_leq, s_gtr, s_geq, s_isz, s_bnot, s_beq, s_idx, s_addN, s_subN, s_mulN, s_tn, s_ofn, s_nmin, s_drp, s_tak, s_app, s_len, s_leB, s_add, s_sub, s_mul, s_wr64, s_wr8, bytesE_fold, bytesE_length, bytesE_drop, bytesE_take, bytesE_app, intsE_fold, intsE_length, decide_eq_true_eq, decide_eq_false_iff_not, Nat.mul_one, Nat.zero_add, Nat.add_zero, Bool.not_eq_true', List.length_take, List.length_drop, List.length_append, List.length_cons, List.length_nil, List.drop_zero , s_imin, e1, e3, hc, hoc] <;> omega, by simp (disch := omega) only [hA, OK, s_le, s_inb, s_slb, s_room, s_mks, s_ne0, s_nn, s_eql, s_neq, s_lss, s_leq, s_gtr, s_geq, s_isz, s_bnot, s_beq, s_idx, s_addN, s_subN, s_mulN, s_tn, s_ofn, s_nmin, s_drp, s_tak, s_app, s_len, s_leB, s_add, s_sub, s_mul, s_wr64, s_wr8, bytesE_fold, bytesE_length, bytesE_drop, bytesE_take, bytesE_app, intsE_fold, intsE_length, decide_eq_true_eq, decide_eq_false_iff_not, Nat.mul_one, Nat.zero_add, Nat.add_zero, Bool.not_eq_true', List.length_take, List.length_drop, List.length_append, List.length_cons, List.length_nil, List.drop_zero , s_imin, e1, e3, hc, hoc] <;> omega, by simp (disch := omega) only [hA, OK, s_le, s_inb, s_slb, s_room, s_mks, s_ne0, s_nn, s_eql, s_neq, s_lss, s_leq, s_gtr, s_geq, s_isz, s_bnot, s_beq, s_idx, s_addN, s_subN, s_mulN, s_tn, s_ofn, s_nmin, s_drp, s_tak, s_app, s_len, s_leB, s_add, s_sub, s_mul, s_wr64, s_wr8, bytesE_fold, bytesE_length, bytesE_drop, bytesE_take, bytesE_app, intsE_fold, intsE_length, decide_eq_true_eq, decide_eq_false_iff_not, Nat.mul_one, Nat.zero_add, Nat.add_zero, Bool.not_eq_true', List.length_take, List.length_drop, List.length_append, List.length_cons, List.length_nil, List.drop_zero , s_imin, e1, e3, hc, hoc] <;> omega, by simp (disch := omega) only [hA, OK, s_le, s_inb, s_slb, s_room, s_mks, s_ne0, s_nn, s_eql, s_neq, s_lss, s_leq, s_gtr, s_geq, s_isz, s_bnot, s_beq, s_idx, s_addN, s_subN, s_mulN, s_tn, s_ofn, s_nmin, s_drp, s_tak, s_app, s_len, s_leB, s_add, s_sub, s_mul, s_wr64, s_wr8, bytesE_fold, bytesE_length, bytesE_drop, bytesE_take, bytesE_app, intsE_fold, intsE_length, decide_eq_true_eq, decide_eq_false_iff_not, Nat.mul_one, Nat.zero_add, Nat.add_zero, Bool.not_eq_true', List.length_take, List.length_drop, List.length_append, List.length_cons, List.length_nil, List.drop_zero , s_imin, e1, e3, hc, hoc] <;> omega, by simp (disch := omega) only [hA, OK, s_le, s_inb, s_slb, s_room, s_mks, s_ne0, s_nn, s_eql, s_neq, s_lss, s_leq, s_gtr, s_geq, s_isz, s_bnot, s_beq, s_idx, s_addN, s_subN, s_mulN, s_tn, s_ofn, s_nmin, s_drp, s_tak, s_app, s_len, s_leB, s_add, s_sub, s_mul, s_wr64, s_wr8, bytesE_fold, bytesE_length, bytesE_drop, bytesE_take, bytesE_app, intsE_fold, intsE_length, decide_eq_true_eq, decide_eq_false_iff_not, Nat.mul_one, Nat.zero_add, Nat.add_zero, Bool.not_eq_true', List.length_take, List.length_drop, List.length_append, List.length_cons, List.length_nil, List.drop_zero , s_imin, e1, e3, hc, hoc] <;> omega, ?_⟩
      refine OKs.mask (msk 30 [0, 1, 2, 3]) (OKs.mv [0, 1, 2, 6] [] (by rw [hρ]; rfl) ⟨by simp, by simp [sizeH], by simp⟩ ?_)
      refine ih _ ⟨_, out ++ (k - 1) :: (b.drop fr.toNat).take k, g, .inr (.inr ⟨_, _, rfl, ?_, ?_, by simp⟩), ?_, ?_, ?_, ?_, ?_⟩ (show (tz - A.ib .add .i64 fr (A.imin (A.ib .sub .i64 tz fr) 128)).toNat < (tz - fr).toNat from ?_)
      all_goals (try simp (disch := omega) only [hA, OK, s_le, s_inb, s_slb, s_room, s_mks, s_ne0, s_nn, s_eql, s_neq, s_lss, s_leq, s_gtr, s_geq, s_isz, s_bnot, s_beq, s_idx, s_addN, s_subN, s_mulN, s_tn, s_ofn, s_nmin, s_drp, s_tak, s_app, s_len, s_leB, s_add, s_sub, s_mul, s_wr64, s_wr8, bytesE_fold, bytesE_length, bytesE_drop, bytesE_take, bytesE_app, intsE_fold, intsE_length, decide_eq_true_eq, decide_eq_false_iff_not, Nat.mul_one, Nat.zero_add, Nat.add_zero, Bool.not_eq_true', List.length_take, List.length_drop, List.length_append, List.length_cons, List.length_nil, List.drop_zero , s_imin, e1, e2, e3, e4, hc, bytesE_one, mvL_bytes, hoc])
      all_goals first | omega | exact hr | skip
      · rw [hm']; congr 1; simp; rw [List.take_of_length_le (by simp)]; simp
    · with_reducible refine runK hA hd hQ 100 ?hk ?_
      case hk => exact trivial
      conv => arg 8; cbv
      try simp only [OK]
      have hr' : R0 = out := by rw [← hr]; exact layF_stop _ _ _ _ _ (by omega)
      exact ⟨_, rfl, rfl, .inr ⟨_, _, _, rfl, by rw [hr']; exact hm', by rw [hr']; exact hoc, by rw [hr']; exact hne⟩⟩

set_option maxHeartbeats 2000000 in
theorem lay_sl (b : List Nat) (hb : AllB b) (hl : b.length ≤ 65536) (out0 : List Nat) (ho0 : AllB out0) (N : Nat) (c : List EV) (hN : N = b.length) (hc : c = bytesE b) (m0 : Nat) (oc0 : List EV) (hm0 : m0 = out0.length) (hoc0 : oc0 = bytesE out0) (hne0 : out0 ≠ []) (fr0 tz : Int) (hfr : 0 ≤ fr0 ∧ fr0 ≤ N) (htz : 0 ≤ tz ∧ tz ≤ N) (hbd : (out0 : List Nat).length + 2 * (tz.toNat - fr0.toNat) ≤ 1000000) :
    Tri Try.prog [] 27 [.lit (.int .i64 tz), .ptr 2 0, .ptr 1 0, .ptr 0 0] [.blk [.isl N none c], .blk [.sl 1 3 0 m0 none], .blk [.lit (.int .i64 fr0)], .blk oc0] fun v h => v = .tup [] ∧ ((∃ m oc fr', h = [.blk [.isl N none c], .blk [.sl 1 3 0 m none], .blk [.lit (.int .i64 fr')], .blk oc] ∧ m = (layF b (tz.toNat - fr0.toNat) fr0.toNat tz.toNat out0).length ∧ oc = bytesE (layF b (tz.toNat - fr0.toNat) fr0.toNat tz.toNat out0) ∧ (layF b (tz.toNat - fr0.toNat) fr0.toNat tz.toNat out0) ≠ []) ∨
      (∃ m oc fr', h = [.blk [.isl N none c], .blk [.sl 1 4 0 m none], .blk [.lit (.int .i64 fr')], .dead, .blk oc] ∧ m = (layF b (tz.toNat - fr0.toNat) fr0.toNat tz.toNat out0).length ∧ oc = bytesE (layF b (tz.toNat - fr0.toNat) fr0.toNat tz.toNat out0) ∧ (layF b (tz.toNat - fr0.toNat) fr0.toNat tz.toNat out0) ≠ [])) := by
  refine Tri_of F27_ok fun I0 ρ0 w0 Q hρ hQ => ?_
  obtain ⟨A, hA⟩ : ∃ A, A = stdA := ⟨_, rfl⟩
  obtain ⟨R0, hR0⟩ : ∃ r, r = layF b (tz.toNat - fr0.toNat) fr0.toNat tz.toNat out0 := ⟨_, rfl⟩
  rw [← hR0] at hQ
  with_reducible refine runS hA hd hQ 20 ?hk ?_
  case hk => exact trivial
  conv => arg 8; cbv
  try simp only [OK]
  refine OKs.mask (msk 30 [0, 1, 2, 3]) ?_
  refine OKs.loop (fun s => ∃ fr out f, ((∃ m oc, s = ⟨mkT 30 [(0, .lit (.int .i64 tz)), (1, .ptr 2 0), (2, .ptr 1 0), (3, .ptr 0 0)], [.blk [.isl N none c], .blk [.sl 1 3 0 m none], .blk [.lit (.int .i64 fr)], .blk oc]⟩ ∧ m = out.length ∧ oc = bytesE out ∧ out ≠ []) ∨ False ∨ ∃ m oc, s = ⟨mkT 30 [(0, .lit (.int .i64 tz)), (1, .ptr 2 0), (2, .ptr 1 0), (3, .ptr 0 0)], [.blk [.isl N none c], .blk [.sl 1 4 0 m none], .blk [.lit (.int .i64 fr)], .dead, .blk oc]⟩ ∧ m = out.length ∧ oc = bytesE out ∧ out ≠ []) ∧
      0 ≤ fr ∧ fr ≤ N ∧ out.length + 2 * (tz.toNat - fr.toNat) ≤ 1000000 ∧ tz.toNat - fr.toNat ≤ f ∧ layF b f fr.toNat tz.toNat out = R0) (fun s => (tz - intN (match getH s.h 2 with | .blk (x :: _) => x | _ => .top)).toNat) (fun s hs ih => ?_)
    ⟨fr0, out0, tz.toNat - fr0.toNat, .inl ⟨_, _, rfl, hm0, hoc0, hne0⟩, by omega, by omega, hbd, by omega, hR0.symm⟩
  obtain ⟨fr, out, f, hst, hf0, hf1, hbd1, hf, hr⟩ := hs
  rcases hst with ⟨m, oc, rfl, hm', hoc, hne⟩ | hff | ⟨m, oc, rfl, hm', hoc, hne⟩
  · with_reducible refine runS hA hd hQ 200 ?hk ?_
    case hk => exact trivial
    conv => arg 8; cbv
    try simp only [OK]
    refine ⟨fun h1 => ?_, fun h1 => ?_⟩ <;> simp (disch := omega) only [hA, OK, s_le, s_inb, s_slb, s_room, s_mks, s_ne0, s_nn, s_eql, s_neq, s_lss, s_leq, s_gtr, s_geq, s_isz, s_bnot, s_beq, s_idx, s_addN, s_subN, s_mulN, s_tn, s_ofn, s_nmin, s_drp, s_tak, s_app, s_len, s_leB, s_add, s_sub, s_mul, s_wr64, s_wr8, bytesE_fold, bytesE_length, bytesE_drop, bytesE_take, bytesE_app, intsE_fold, intsE_length, decide_eq_true_eq, decide_eq_false_iff_not, Nat.mul_one, Nat.zero_add, Nat.add_zero, Bool.not_eq_true', List.length_take, List.length_drop, List.length_append, List.length_cons, List.length_nil, List.drop_zero] at h1
    · with_reducible refine runK hA hd hQ 300 ?hk ?_
      case hk => exact trivial
      conv => arg 8; cbv
      try simp only [OK]
      obtain ⟨g, rfl⟩ : ∃ g, f = g + 1 := ⟨f - 1, by omega⟩
      rw [layF, if_pos (by omega)] at hr
      obtain ⟨k, hk⟩ : ∃ k, k = min (tz.toNat - fr.toNat) 128 := ⟨_, rfl⟩
      rw [← hk] at hr
      have e1 : (if (128 : Int) < tz - fr then (128 : Int) else tz - fr) = (k : Int) := by split <;> omega
      have e2 : ((k : Int) - 1) = ((k - 1 : Nat) : Int) := by omega
      have e3 : (fr + (k : Int)).toNat - fr.toNat = k := by omega
      have e4 : (fr + (k : Int)).toNat = fr.toNat + k := by omega
      refine ⟨by simp (disch := omega) only [hA, OK, s_le, s_inb, s_slb, s_room, s_mks, s_ne0, s_nn, s_eql, s_neq, s_lss, s_leq, s_gtr, s_geq, s_isz, s_bnot, s_beq, s_idx, s_addN, s_subN, s_mulN, s_tn, s_ofn, s_nmin, s_drp, s_tak, s_app, s_len, s_leB, s_add, s_sub, s_mul, s_wr64, s_wr8, bytesE_fold, bytesE_length, bytesE_drop, bytesE_take, bytesE_app, intsE_fold, intsE_length, decide_eq_true_eq, decide_eq_false_iff_not, Nat.mul_one, Nat.zero_add, Nat.add_zero, Bool.not_eq_true', List.length_take, List.length_drop, List.length_append, List.length_cons, List.length_nil, List.drop_zero] <;> decide, by simp (disch := omega) only [hA, OK, s_le, s_inb, s_slb, s_room, s_mks, s_ne0, s_nn, s_eql, s_neq, s_lss, s_leq, s_gtr, s_geq, s_isz, s_bnot, s_beq, s_idx, s_addN, s_subN, s_mulN, s_tn, s_ofn, s_nmin, s_drp, s_tak, s_app, s_len, s_leB, s_add, s_sub, s_mul, s_wr64, s_wr8, bytesE_fold, bytesE_length, bytesE_drop, bytesE_take, bytesE_app, intsE_fold, intsE_length, decide_eq_true_eq, decide_eq_false_iff_not, Nat.mul_one, Nat.zero_add, Nat.add_zero, Bool.not_eq_true', List.length_take, List.length_drop, List.length_append, List.length_cons, List.length_nil, List.drop_zero , s_imin, e1, e3, hc, hoc] <;> omega, by simp (disch := omega) only [hA, OK, s_le, s_inb, s_slb, s_room, s_mks, s_ne0, s_nn, s_eql, s_neq, s_lss, s_leq, s_gtr, s_geq, s_isz, s_bnot, s_beq, s_idx, s_addN, s_subN, s_mulN, s_tn, s_ofn, s_nmin, s_drp, s_tak, s_app, s_len, s_leB, s_add, s_sub, s_mul, s_wr64, s_wr8, bytesE_fold, bytesE_length, bytesE_drop, bytesE_take, bytesE_app, intsE_fold, intsE_length, decide_eq_true_eq, decide_eq_false_iff_not, Nat.mul_one, Nat.zero_add, Nat.add_zero, Bool.not_eq_true', List.length_take, List.length_drop, List.length_append, List.length_cons, List.length_nil, List.drop_zero , s_imin, e1, e3, hc, hoc] <;> omega, by simp (disch := omega) only [hA, OK, s_le, s_inb, s_slb, s_room, s_mks, s_ne0, s_nn, s_eql, s_neq, s_lss, s_leq, s_gtr, s_geq, s_isz, s_bnot, s_beq, s_idx, s_addN, s_subN, s_mulN, s_tn, s_ofn, s_nmin, s_drp, s_tak, s_app, s_len, s_leB, s_add, s_sub, s_mul, s_wr64, s_wr8, bytesE_fold, bytesE_length, bytesE_drop, bytesE_take, bytesE_app, intsE_fold, intsE_length, decide_eq_true_eq, decide_eq_false_iff_not, Nat.mul_one, Nat.zero_add, Nat.add_zero, Bool.not_eq_true', List.length_take, List.length_drop, List.length_append, List.length_cons, List.length_nil, List.drop_zero , s_imin, e1, e3, hc, hoc] <;> omega, by simp (disch := omega) only [hA, OK, s_le, s_inb, s_slb, s_room, s_mks, s_ne0, s_nn, s_eql, s_neq, s_lss, s_leq, s_gtr, s_geq, s_isz, s_bnot, s_beq, s_idx, s_addN, s_subN, s_mulN, s_tn, s_ofn, s_nmin, s_drp, s_tak, s_app, s_len, s_leB, s_add, s_sub, s_mul, s_wr64, s_wr8, bytesE_fold, bytesE_length, bytesE_drop, bytesE_take, bytesE_app, intsE_fold, intsE_length, decide_eq_true_eq, decide_eq_false_iff_not, Nat.mul_one, Nat.zero_add, Nat.add_zero, Bool.not_eq_true', List.length_take, List.length_drop, List.length_append, List.length_cons, List.length_nil, List.drop_zero , s_imin, e1, e3, hc, hoc] <;> omega, by simp (disch := omega) only [hA, OK, s_le, s_inb, s_slb, s_room, s_mks, s_ne0, s_nn, s_eql, s_neq, s_lss, s_leq, s_gtr, s_geq, s_isz, s_bnot, s_beq, s_idx, s_addN, s_subN, s_mulN, s_tn, s_ofn, s_nmin, s_drp, s_tak, s_app, s_len, s_leB, s_add, s_sub, s_mul, s_wr64, s_wr8, bytesE_fold, bytesE_length, bytesE_drop, bytesE_take, bytesE_app, intsE_fold, intsE_length, decide_eq_true_eq, decide_eq_false_iff_not, Nat.mul_one, Nat.zero_add, Nat.add_zero, Bool.not_eq_true', List.length_take, List.length_drop, List.length_append, List.length_cons, List.length_nil, List.drop_zero , s_imin, e1, e3, hc, hoc] <;> omega, by simp (disch := omega) only [hA, OK, s_le, s_inb, s_slb, s_room, s_mks, s_ne0, s_nn, s_eql, s_neq, s_lss, s_leq, s_gtr, s_geq, s_isz, s_bnot, s_beq, s_idx, s_addN, s_subN, s_mulN, s_tn, s_ofn, s_nmin, s_drp, s_tak, s_app, s_len, s_leB, s_add, s_sub, s_mul, s_wr64, s_wr8, bytesE_fold, bytesE_length, bytesE_drop, bytesE_take, bytesE_app, intsE_fold, intsE_length, decide_eq_true_eq, decide_eq_false_iff_not, Nat.mul_one, Nat.zero_add, Nat.add_zero, Bool.not_eq_true', List.length_take, List.length_drop, List.length_append, List.length_cons, List.length_nil, List.drop_zero , s_imin, e1, e3, hc, hoc] <;> omega, ?_⟩
      refine OKs.mask (msk 30 [0, 1, 2, 3]) (OKs.mv [0, 1, 2, 3, 6] [] (by rw [hρ]; rfl) ⟨by simp, by simp [sizeH], by simp⟩ ?_)
      refine ih _ ⟨_, out ++ (k - 1) :: (b.drop fr.toNat).take k, g, .inr (.inr ⟨_, _, rfl, ?_, ?_, by simp⟩), ?_, ?_, ?_, ?_, ?_⟩ (show (tz - A.ib .add .i64 fr (A.imin (A.ib .sub .i64 tz fr) 128)).toNat < (tz - fr).toNat from ?_)
      all_goals (try simp (disch := omega) only [hA, OK, s_le, s_inb, s_slb, s_room, s_mks, s_ne0, s_nn, s_eql, s_neq, s_lss, s_leq, s_gtr, s_geq, s_isz, s_bnot, s_beq, s_idx, s_addN, s_subN, s_mulN, s_tn, s_ofn, s_nmin, s_drp, s_tak, s_app, s_len, s_leB, s_add, s_sub, s_mul, s_wr64, s_wr8, bytesE_fold, bytesE_length, bytesE_drop, bytesE_take, bytesE_app, intsE_fold, intsE_length, decide_eq_true_eq, decide_eq_false_iff_not, Nat.mul_one, Nat.zero_add, Nat.add_zero, Bool.not_eq_true', List.length_take, List.length_drop, List.length_append, List.length_cons, List.length_nil, List.drop_zero , s_imin, e1, e2, e3, e4, hc, bytesE_one, mvL_bytes, hoc])
      all_goals first | omega | exact hr | skip
      · rw [hm']; congr 1; simp; rw [List.take_of_length_le (by simp)]; simp
    · with_reducible refine runK hA hd hQ 100 ?hk ?_
      case hk => exact trivial
      conv => arg 8; cbv
      try simp only [OK]
      have hr' : R0 = out := by rw [← hr]; exact layF_stop _ _ _ _ _ (by omega)
      exact ⟨_, rfl, rfl, .inl ⟨_, _, _, rfl, by rw [hr']; exact hm', by rw [hr']; exact hoc, by rw [hr']; exact hne⟩⟩
  · exact hff.elim
  · with_reducible refine runS hA hd hQ 200 ?hk ?_
    case hk => exact trivial
    conv => arg 8; cbv
    try simp only [OK]
    refine ⟨fun h1 => ?_, fun h1 => ?_⟩ <;> simp (disch := omega) only [hA, OK, s_le, s_inb, s_slb, s_room, s_mks, s_ne0, s_nn, s_eql, s_neq, s_lss, s_leq, s_gtr, s_geq, s_isz, s_bnot, s_beq, s_idx, s_addN, s_subN, s_mulN, s_tn, s_ofn, s_nmin, s_drp, s_tak, s_app, s_len, s_leB, s_add, s_sub, s_mul, s_wr64, s_wr8, bytesE_fold, bytesE_length, bytesE_drop, bytesE_take, bytesE_app, intsE_fold, intsE_length, decide_eq_true_eq, decide_eq_false_iff_not, Nat.mul_one, Nat.zero_add, Nat.add_zero, Bool.not_eq_true', List.length_take, List.length_drop, List.length_append, List.length_cons, List.length_nil, List.drop_zero] at h1
    · with_reducible refine runK hA hd hQ 300 ?hk ?_
      case hk => exact trivial
      conv => arg 8; cbv
      try simp only [OK]
      obtain ⟨g, rfl⟩ : ∃ g, f = g + 1 := ⟨f - 1, by omega⟩
      rw [layF, if_pos (by omega)] at hr
      obtain ⟨k, hk⟩ : ∃ k, k = min (tz.toNat - fr.toNat) 128 := ⟨_, rfl⟩
      rw [← hk] at hr
      have e1 : (if (128 : Int) < tz - fr then (128 : Int) else tz - fr) = (k : Int) := by split <;> omega
      have e2 : ((k : Int) - 1) = ((k - 1 : Nat) : Int) := by omega
      have e3 : (fr + (k : Int)).toNat - fr.toNat = k := by omega
      have e4 : (fr + (k : Int)).toNat = fr.toNat + k := by omega
      refine ⟨by simp (disch := omega) only [hA, OK, s_le, s_inb, s_slb, s_room, s_mks, s_ne0, s_nn, s_eql, s_neq, s_lss, s_leq, s_gtr, s_geq, s_isz, s_bnot, s_beq, s_idx, s_addN, s_subN, s_mulN, s_tn, s_ofn, s_nmin, s_drp, s_tak, s_app, s_len, s_leB, s_add, s_sub, s_mul, s_wr64, s_wr8, bytesE_fold, bytesE_length, bytesE_drop, bytesE_take, bytesE_app, intsE_fold, intsE_length, decide_eq_true_eq, decide_eq_false_iff_not, Nat.mul_one, Nat.zero_add, Nat.add_zero, Bool.not_eq_true', List.length_take, List.length_drop, List.length_append, List.length_cons, List.length_nil, List.drop_zero] <;> decide, by simp (disch := omega) only [hA, OK, s_le, s_inb, s_slb, s_room, s_mks, s_ne0, s_nn, s_eql, s_neq, s_lss, s_leq, s_gtr, s_geq, s_isz, s_bnot, s_beq, s_idx, s_addN, s_subN, s_mulN, s_tn, s_ofn, s_nmin, s_drp, s_tak, s_app, s_len, s_leB, s_add, s_sub, s_mul, s_wr64, s_wr8, bytesE_fold, bytesE_length, bytesE_drop, bytesE_take, bytesE_app, intsE_fold, intsE_length, decide_eq_true_eq, decide_eq_false_iff_not, Nat.mul_one, Nat.zero_add, Nat.add_zero, Bool.not_eq_true', List.length_take, List.length_drop, List.length_append, List.length_cons, List.length_nil, List.drop_zero , s_imin, e1, e3, hc, hoc] <;> omega, by simp (disch := omega) only [hA, OK, s_le, s_inb, s_slb, s_room, s_mks, s_ne0, s_nn, s_eql, s_neq, s_lss, s_leq, s_gtr, s_geq, s_isz, s_bnot, s_beq, s_idx, s_addN, s_subN, s_mulN, s_tn, s_ofn, s_nmin, s_drp, s_tak, s_app, s_len, s_leB, s_add, s_sub, s_mul, s_wr64, s_wr8, bytesE_fold, bytesE_length, bytesE_drop, bytesE_take, bytesE_app, intsE_fold, intsE_length, decide_eq_true_eq, decide_eq_false_iff_not, Nat.mul_one, Nat.zero_add, Nat.add_zero, Bool.not_eq_true', List.length_take, List.length_drop, List.length_append, List.length_cons, List.length_nil, List.drop_zero , s_imin, e1, e3, hc, hoc] <;> omega, by simp (disch := omega) only [hA, OK, s_le, s_inb, s_slb, s_room, s_mks, s_ne0, s_nn, s_eql, s_neq, s_lss, s_leq, s_gtr, s_geq, s_isz, s_bnot, s_beq, s_idx, s_addN, s_subN, s_mulN, s_tn, s_ofn, s_nmin, s_drp, s_tak, s_app, s_len, s_leB, s_add, s_sub, s_mul, s_wr64, s_wr8, bytesE_fold, bytesE_length, bytesE_drop, bytesE_take, bytesE_app, intsE_fold, intsE_length, decide_eq_true_eq, decide_eq_false_iff_not, Nat.mul_one, Nat.zero_add, Nat.add_zero, Bool.not_eq_true', List.length_take, List.length_drop, List.length_append, List.length_cons, List.length_nil, List.drop_zero , s_imin, e1, e3, hc, hoc] <;> omega, by simp (disch := omega) only [hA, OK, s_le, s_inb, s_slb, s_room, s_mks, s_ne0, s_nn, s_eql, s_neq, s_lss, s_leq, s_gtr, s_geq, s_isz, s_bnot, s_beq, s_idx, s_addN, s_subN, s_mulN, s_tn, s_ofn, s_nmin, s_drp, s_tak, s_app, s_len, s_leB, s_add, s_sub, s_mul, s_wr64, s_wr8, bytesE_fold, bytesE_length, bytesE_drop, bytesE_take, bytesE_app, intsE_fold, intsE_length, decide_eq_true_eq, decide_eq_false_iff_not, Nat.mul_one, Nat.zero_add, Nat.add_zero, Bool.not_eq_true', List.length_take, List.length_drop, List.length_append, List.length_cons, List.length_nil, List.drop_zero , s_imin, e1, e3, hc, hoc] <;> omega, by simp (disch := omega) only [hA, OK, s_le, s_inb, s_slb, s_room, s_mks, s_ne0, s_nn, s_eql, s_neq, s_lss, s_leq, s_gtr, s_geq, s_isz, s_bnot, s_beq, s_idx, s_addN, s_subN, s_mulN, s_tn, s_ofn, s_nmin, s_drp, s_tak, s_app, s_len, s_leB, s_add, s_sub, s_mul, s_wr64, s_wr8, bytesE_fold, bytesE_length, bytesE_drop, bytesE_take, bytesE_app, intsE_fold, intsE_length, decide_eq_true_eq, decide_eq_false_iff_not, Nat.mul_one, Nat.zero_add, Nat.add_zero, Bool.not_eq_true', List.length_take, List.length_drop, List.length_append, List.length_cons, List.length_nil, List.drop_zero , s_imin, e1, e3, hc, hoc] <;> omega, by simp (disch := omega) only [hA, OK, s_le, s_inb, s_slb, s_room, s_mks, s_ne0, s_nn, s_eql, s_neq, s_lss, s_leq, s_gtr, s_geq, s_isz, s_bnot, s_beq, s_idx, s_addN, s_subN, s_mulN, s_tn, s_ofn, s_nmin, s_drp, s_tak, s_app, s_len, s_leB, s_add, s_sub, s_mul, s_wr64, s_wr8, bytesE_fold, bytesE_length, bytesE_drop, bytesE_take, bytesE_app, intsE_fold, intsE_length, decide_eq_true_eq, decide_eq_false_iff_not, Nat.mul_one, Nat.zero_add, Nat.add_zero, Bool.not_eq_true', List.length_take, List.length_drop, List.length_append, List.length_cons, List.length_nil, List.drop_zero , s_imin, e1, e3, hc, hoc] <;> omega, ?_⟩
      refine OKs.mask (msk 30 [0, 1, 2, 3]) (OKs.mv [0, 1, 2, 3, 7] [] (by rw [hρ]; rfl) ⟨by simp, by simp [sizeH], by simp⟩ ?_)
      refine ih _ ⟨_, out ++ (k - 1) :: (b.drop fr.toNat).take k, g, .inr (.inr ⟨_, _, rfl, ?_, ?_, by simp⟩), ?_, ?_, ?_, ?_, ?_⟩ (show (tz - A.ib .add .i64 fr (A.imin (A.ib .sub .i64 tz fr) 128)).toNat < (tz - fr).toNat from ?_)
      all_goals (try simp (disch := omega) only [hA, OK, s_le, s_inb, s_slb, s_room, s_mks, s_ne0, s_nn, s_eql, s_neq, s_lss, s_leq, s_gtr, s_geq, s_isz, s_bnot, s_beq, s_idx, s_addN, s_subN, s_mulN, s_tn, s_ofn, s_nmin, s_drp, s_tak, s_app, s_len, s_leB, s_add, s_sub, s_mul, s_wr64, s_wr8, bytesE_fold, bytesE_length, bytesE_drop, bytesE_take, bytesE_app, intsE_fold, intsE_length, decide_eq_true_eq, decide_eq_false_iff_not, Nat.mul_one, Nat.zero_add, Nat.add_zero, Bool.not_eq_true', List.length_take, List.length_drop, List.length_append, List.length_cons, List.length_nil, List.drop_zero , s_imin, e1, e2, e3, e4, hc, bytesE_one, mvL_bytes, hoc])
      all_goals first | omega | exact hr | skip
      · rw [hm']; congr 1; simp; rw [List.take_of_length_le (by simp)]; simp
    · with_reducible refine runK hA hd hQ 100 ?hk ?_
      case hk => exact trivial
      conv => arg 8; cbv
      try simp only [OK]
      have hr' : R0 = out := by rw [← hr]; exact layF_stop _ _ _ _ _ (by omega)
      exact ⟨_, rfl, rfl, .inr ⟨_, _, _, rfl, by rw [hr']; exact hm', by rw [hr']; exact hoc, by rw [hr']; exact hne⟩⟩

end Go.Proofs.Ytplibngmgebigaa.Press
