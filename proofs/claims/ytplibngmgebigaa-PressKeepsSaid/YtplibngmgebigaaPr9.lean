/- Pr9: what the finder of references finds at a place. No conditions beyond those written. -/
import Derived.Test.YtplibngmgebigaaPr8
set_option linter.unusedVariables false
set_option linter.unusedSimpArgs false
namespace Go.Proofs.Ytplibngmgebigaa.Press
open Go Go.Proofs.Ytplibngmgebigaa Go.Proofs.Ytplibngmgebigaa.Em

theorem look_atI {l : List Int} {c : List EV} (hc : c = intsE l) (i : Nat) (h : i < l.length) : ∃ x : Int, (c.drop i).take 1 = [.lit (.int .i64 x)] ∧ x = l.getD i 0 := by
  subst hc; exact ⟨_, look_int l i h, rfl⟩

def isI (l : List Int) : EV := .isl l.length none (intsE l)
theorem isI_open (l : List Int) : ∃ n c, isI l = .isl n none c ∧ n = l.length ∧ c = intsE l := ⟨_, _, rfl, rfl, rfl⟩

/-- how far two places go on alike, from n on -/
def mtF (b : List Nat) (q p : Nat) : Nat → Nat → Nat
  | 0, n => n
  | f + 1, n => if p + n < b.length ∧ b.getD (p + n) 0 = b.getD (q + n) 0 then mtF b q p f (n + 1) else n

theorem mtF_stop (b : List Nat) (q p f n : Nat) (h : ¬ (p + n < b.length ∧ b.getD (p + n) 0 = b.getD (q + n) 0)) : mtF b q p f n = n := by
  cases f with
  | zero => rfl
  | succ f => rw [mtF, if_neg h]
theorem mtF_zero (b : List Nat) (q p n : Nat) : mtF b q p 0 n = n := rfl

theorem mtF_ge (b : List Nat) (q p : Nat) : ∀ f n, n ≤ mtF b q p f n ∧ mtF b q p f n ≤ n + f
  | 0, n => by simp [mtF]
  | f + 1, n => by
    have := mtF_ge b q p f (n + 1)
    simp only [mtF]
    split <;> omega

def fdB (b : List Nat) (ls : List Int) (p : Nat) : Nat × List Nat :=
  if ls.getD p 0 < 0 then (0, [])
  else let q := (ls.getD p 0).toNat
    let n := mtF b q p 127 4
    let far := p - q - 1
    (n, [n + 124, far % 256, far / 256 % 256])

theorem s_shr8 (z : Int) : stdA.sh .shr .i64 z 8 = z / 256 := by
  simp only [stdA, IntKind.bits]
  rw [show min (Int.toNat 8) 64 = 8 by rfl]
  rw [Int.fdiv_eq_ediv_of_nonneg _ (by decide)]
  rfl

set_option maxHeartbeats 1000000 in
theorem backs_at (b : List Nat) (hb : AllB b) (hl : b.length ≤ 65536) (ls : List Int) (hls : ls.length = b.length) (p : Nat) (hp : p < b.length) (hlast : ls.getD p 0 < 0 ∨ (0 ≤ ls.getD p 0 ∧ ls.getD p 0 < p)) :
    Tri Try.prog [] 49 [.agg [isB b, isI ls], .lit (.int .i64 (p : Int))] [] fun v h => v = .tup [.lit (.int .i64 ((fdB b ls p).1 : Int)), isB (fdB b ls p).2] ∧ h = [] := by
  refine Tri.frozen2b rfl ?_
  refine Tri_of F49_ok fun I0 ρ0 w0 Q hρ hQ => ?_
  obtain ⟨A, hA⟩ : ∃ A, A = stdA := ⟨_, rfl⟩
  obtain ⟨N, c, hi, hN, hc⟩ := isB_open b
  obtain ⟨N2, c2, hi2, hN2, hc2⟩ := isI_open ls
  rw [hi, hi2]
  obtain ⟨z, hz⟩ : ∃ z : Int, z = p := ⟨_, rfl⟩
  rw [← hz]
  have eq0 : z.toNat = p := by omega
  with_reducible refine runS hA hd hQ 100 ?hk ?_
  case hk => exact trivial
  conv => arg 8; cbv
  try simp only [OK]
  obtain ⟨q, q1, q2⟩ := look_atI hc2 p (by omega)
  rw [← q2] at hlast
  refine ⟨by simp (disch := omega) only [hA, OK, s_le, s_inb, s_slb, s_room, s_mks, s_ne0, s_nn, s_eql, s_neq, s_lss, s_leq, s_gtr, s_geq, s_isz, s_bnot, s_beq, s_idx, s_addN, s_subN, s_mulN, s_tn, s_ofn, s_nmin, s_drp, s_tak, s_app, s_len, s_leB, s_add, s_sub, s_mul, s_wr64, s_wr8, bytesE_fold, bytesE_length, bytesE_drop, bytesE_take, bytesE_app, intsE_fold, intsE_length, decide_eq_true_eq, decide_eq_false_iff_not, Nat.mul_one, Nat.zero_add, Nat.add_zero, Bool.not_eq_true', List.length_take, List.length_drop, List.length_append, List.length_cons, List.length_nil, List.drop_zero] <;> omega, [.lit (.int .i64 q)], _, rfl, by simp (disch := omega) only [hA, OK, s_le, s_inb, s_slb, s_room, s_mks, s_ne0, s_nn, s_eql, s_neq, s_lss, s_leq, s_gtr, s_geq, s_isz, s_bnot, s_beq, s_idx, s_addN, s_subN, s_mulN, s_tn, s_ofn, s_nmin, s_drp, s_tak, s_app, s_len, s_leB, s_add, s_sub, s_mul, s_wr64, s_wr8, bytesE_fold, bytesE_length, bytesE_drop, bytesE_take, bytesE_app, intsE_fold, intsE_length, decide_eq_true_eq, decide_eq_false_iff_not, Nat.mul_one, Nat.zero_add, Nat.add_zero, Bool.not_eq_true', List.length_take, List.length_drop, List.length_append, List.length_cons, List.length_nil, List.drop_zero , eq0] <;> exact q1, rfl, ?_⟩
  with_reducible refine runK hA hd hQ 100 ?hk ?_
  case hk => exact trivial
  conv => arg 8; cbv
  try simp only [OK]
  refine ⟨fun h0 => ?_, fun h0 => ?_⟩ <;> simp (disch := omega) only [hA, OK, s_le, s_inb, s_slb, s_room, s_mks, s_ne0, s_nn, s_eql, s_neq, s_lss, s_leq, s_gtr, s_geq, s_isz, s_bnot, s_beq, s_idx, s_addN, s_subN, s_mulN, s_tn, s_ofn, s_nmin, s_drp, s_tak, s_app, s_len, s_leB, s_add, s_sub, s_mul, s_wr64, s_wr8, bytesE_fold, bytesE_length, bytesE_drop, bytesE_take, bytesE_app, intsE_fold, intsE_length, decide_eq_true_eq, decide_eq_false_iff_not, Nat.mul_one, Nat.zero_add, Nat.add_zero, Bool.not_eq_true', List.length_take, List.length_drop, List.length_append, List.length_cons, List.length_nil, List.drop_zero] at h0
  · have hf : fdB b ls p = (0, []) := by unfold fdB; rw [if_pos (by rw [← q2]; exact h0)]
    with_reducible refine runK hA hd hQ 100 ?hk ?_
    case hk => exact trivial
    conv => arg 8; cbv
    try simp only [OK]
    exact ⟨_, rfl, .lit (.slice none 0 0), by rw [hf]; rfl, .inl ⟨rfl, by rw [hf]⟩⟩
  · with_reducible refine runK hA hd hQ 100 ?hk ?_
    case hk => exact trivial
    conv => arg 8; cbv
    try simp only [OK]
    obtain ⟨R0, hR0⟩ : ∃ r, r = mtF b q.toNat p 127 4 := ⟨_, rfl⟩
    have hfd : fdB b ls p = (R0, [R0 + 124, (p - q.toNat - 1) % 256, (p - q.toNat - 1) / 256 % 256]) := by unfold fdB; rw [if_neg (by rw [← q2]; exact h0), ← q2, hR0]
    refine OKs.mask (msk 60 [1, 2, 6, 7]) ?_
    refine OKs.loop (fun s => ∃ n : Int, s = ⟨mkT 60 [(1, .lit (.int .i64 z)), (2, .ptr 0 0), (6, .lit (.int .i64 q)), (7, .lit (.int .i64 n))], [.blk [.isl N none c, .isl N2 none c2]]⟩ ∧ 4 ≤ n ∧ n ≤ 131 ∧ mtF b q.toNat p (131 - n.toNat) n.toNat = R0) (fun s => (131 - intN (getT s.t 7)).toNat) (fun s hs ih => ?_)
      ⟨4, rfl, by omega, by omega, by rw [hR0]; rfl⟩
    obtain ⟨n, rfl, hn1, hn2, hr⟩ := hs
    have hnn : ((n.toNat : Nat) : Int) = n := by omega
    with_reducible refine runS hA hd hQ 200 ?hk ?_
    case hk => exact trivial
    conv => arg 8; cbv
    try simp only [OK]
    refine ⟨fun h1 => ?_, fun h1 => ?_⟩ <;> simp (disch := omega) only [hA, OK, s_le, s_inb, s_slb, s_room, s_mks, s_ne0, s_nn, s_eql, s_neq, s_lss, s_leq, s_gtr, s_geq, s_isz, s_bnot, s_beq, s_idx, s_addN, s_subN, s_mulN, s_tn, s_ofn, s_nmin, s_drp, s_tak, s_app, s_len, s_leB, s_add, s_sub, s_mul, s_wr64, s_wr8, bytesE_fold, bytesE_length, bytesE_drop, bytesE_take, bytesE_app, intsE_fold, intsE_length, decide_eq_true_eq, decide_eq_false_iff_not, Nat.mul_one, Nat.zero_add, Nat.add_zero, Bool.not_eq_true', List.length_take, List.length_drop, List.length_append, List.length_cons, List.length_nil, List.drop_zero] at h1
    · with_reducible refine runK hA hd hQ 200 ?hk ?_
      case hk => exact trivial
      conv => arg 8; cbv
      try simp only [OK]
      refine ⟨fun h2 => ?_, fun h2 => ?_⟩ <;> simp (disch := omega) only [hA, OK, s_le, s_inb, s_slb, s_room, s_mks, s_ne0, s_nn, s_eql, s_neq, s_lss, s_leq, s_gtr, s_geq, s_isz, s_bnot, s_beq, s_idx, s_addN, s_subN, s_mulN, s_tn, s_ofn, s_nmin, s_drp, s_tak, s_app, s_len, s_leB, s_add, s_sub, s_mul, s_wr64, s_wr8, bytesE_fold, bytesE_length, bytesE_drop, bytesE_take, bytesE_app, intsE_fold, intsE_length, decide_eq_true_eq, decide_eq_false_iff_not, Nat.mul_one, Nat.zero_add, Nat.add_zero, Bool.not_eq_true', List.length_take, List.length_drop, List.length_append, List.length_cons, List.length_nil, List.drop_zero] at h2
      · with_reducible refine runK hA hd hQ 200 ?hk ?_
        case hk => exact trivial
        conv => arg 8; cbv
        try simp only [OK]
        obtain ⟨k, hk⟩ : ∃ k, 131 - n.toNat = k + 1 := ⟨131 - n.toNat - 1, by omega⟩
        rw [hk] at hr
        obtain ⟨x, x1, x2⟩ := look_at hc (p + n.toNat) (by omega)
        obtain ⟨y, y1, y2⟩ := look_at hc (q.toNat + n.toNat) (by omega)
        have e1 : (z + n).toNat = p + n.toNat := by omega
        have e2 : (q + n).toNat = q.toNat + n.toNat := by omega
        refine ⟨by simp (disch := omega) only [hA, OK, s_le, s_inb, s_slb, s_room, s_mks, s_ne0, s_nn, s_eql, s_neq, s_lss, s_leq, s_gtr, s_geq, s_isz, s_bnot, s_beq, s_idx, s_addN, s_subN, s_mulN, s_tn, s_ofn, s_nmin, s_drp, s_tak, s_app, s_len, s_leB, s_add, s_sub, s_mul, s_wr64, s_wr8, bytesE_fold, bytesE_length, bytesE_drop, bytesE_take, bytesE_app, intsE_fold, intsE_length, decide_eq_true_eq, decide_eq_false_iff_not, Nat.mul_one, Nat.zero_add, Nat.add_zero, Bool.not_eq_true', List.length_take, List.length_drop, List.length_append, List.length_cons, List.length_nil, List.drop_zero] <;> omega, [.lit (.int .u8 x)], _, rfl, by simp (disch := omega) only [hA, OK, s_le, s_inb, s_slb, s_room, s_mks, s_ne0, s_nn, s_eql, s_neq, s_lss, s_leq, s_gtr, s_geq, s_isz, s_bnot, s_beq, s_idx, s_addN, s_subN, s_mulN, s_tn, s_ofn, s_nmin, s_drp, s_tak, s_app, s_len, s_leB, s_add, s_sub, s_mul, s_wr64, s_wr8, bytesE_fold, bytesE_length, bytesE_drop, bytesE_take, bytesE_app, intsE_fold, intsE_length, decide_eq_true_eq, decide_eq_false_iff_not, Nat.mul_one, Nat.zero_add, Nat.add_zero, Bool.not_eq_true', List.length_take, List.length_drop, List.length_append, List.length_cons, List.length_nil, List.drop_zero , e1] <;> exact x1, rfl, ?_⟩
        with_reducible refine runK hA hd hQ 200 ?hk ?_
        case hk => exact trivial
        conv => arg 8; cbv
        try simp only [OK]
        refine ⟨by simp (disch := omega) only [hA, OK, s_le, s_inb, s_slb, s_room, s_mks, s_ne0, s_nn, s_eql, s_neq, s_lss, s_leq, s_gtr, s_geq, s_isz, s_bnot, s_beq, s_idx, s_addN, s_subN, s_mulN, s_tn, s_ofn, s_nmin, s_drp, s_tak, s_app, s_len, s_leB, s_add, s_sub, s_mul, s_wr64, s_wr8, bytesE_fold, bytesE_length, bytesE_drop, bytesE_take, bytesE_app, intsE_fold, intsE_length, decide_eq_true_eq, decide_eq_false_iff_not, Nat.mul_one, Nat.zero_add, Nat.add_zero, Bool.not_eq_true', List.length_take, List.length_drop, List.length_append, List.length_cons, List.length_nil, List.drop_zero] <;> omega, [.lit (.int .u8 y)], _, rfl, by simp (disch := omega) only [hA, OK, s_le, s_inb, s_slb, s_room, s_mks, s_ne0, s_nn, s_eql, s_neq, s_lss, s_leq, s_gtr, s_geq, s_isz, s_bnot, s_beq, s_idx, s_addN, s_subN, s_mulN, s_tn, s_ofn, s_nmin, s_drp, s_tak, s_app, s_len, s_leB, s_add, s_sub, s_mul, s_wr64, s_wr8, bytesE_fold, bytesE_length, bytesE_drop, bytesE_take, bytesE_app, intsE_fold, intsE_length, decide_eq_true_eq, decide_eq_false_iff_not, Nat.mul_one, Nat.zero_add, Nat.add_zero, Bool.not_eq_true', List.length_take, List.length_drop, List.length_append, List.length_cons, List.length_nil, List.drop_zero , e2] <;> exact y1, rfl, ?_⟩
        with_reducible refine runK hA hd hQ 200 ?hk ?_
        case hk => exact trivial
        conv => arg 8; cbv
        try simp only [OK]
        refine ⟨fun h3 => ?_, fun h3 => ?_⟩ <;> simp (disch := omega) only [hA, OK, s_le, s_inb, s_slb, s_room, s_mks, s_ne0, s_nn, s_eql, s_neq, s_lss, s_leq, s_gtr, s_geq, s_isz, s_bnot, s_beq, s_idx, s_addN, s_subN, s_mulN, s_tn, s_ofn, s_nmin, s_drp, s_tak, s_app, s_len, s_leB, s_add, s_sub, s_mul, s_wr64, s_wr8, bytesE_fold, bytesE_length, bytesE_drop, bytesE_take, bytesE_app, intsE_fold, intsE_length, decide_eq_true_eq, decide_eq_false_iff_not, Nat.mul_one, Nat.zero_add, Nat.add_zero, Bool.not_eq_true', List.length_take, List.length_drop, List.length_append, List.length_cons, List.length_nil, List.drop_zero] at h3
        · with_reducible refine runK hA hd hQ 200 ?hk ?_
          case hk => exact trivial
          conv => arg 8; cbv
          try simp only [OK]
          refine OKs.mask (msk 60 [1, 2, 6, 7]) (OKs.mv [0] [] (by rw [hρ]; rfl) ⟨by simp, by simp [sizeH], by simp⟩ ?_)
          rw [mtF, if_pos ⟨by omega, by omega⟩] at hr
          refine ih _ ⟨_, rfl, ?_, ?_, ?_⟩ (show (131 - (A.ib .add .i64 n 1)).toNat < (131 - n).toNat from ?_)
          all_goals (try simp (disch := omega) only [hA, OK, s_le, s_inb, s_slb, s_room, s_mks, s_ne0, s_nn, s_eql, s_neq, s_lss, s_leq, s_gtr, s_geq, s_isz, s_bnot, s_beq, s_idx, s_addN, s_subN, s_mulN, s_tn, s_ofn, s_nmin, s_drp, s_tak, s_app, s_len, s_leB, s_add, s_sub, s_mul, s_wr64, s_wr8, bytesE_fold, bytesE_length, bytesE_drop, bytesE_take, bytesE_app, intsE_fold, intsE_length, decide_eq_true_eq, decide_eq_false_iff_not, Nat.mul_one, Nat.zero_add, Nat.add_zero, Bool.not_eq_true', List.length_take, List.length_drop, List.length_append, List.length_cons, List.length_nil, List.drop_zero])
          all_goals first | omega | (rw [show (n + 1).toNat = n.toNat + 1 by omega, show 131 - (n.toNat + 1) = k by omega]; exact hr)
        · -- another byte
          have hr' : R0 = n.toNat := by rw [← hr]; exact mtF_stop _ _ _ _ _ (by omega)
          with_reducible refine runK hA hd hQ 200 ?hk ?_
          case hk => exact trivial
          conv => arg 8; cbv
          try simp only [OK]
          refine ⟨by simp (disch := omega) only [hA, OK, s_le, s_inb, s_slb, s_room, s_mks, s_ne0, s_nn, s_eql, s_neq, s_lss, s_leq, s_gtr, s_geq, s_isz, s_bnot, s_beq, s_idx, s_addN, s_subN, s_mulN, s_tn, s_ofn, s_nmin, s_drp, s_tak, s_app, s_len, s_leB, s_add, s_sub, s_mul, s_wr64, s_wr8, bytesE_fold, bytesE_length, bytesE_drop, bytesE_take, bytesE_app, intsE_fold, intsE_length, decide_eq_true_eq, decide_eq_false_iff_not, Nat.mul_one, Nat.zero_add, Nat.add_zero, Bool.not_eq_true', List.length_take, List.length_drop, List.length_append, List.length_cons, List.length_nil, List.drop_zero] <;> decide, _, rfl, .sl 1 1 0 3 (some 3), by rw [hfd, hr']; simp only [getT]; rw [hnn], .inr ⟨1, some 3, by rw [hfd]; rfl, ?_⟩⟩
          rw [hfd, hr']; simp only [getH]
          simp (disch := omega) only [hA, OK, s_le, s_inb, s_slb, s_room, s_mks, s_ne0, s_nn, s_eql, s_neq, s_lss, s_leq, s_gtr, s_geq, s_isz, s_bnot, s_beq, s_idx, s_addN, s_subN, s_mulN, s_tn, s_ofn, s_nmin, s_drp, s_tak, s_app, s_len, s_leB, s_add, s_sub, s_mul, s_wr64, s_wr8, bytesE_fold, bytesE_length, bytesE_drop, bytesE_take, bytesE_app, intsE_fold, intsE_length, decide_eq_true_eq, decide_eq_false_iff_not, Nat.mul_one, Nat.zero_add, Nat.add_zero, Bool.not_eq_true', List.length_take, List.length_drop, List.length_append, List.length_cons, List.length_nil, List.drop_zero , s_wr8m, s_shr8]
          simp only [bytesE, byteV, List.map_cons, List.map_nil]
          congr 3 <;> (try congr 2) <;> (try congr 2) <;> (try congr 2) <;> omega
      · -- the end
        have hr' : R0 = n.toNat := by rw [← hr]; exact mtF_stop _ _ _ _ _ (by omega)
        with_reducible refine runK hA hd hQ 200 ?hk ?_
        case hk => exact trivial
        conv => arg 8; cbv
        try simp only [OK]
        refine ⟨by simp (disch := omega) only [hA, OK, s_le, s_inb, s_slb, s_room, s_mks, s_ne0, s_nn, s_eql, s_neq, s_lss, s_leq, s_gtr, s_geq, s_isz, s_bnot, s_beq, s_idx, s_addN, s_subN, s_mulN, s_tn, s_ofn, s_nmin, s_drp, s_tak, s_app, s_len, s_leB, s_add, s_sub, s_mul, s_wr64, s_wr8, bytesE_fold, bytesE_length, bytesE_drop, bytesE_take, bytesE_app, intsE_fold, intsE_length, decide_eq_true_eq, decide_eq_false_iff_not, Nat.mul_one, Nat.zero_add, Nat.add_zero, Bool.not_eq_true', List.length_take, List.length_drop, List.length_append, List.length_cons, List.length_nil, List.drop_zero] <;> decide, _, rfl, .sl 1 1 0 3 (some 3), by rw [hfd, hr']; simp only [getT]; rw [hnn], .inr ⟨1, some 3, by rw [hfd]; rfl, ?_⟩⟩
        rw [hfd, hr']; simp only [getH]
        simp (disch := omega) only [hA, OK, s_le, s_inb, s_slb, s_room, s_mks, s_ne0, s_nn, s_eql, s_neq, s_lss, s_leq, s_gtr, s_geq, s_isz, s_bnot, s_beq, s_idx, s_addN, s_subN, s_mulN, s_tn, s_ofn, s_nmin, s_drp, s_tak, s_app, s_len, s_leB, s_add, s_sub, s_mul, s_wr64, s_wr8, bytesE_fold, bytesE_length, bytesE_drop, bytesE_take, bytesE_app, intsE_fold, intsE_length, decide_eq_true_eq, decide_eq_false_iff_not, Nat.mul_one, Nat.zero_add, Nat.add_zero, Bool.not_eq_true', List.length_take, List.length_drop, List.length_append, List.length_cons, List.length_nil, List.drop_zero , s_wr8m, s_shr8]
        simp only [bytesE, byteV, List.map_cons, List.map_nil]
        congr 3 <;> (try congr 2) <;> (try congr 2) <;> (try congr 2) <;> omega
    · -- the longest
      have hr' : R0 = n.toNat := by rw [← hr]; rw [show 131 - n.toNat = 0 by omega]; exact mtF_zero _ _ _ _
      with_reducible refine runK hA hd hQ 200 ?hk ?_
      case hk => exact trivial
      conv => arg 8; cbv
      try simp only [OK]
      refine ⟨by simp (disch := omega) only [hA, OK, s_le, s_inb, s_slb, s_room, s_mks, s_ne0, s_nn, s_eql, s_neq, s_lss, s_leq, s_gtr, s_geq, s_isz, s_bnot, s_beq, s_idx, s_addN, s_subN, s_mulN, s_tn, s_ofn, s_nmin, s_drp, s_tak, s_app, s_len, s_leB, s_add, s_sub, s_mul, s_wr64, s_wr8, bytesE_fold, bytesE_length, bytesE_drop, bytesE_take, bytesE_app, intsE_fold, intsE_length, decide_eq_true_eq, decide_eq_false_iff_not, Nat.mul_one, Nat.zero_add, Nat.add_zero, Bool.not_eq_true', List.length_take, List.length_drop, List.length_append, List.length_cons, List.length_nil, List.drop_zero] <;> decide, _, rfl, .sl 1 1 0 3 (some 3), by rw [hfd, hr']; simp only [getT]; rw [hnn], .inr ⟨1, some 3, by rw [hfd]; rfl, ?_⟩⟩
      rw [hfd, hr']; simp only [getH]
      simp (disch := omega) only [hA, OK, s_le, s_inb, s_slb, s_room, s_mks, s_ne0, s_nn, s_eql, s_neq, s_lss, s_leq, s_gtr, s_geq, s_isz, s_bnot, s_beq, s_idx, s_addN, s_subN, s_mulN, s_tn, s_ofn, s_nmin, s_drp, s_tak, s_app, s_len, s_leB, s_add, s_sub, s_mul, s_wr64, s_wr8, bytesE_fold, bytesE_length, bytesE_drop, bytesE_take, bytesE_app, intsE_fold, intsE_length, decide_eq_true_eq, decide_eq_false_iff_not, Nat.mul_one, Nat.zero_add, Nat.add_zero, Bool.not_eq_true', List.length_take, List.length_drop, List.length_append, List.length_cons, List.length_nil, List.drop_zero , s_wr8m, s_shr8]
      simp only [bytesE, byteV, List.map_cons, List.map_nil]
      congr 3 <;> (try congr 2) <;> (try congr 2) <;> (try congr 2) <;> omega

end Go.Proofs.Ytplibngmgebigaa.Press
