/- Pr11: bytes packed by what a finder finds. No conditions beyond those written. -/
import Derived.Test.YtplibngmgebigaaPr10
set_option linter.unusedVariables false
set_option linter.unusedSimpArgs false
namespace Go.Proofs.Ytplibngmgebigaa.Press
open Go Go.Proofs.Ytplibngmgebigaa Go.Proofs.Ytplibngmgebigaa.Em

def pkF (find : Nat → Nat × List Nat) (b : List Nat) : Nat → Nat → Nat → List Nat → List Nat
  | 0, _, fr, out => layF b (b.length - fr) fr b.length out
  | f + 1, i, fr, out => if i < b.length then
      if (find i).1 = 0 then pkF find b f (i + 1) fr out else pkF find b f (i + (find i).1) (i + (find i).1) (layF b (i - fr) fr i out ++ (find i).2)
    else layF b (b.length - fr) fr b.length out

theorem pkF_stop (find : Nat → Nat × List Nat) (b : List Nat) (f i fr : Nat) (out : List Nat) (h : ¬ i < b.length) : pkF find b f i fr out = layF b (b.length - fr) fr b.length out := by
  cases f with
  | zero => rfl
  | succ f => rw [pkF, if_neg h]

/-- What a finder finds fits. -/
def FindOK (b : List Nat) (find : Nat → Nat × List Nat) : Prop :=
  ∀ p, p < b.length → (find p).1 ≠ 0 → p + (find p).1 ≤ b.length ∧ 3 ≤ (find p).1 ∧ 1 ≤ (find p).2.length ∧ (find p).2.length ≤ 3 ∧ AllB (find p).2

theorem getH_b (x y z : EO) (l : EH) (i : Nat) : getH (x :: y :: z :: l) (i + 3) = getH l i := rfl

set_option maxHeartbeats 4000000 in
theorem packedR_own (b : List Nat) (hb : AllB b) (hl : b.length ≤ 65536) (N : Nat) (c : List EV) (hN : N = b.length) (hc : c = bytesE b) (find : Nat → Nat × List Nat) (hok : FindOK b find)
    (hfind : ∀ p, p < b.length → Tri Try.prog [] 48 [.agg [.isl N none c], .lit (.int .i64 (p : Int))] [] fun v h => v = .tup [.lit (.int .i64 ((find p).1 : Int)), isB (find p).2] ∧ h = []) :
    Tri Try.prog [] 23 [.isl N none c, .iface 53 (.agg [.isl N none c])] [] fun v h => (v = .lit (.slice none 0 0) ∧ pkF find b b.length 0 0 [] = []) ∨ (pkF find b b.length 0 0 [] ≠ [] ∧ ∃ id cap, v = .sl 1 id 0 (pkF find b b.length 0 0 []).length cap ∧ getH h id = .blk (bytesE (pkF find b b.length 0 0 []))) := by
  refine Tri_of F23_ok fun I0 ρ0 w0 Q hρ hQ => ?_
  obtain ⟨A, hA⟩ : ∃ A, A = stdA := ⟨_, rfl⟩
  obtain ⟨R0, hR0⟩ : ∃ r, r = pkF find b b.length 0 0 [] := ⟨_, rfl⟩
  rw [← hR0] at hQ
  with_reducible refine runS hA hd hQ 200 ?hk ?_
  case hk => exact trivial
  conv => arg 8; cbv
  try simp only [OK]
  refine OKs.mask (msk 41 [1, 2, 5, 6, 7, 8]) ?_
  refine OKs.loop (fun s => ∃ (i fr : Int) (out : List Nat) (f : Nat), ((s = ⟨mkT 41 [(1, .iface 53 (.agg [.isl N none c])), (2, .ptr 0 0), (5, .ptr 1 0), (6, .ptr 2 0), (7, .fn (.func 27) [] [.ptr 2 0, .ptr 1 0, .ptr 0 0]), (8, .lit (.int .i64 i))], [.blk [.isl N none c], .blk [.lit (.slice none 0 0)], .blk [.lit (.int .i64 fr)]]⟩ ∧ out = []) ∨ ∃ m oc, s = ⟨mkT 41 [(1, .iface 53 (.agg [.isl N none c])), (2, .ptr 0 0), (5, .ptr 1 0), (6, .ptr 2 0), (7, .fn (.func 27) [] [.ptr 2 0, .ptr 1 0, .ptr 0 0]), (8, .lit (.int .i64 i))], [.blk [.isl N none c], .blk [.sl 1 3 0 m none], .blk [.lit (.int .i64 fr)], .blk oc]⟩ ∧ m = out.length ∧ oc = bytesE out ∧ out ≠ []) ∧
      0 ≤ fr ∧ fr ≤ i ∧ i ≤ N ∧ out.length ≤ 2 * fr.toNat ∧ AllB out ∧ N - i.toNat ≤ f ∧ pkF find b f i.toNat fr.toNat out = R0) (fun s => (N - intN (getT s.t 8)).toNat) (fun s hs ih => ?_)
    ⟨0, 0, [], N, .inl ⟨rfl, rfl⟩, by omega, by omega, by omega, by simp, AllB.nil, by omega, by rw [hR0, hN]; rfl⟩
  obtain ⟨i, fr, out, f, hst, hf0, hf1, hi1, hob, ho, hf, hr⟩ := hs
  rcases hst with ⟨rfl, rfl⟩ | ⟨m, oc, rfl, hm', hoc, hne⟩
  · with_reducible refine runS hA hd hQ 200 ?hk ?_
    case hk => exact trivial
    conv => arg 8; cbv
    try simp only [OK]
    refine ⟨fun h1 => ?_, fun h1 => ?_⟩ <;> simp (disch := omega) only [hA, OK, s_le, s_inb, s_slb, s_room, s_mks, s_ne0, s_nn, s_eql, s_neq, s_lss, s_leq, s_gtr, s_geq, s_isz, s_bnot, s_beq, s_idx, s_addN, s_subN, s_mulN, s_tn, s_ofn, s_nmin, s_drp, s_tak, s_app, s_len, s_leB, s_add, s_sub, s_mul, s_wr64, s_wr8, bytesE_fold, bytesE_length, bytesE_drop, bytesE_take, bytesE_app, intsE_fold, intsE_length, decide_eq_true_eq, decide_eq_false_iff_not, Nat.mul_one, Nat.zero_add, Nat.add_zero, Bool.not_eq_true', List.length_take, List.length_drop, List.length_append, List.length_cons, List.length_nil, List.drop_zero] at h1
    · with_reducible refine runK hA hd hQ 200 ?hk ?_
      case hk => exact trivial
      conv => arg 8; cbv
      try simp only [OK]
      obtain ⟨g, rfl⟩ : ∃ g, f = g + 1 := ⟨f - 1, by omega⟩
      rw [pkF, if_pos (by omega)] at hr
      have t := hfind i.toNat (by omega)
      rw [show ((i.toNat : Nat) : Int) = i by omega] at t
      have hk := hok i.toNat (by omega)
      obtain ⟨n, hn⟩ : ∃ n, n = (find i.toNat).1 := ⟨_, rfl⟩
      obtain ⟨it, hit⟩ : ∃ it, it = (find i.toNat).2 := ⟨_, rfl⟩
      rw [← hn, ← hit] at t hk hr
      obtain ⟨nz, hnz⟩ : ∃ nz : Int, nz = (n : Int) := ⟨_, rfl⟩
      obtain ⟨il, ic, hii, hil, hic⟩ := isB_open it
      rw [← hnz, hii] at t
      refine ⟨goodF_of F48_ok, (Tri.clean rfl rfl t _).mono fun v h' hx => ?_⟩
      obtain ⟨hv, hh⟩ := hx
      subst hv; subst hh
      with_reducible refine runK hA hd hQ 200 ?hk ?_
      case hk => exact trivial
      conv => arg 8; cbv
      try simp only [OK]
      refine ⟨fun h2 => ?_, fun h2 => ?_⟩ <;> simp (disch := omega) only [hA, OK, s_le, s_inb, s_slb, s_room, s_mks, s_ne0, s_nn, s_eql, s_neq, s_lss, s_leq, s_gtr, s_geq, s_isz, s_bnot, s_beq, s_idx, s_addN, s_subN, s_mulN, s_tn, s_ofn, s_nmin, s_drp, s_tak, s_app, s_len, s_leB, s_add, s_sub, s_mul, s_wr64, s_wr8, bytesE_fold, bytesE_length, bytesE_drop, bytesE_take, bytesE_app, intsE_fold, intsE_length, decide_eq_true_eq, decide_eq_false_iff_not, Nat.mul_one, Nat.zero_add, Nat.add_zero, Bool.not_eq_true', List.length_take, List.length_drop, List.length_append, List.length_cons, List.length_nil, List.drop_zero] at h2
      · -- nothing here
        rw [if_pos (by omega)] at hr
        with_reducible refine runK hA hd hQ 200 ?hk ?_
        case hk => exact trivial
        conv => arg 8; cbv
        try simp only [OK]
        refine OKs.mask (msk 41 [1, 2, 5, 6, 7, 8]) ?_
        refine ih _ ⟨_, fr, [], g, .inl ⟨rfl, rfl⟩, hf0, ?_, ?_, hob, ho, ?_, ?_⟩ (show (N - A.ib .add .i64 i 1).toNat < (N - i).toNat from ?_)
        all_goals (try simp (disch := omega) only [hA, OK, s_le, s_inb, s_slb, s_room, s_mks, s_ne0, s_nn, s_eql, s_neq, s_lss, s_leq, s_gtr, s_geq, s_isz, s_bnot, s_beq, s_idx, s_addN, s_subN, s_mulN, s_tn, s_ofn, s_nmin, s_drp, s_tak, s_app, s_len, s_leB, s_add, s_sub, s_mul, s_wr64, s_wr8, bytesE_fold, bytesE_length, bytesE_drop, bytesE_take, bytesE_app, intsE_fold, intsE_length, decide_eq_true_eq, decide_eq_false_iff_not, Nat.mul_one, Nat.zero_add, Nat.add_zero, Bool.not_eq_true', List.length_take, List.length_drop, List.length_append, List.length_cons, List.length_nil, List.drop_zero])
        all_goals first | omega | (rw [show (i + 1).toNat = i.toNat + 1 by omega]; exact hr)
      · -- an item
        rw [if_neg (by omega)] at hr
        obtain ⟨k1, k2, k3, k4, k5⟩ := hk (by omega)
        clear hk
        have hll := layF_length b (i.toNat - fr.toNat) fr.toNat i.toNat []
        have hla := layF_all b hb (i.toNat - fr.toNat) fr.toNat i.toNat [] ho
        simp only [List.length_nil] at hll hob
        with_reducible refine runK hA hd hQ 200 ?hk ?_
        case hk => exact trivial
        conv => arg 8; cbv
        try simp only [OK]
        refine ⟨goodF_of F27_ok, (lay_nil b hb hl N c hN hc fr i ⟨by omega, by omega⟩ ⟨by omega, by omega⟩ (by simp only [List.length_nil]; omega)).mono fun v h' hx => ?_⟩
        obtain ⟨hv, hh⟩ := hx
        subst hv
        obtain ⟨lo, hlo⟩ : ∃ lo, lo = layF b (i.toNat - fr.toNat) fr.toNat i.toNat [] := ⟨_, rfl⟩
        rw [← hlo] at hh hll hla hr
        rcases hh with ⟨hlo0, fr2, rfl⟩ | ⟨m2, oc2, fr2, rfl, hm2, hoc2, hne2⟩
        · with_reducible refine runK hA hd hQ 200 ?hk ?_
          case hk => exact trivial
          conv => arg 8; cbv
          try simp only [OK]
          refine ⟨by simp (disch := omega) only [hA, OK, s_le, s_inb, s_slb, s_room, s_mks, s_ne0, s_nn, s_eql, s_neq, s_lss, s_leq, s_gtr, s_geq, s_isz, s_bnot, s_beq, s_idx, s_addN, s_subN, s_mulN, s_tn, s_ofn, s_nmin, s_drp, s_tak, s_app, s_len, s_leB, s_add, s_sub, s_mul, s_wr64, s_wr8, bytesE_fold, bytesE_length, bytesE_drop, bytesE_take, bytesE_app, intsE_fold, intsE_length, decide_eq_true_eq, decide_eq_false_iff_not, Nat.mul_one, Nat.zero_add, Nat.add_zero, Bool.not_eq_true', List.length_take, List.length_drop, List.length_append, List.length_cons, List.length_nil, List.drop_zero , hic] <;> omega, by simp (disch := omega) only [hA, OK, s_le, s_inb, s_slb, s_room, s_mks, s_ne0, s_nn, s_eql, s_neq, s_lss, s_leq, s_gtr, s_geq, s_isz, s_bnot, s_beq, s_idx, s_addN, s_subN, s_mulN, s_tn, s_ofn, s_nmin, s_drp, s_tak, s_app, s_len, s_leB, s_add, s_sub, s_mul, s_wr64, s_wr8, bytesE_fold, bytesE_length, bytesE_drop, bytesE_take, bytesE_app, intsE_fold, intsE_length, decide_eq_true_eq, decide_eq_false_iff_not, Nat.mul_one, Nat.zero_add, Nat.add_zero, Bool.not_eq_true', List.length_take, List.length_drop, List.length_append, List.length_cons, List.length_nil, List.drop_zero] <;> omega, fun h3 => absurd h3 (by simp (disch := omega) only [hA, OK, s_le, s_inb, s_slb, s_room, s_mks, s_ne0, s_nn, s_eql, s_neq, s_lss, s_leq, s_gtr, s_geq, s_isz, s_bnot, s_beq, s_idx, s_addN, s_subN, s_mulN, s_tn, s_ofn, s_nmin, s_drp, s_tak, s_app, s_len, s_leB, s_add, s_sub, s_mul, s_wr64, s_wr8, bytesE_fold, bytesE_length, bytesE_drop, bytesE_take, bytesE_app, intsE_fold, intsE_length, decide_eq_true_eq, decide_eq_false_iff_not, Nat.mul_one, Nat.zero_add, Nat.add_zero, Bool.not_eq_true', List.length_take, List.length_drop, List.length_append, List.length_cons, List.length_nil, List.drop_zero] <;> omega), fun h3 => ?_⟩
          with_reducible refine runK hA hd hQ 200 ?hk ?_
          case hk => exact trivial
          conv => arg 8; cbv
          try simp only [OK]
          refine OKs.mask (msk 41 [1, 2, 5, 6, 7, 8]) (OKs.mv [0, 1, 2, 3] [] (by rw [hρ]; rfl) ⟨by simp, by simp [sizeH], by simp⟩ ?_)
          have zz : (i + nz).toNat = i.toNat + n := by omega
          refine ih _ ⟨_, _, lo ++ it, g, .inr ⟨_, _, rfl, ?_, ?_, ?_⟩, ?_, ?_, ?_, ?_, hla.app k5, ?_, ?_⟩ (show (N - A.ib .add .i64 i nz).toNat < (N - i).toNat from ?_)
          all_goals (try simp (disch := omega) only [hA, OK, s_le, s_inb, s_slb, s_room, s_mks, s_ne0, s_nn, s_eql, s_neq, s_lss, s_leq, s_gtr, s_geq, s_isz, s_bnot, s_beq, s_idx, s_addN, s_subN, s_mulN, s_tn, s_ofn, s_nmin, s_drp, s_tak, s_app, s_len, s_leB, s_add, s_sub, s_mul, s_wr64, s_wr8, bytesE_fold, bytesE_length, bytesE_drop, bytesE_take, bytesE_app, intsE_fold, intsE_length, decide_eq_true_eq, decide_eq_false_iff_not, Nat.mul_one, Nat.zero_add, Nat.add_zero, Bool.not_eq_true', List.length_take, List.length_drop, List.length_append, List.length_cons, List.length_nil, List.drop_zero , hic, mvL_bytes])
          all_goals first | omega | (rw [zz]; exact hr) | skip
          · rw [hlo0]; simp; omega
          · rw [hlo0, hil, List.take_length]; rfl
          · intro h; have := congrArg List.length h; rw [List.length_append, List.length_nil] at this; omega
        · with_reducible refine runK hA hd hQ 200 ?hk ?_
          case hk => exact trivial
          conv => arg 8; cbv
          try simp only [OK]
          have z1 : A.le (A.mul il 1) (A.len (A.tak (A.mul il 1) ic)) = true := by simp (disch := omega) only [hA, OK, s_le, s_inb, s_slb, s_room, s_mks, s_ne0, s_nn, s_eql, s_neq, s_lss, s_leq, s_gtr, s_geq, s_isz, s_bnot, s_beq, s_idx, s_addN, s_subN, s_mulN, s_tn, s_ofn, s_nmin, s_drp, s_tak, s_app, s_len, s_leB, s_add, s_sub, s_mul, s_wr64, s_wr8, bytesE_fold, bytesE_length, bytesE_drop, bytesE_take, bytesE_app, intsE_fold, intsE_length, decide_eq_true_eq, decide_eq_false_iff_not, Nat.mul_one, Nat.zero_add, Nat.add_zero, Bool.not_eq_true', List.length_take, List.length_drop, List.length_append, List.length_cons, List.length_nil, List.drop_zero , hic] <;> omega
          have z2 : A.le (A.add 0 (A.mul m2 1)) (A.len oc2) = true := by simp (disch := omega) only [hA, OK, s_le, s_inb, s_slb, s_room, s_mks, s_ne0, s_nn, s_eql, s_neq, s_lss, s_leq, s_gtr, s_geq, s_isz, s_bnot, s_beq, s_idx, s_addN, s_subN, s_mulN, s_tn, s_ofn, s_nmin, s_drp, s_tak, s_app, s_len, s_leB, s_add, s_sub, s_mul, s_wr64, s_wr8, bytesE_fold, bytesE_length, bytesE_drop, bytesE_take, bytesE_app, intsE_fold, intsE_length, decide_eq_true_eq, decide_eq_false_iff_not, Nat.mul_one, Nat.zero_add, Nat.add_zero, Bool.not_eq_true', List.length_take, List.length_drop, List.length_append, List.length_cons, List.length_nil, List.drop_zero , hoc2] <;> omega
          have z3 : A.room (A.add m2 il) 1 = true := by simp (disch := omega) only [hA, OK, s_le, s_inb, s_slb, s_room, s_mks, s_ne0, s_nn, s_eql, s_neq, s_lss, s_leq, s_gtr, s_geq, s_isz, s_bnot, s_beq, s_idx, s_addN, s_subN, s_mulN, s_tn, s_ofn, s_nmin, s_drp, s_tak, s_app, s_len, s_leB, s_add, s_sub, s_mul, s_wr64, s_wr8, bytesE_fold, bytesE_length, bytesE_drop, bytesE_take, bytesE_app, intsE_fold, intsE_length, decide_eq_true_eq, decide_eq_false_iff_not, Nat.mul_one, Nat.zero_add, Nat.add_zero, Bool.not_eq_true', List.length_take, List.length_drop, List.length_append, List.length_cons, List.length_nil, List.drop_zero] <;> omega
          refine ⟨z1, z2, z3, ?_⟩
          refine OKs.mask (msk 41 [1, 2, 5, 6, 7, 8]) (OKs.mv [0, 1, 2, 4] [] (by rw [hρ]; rfl) ⟨by simp, by simp [sizeH], by simp⟩ ?_)
          have zz : (i + nz).toNat = i.toNat + n := by omega
          refine ih _ ⟨_, _, lo ++ it, g, .inr ⟨_, _, rfl, ?_, ?_, ?_⟩, ?_, ?_, ?_, ?_, hla.app k5, ?_, ?_⟩ (show (N - A.ib .add .i64 i nz).toNat < (N - i).toNat from ?_)
          all_goals (try simp (disch := omega) only [hA, OK, s_le, s_inb, s_slb, s_room, s_mks, s_ne0, s_nn, s_eql, s_neq, s_lss, s_leq, s_gtr, s_geq, s_isz, s_bnot, s_beq, s_idx, s_addN, s_subN, s_mulN, s_tn, s_ofn, s_nmin, s_drp, s_tak, s_app, s_len, s_leB, s_add, s_sub, s_mul, s_wr64, s_wr8, bytesE_fold, bytesE_length, bytesE_drop, bytesE_take, bytesE_app, intsE_fold, intsE_length, decide_eq_true_eq, decide_eq_false_iff_not, Nat.mul_one, Nat.zero_add, Nat.add_zero, Bool.not_eq_true', List.length_take, List.length_drop, List.length_append, List.length_cons, List.length_nil, List.drop_zero , hic, mvL_bytes, hoc2])
          all_goals first | omega | (rw [zz]; exact hr) | skip
          · rw [hm2, hil, List.take_length, List.take_length]
          · exact fun h => hne2 (List.append_eq_nil_iff.1 h).1
    · with_reducible refine runK hA hd hQ 200 ?hk ?_
      case hk => exact trivial
      conv => arg 8; cbv
      try simp only [OK]
      have hie : i = N := by omega
      refine ⟨goodF_of F27_ok, (lay_nil b hb hl N c hN hc fr (A.ofn N) ⟨by omega, by omega⟩ (by rw [hA, s_ofn]; omega) (by rw [hA, s_ofn]; simp only [List.length_nil]; omega)).mono fun v h' hx => ?_⟩
      obtain ⟨hv, hh⟩ := hx
      subst hv
      rw [pkF_stop _ _ _ _ _ _ (by omega)] at hr
      rw [show layF b ((A.ofn N).toNat - fr.toNat) fr.toNat (A.ofn N).toNat [] = R0 by rw [← hr, hA, s_ofn, Int.toNat_natCast, hN]] at hh
      rcases hh with ⟨hlo0, fr2, rfl⟩ | ⟨m2, oc2, fr2, rfl, hm2, hoc2, hne2⟩
      · with_reducible refine runK hA hd hQ 200 ?hk ?_
        case hk => exact trivial
        conv => arg 8; cbv
        try simp only [OK]
        exact ⟨_, rfl, .inl ⟨rfl, hlo0⟩⟩
      · with_reducible refine runK hA hd hQ 200 ?hk ?_
        case hk => exact trivial
        conv => arg 8; cbv
        try simp only [OK]
        exact ⟨_, rfl, .inr ⟨hne2, 3, none, by rw [← hm2]; rfl, by rw [← hoc2]; rfl⟩⟩
  · with_reducible refine runS hA hd hQ 200 ?hk ?_
    case hk => exact trivial
    conv => arg 8; cbv
    try simp only [OK]
    refine ⟨fun h1 => ?_, fun h1 => ?_⟩ <;> simp (disch := omega) only [hA, OK, s_le, s_inb, s_slb, s_room, s_mks, s_ne0, s_nn, s_eql, s_neq, s_lss, s_leq, s_gtr, s_geq, s_isz, s_bnot, s_beq, s_idx, s_addN, s_subN, s_mulN, s_tn, s_ofn, s_nmin, s_drp, s_tak, s_app, s_len, s_leB, s_add, s_sub, s_mul, s_wr64, s_wr8, bytesE_fold, bytesE_length, bytesE_drop, bytesE_take, bytesE_app, intsE_fold, intsE_length, decide_eq_true_eq, decide_eq_false_iff_not, Nat.mul_one, Nat.zero_add, Nat.add_zero, Bool.not_eq_true', List.length_take, List.length_drop, List.length_append, List.length_cons, List.length_nil, List.drop_zero] at h1
    · with_reducible refine runK hA hd hQ 200 ?hk ?_
      case hk => exact trivial
      conv => arg 8; cbv
      try simp only [OK]
      obtain ⟨g, rfl⟩ : ∃ g, f = g + 1 := ⟨f - 1, by omega⟩
      rw [pkF, if_pos (by omega)] at hr
      have t := hfind i.toNat (by omega)
      rw [show ((i.toNat : Nat) : Int) = i by omega] at t
      have hk := hok i.toNat (by omega)
      obtain ⟨n, hn⟩ : ∃ n, n = (find i.toNat).1 := ⟨_, rfl⟩
      obtain ⟨it, hit⟩ : ∃ it, it = (find i.toNat).2 := ⟨_, rfl⟩
      rw [← hn, ← hit] at t hk hr
      obtain ⟨nz, hnz⟩ : ∃ nz : Int, nz = (n : Int) := ⟨_, rfl⟩
      obtain ⟨il, ic, hii, hil, hic⟩ := isB_open it
      rw [← hnz, hii] at t
      refine ⟨goodF_of F48_ok, (Tri.clean rfl rfl t _).mono fun v h' hx => ?_⟩
      obtain ⟨hv, hh⟩ := hx
      subst hv; subst hh
      with_reducible refine runK hA hd hQ 200 ?hk ?_
      case hk => exact trivial
      conv => arg 8; cbv
      try simp only [OK]
      refine ⟨fun h2 => ?_, fun h2 => ?_⟩ <;> simp (disch := omega) only [hA, OK, s_le, s_inb, s_slb, s_room, s_mks, s_ne0, s_nn, s_eql, s_neq, s_lss, s_leq, s_gtr, s_geq, s_isz, s_bnot, s_beq, s_idx, s_addN, s_subN, s_mulN, s_tn, s_ofn, s_nmin, s_drp, s_tak, s_app, s_len, s_leB, s_add, s_sub, s_mul, s_wr64, s_wr8, bytesE_fold, bytesE_length, bytesE_drop, bytesE_take, bytesE_app, intsE_fold, intsE_length, decide_eq_true_eq, decide_eq_false_iff_not, Nat.mul_one, Nat.zero_add, Nat.add_zero, Bool.not_eq_true', List.length_take, List.length_drop, List.length_append, List.length_cons, List.length_nil, List.drop_zero] at h2
      · -- nothing here
        rw [if_pos (by omega)] at hr
        with_reducible refine runK hA hd hQ 200 ?hk ?_
        case hk => exact trivial
        conv => arg 8; cbv
        try simp only [OK]
        refine OKs.mask (msk 41 [1, 2, 5, 6, 7, 8]) ?_
        refine ih _ ⟨_, fr, out, g, .inr ⟨_, _, rfl, hm', hoc, hne⟩, hf0, ?_, ?_, hob, ho, ?_, ?_⟩ (show (N - A.ib .add .i64 i 1).toNat < (N - i).toNat from ?_)
        all_goals (try simp (disch := omega) only [hA, OK, s_le, s_inb, s_slb, s_room, s_mks, s_ne0, s_nn, s_eql, s_neq, s_lss, s_leq, s_gtr, s_geq, s_isz, s_bnot, s_beq, s_idx, s_addN, s_subN, s_mulN, s_tn, s_ofn, s_nmin, s_drp, s_tak, s_app, s_len, s_leB, s_add, s_sub, s_mul, s_wr64, s_wr8, bytesE_fold, bytesE_length, bytesE_drop, bytesE_take, bytesE_app, intsE_fold, intsE_length, decide_eq_true_eq, decide_eq_false_iff_not, Nat.mul_one, Nat.zero_add, Nat.add_zero, Bool.not_eq_true', List.length_take, List.length_drop, List.length_append, List.length_cons, List.length_nil, List.drop_zero])
        all_goals first | omega | (rw [show (i + 1).toNat = i.toNat + 1 by omega]; exact hr)
      · -- an item
        rw [if_neg (by omega)] at hr
        obtain ⟨k1, k2, k3, k4, k5⟩ := hk (by omega)
        clear hk
        have hll := layF_length b (i.toNat - fr.toNat) fr.toNat i.toNat out
        have hla := layF_all b hb (i.toNat - fr.toNat) fr.toNat i.toNat out ho
        with_reducible refine runK hA hd hQ 200 ?hk ?_
        case hk => exact trivial
        conv => arg 8; cbv
        try simp only [OK]
        refine ⟨goodF_of F27_ok, (lay_sl b hb hl out ho N c hN hc m oc hm' hoc hne fr i ⟨by omega, by omega⟩ ⟨by omega, by omega⟩ (by omega)).mono fun v h' hx => ?_⟩
        obtain ⟨hv, hh⟩ := hx
        subst hv
        obtain ⟨lo, hlo⟩ : ∃ lo, lo = layF b (i.toNat - fr.toNat) fr.toNat i.toNat out := ⟨_, rfl⟩
        rw [← hlo] at hh hll hla hr
        rcases hh with ⟨m2, oc2, fr2, rfl, hm2, hoc2, hne2⟩ | ⟨m2, oc2, fr2, rfl, hm2, hoc2, hne2⟩
        · with_reducible refine runK hA hd hQ 200 ?hk ?_
          case hk => exact trivial
          conv => arg 8; cbv
          try simp only [OK]
          have z1 : A.le (A.mul il 1) (A.len (A.tak (A.mul il 1) ic)) = true := by simp (disch := omega) only [hA, OK, s_le, s_inb, s_slb, s_room, s_mks, s_ne0, s_nn, s_eql, s_neq, s_lss, s_leq, s_gtr, s_geq, s_isz, s_bnot, s_beq, s_idx, s_addN, s_subN, s_mulN, s_tn, s_ofn, s_nmin, s_drp, s_tak, s_app, s_len, s_leB, s_add, s_sub, s_mul, s_wr64, s_wr8, bytesE_fold, bytesE_length, bytesE_drop, bytesE_take, bytesE_app, intsE_fold, intsE_length, decide_eq_true_eq, decide_eq_false_iff_not, Nat.mul_one, Nat.zero_add, Nat.add_zero, Bool.not_eq_true', List.length_take, List.length_drop, List.length_append, List.length_cons, List.length_nil, List.drop_zero , hic] <;> omega
          have z2 : A.le (A.add 0 (A.mul m2 1)) (A.len oc2) = true := by simp (disch := omega) only [hA, OK, s_le, s_inb, s_slb, s_room, s_mks, s_ne0, s_nn, s_eql, s_neq, s_lss, s_leq, s_gtr, s_geq, s_isz, s_bnot, s_beq, s_idx, s_addN, s_subN, s_mulN, s_tn, s_ofn, s_nmin, s_drp, s_tak, s_app, s_len, s_leB, s_add, s_sub, s_mul, s_wr64, s_wr8, bytesE_fold, bytesE_length, bytesE_drop, bytesE_take, bytesE_app, intsE_fold, intsE_length, decide_eq_true_eq, decide_eq_false_iff_not, Nat.mul_one, Nat.zero_add, Nat.add_zero, Bool.not_eq_true', List.length_take, List.length_drop, List.length_append, List.length_cons, List.length_nil, List.drop_zero , hoc2] <;> omega
          have z3 : A.room (A.add m2 il) 1 = true := by simp (disch := omega) only [hA, OK, s_le, s_inb, s_slb, s_room, s_mks, s_ne0, s_nn, s_eql, s_neq, s_lss, s_leq, s_gtr, s_geq, s_isz, s_bnot, s_beq, s_idx, s_addN, s_subN, s_mulN, s_tn, s_ofn, s_nmin, s_drp, s_tak, s_app, s_len, s_leB, s_add, s_sub, s_mul, s_wr64, s_wr8, bytesE_fold, bytesE_length, bytesE_drop, bytesE_take, bytesE_app, intsE_fold, intsE_length, decide_eq_true_eq, decide_eq_false_iff_not, Nat.mul_one, Nat.zero_add, Nat.add_zero, Bool.not_eq_true', List.length_take, List.length_drop, List.length_append, List.length_cons, List.length_nil, List.drop_zero] <;> omega
          refine ⟨z1, z2, z3, ?_⟩
          refine OKs.mask (msk 41 [1, 2, 5, 6, 7, 8]) (OKs.mv [0, 1, 2, 4] [] (by rw [hρ]; rfl) ⟨by simp, by simp [sizeH], by simp⟩ ?_)
          have zz : (i + nz).toNat = i.toNat + n := by omega
          refine ih _ ⟨_, _, lo ++ it, g, .inr ⟨_, _, rfl, ?_, ?_, ?_⟩, ?_, ?_, ?_, ?_, hla.app k5, ?_, ?_⟩ (show (N - A.ib .add .i64 i nz).toNat < (N - i).toNat from ?_)
          all_goals (try simp (disch := omega) only [hA, OK, s_le, s_inb, s_slb, s_room, s_mks, s_ne0, s_nn, s_eql, s_neq, s_lss, s_leq, s_gtr, s_geq, s_isz, s_bnot, s_beq, s_idx, s_addN, s_subN, s_mulN, s_tn, s_ofn, s_nmin, s_drp, s_tak, s_app, s_len, s_leB, s_add, s_sub, s_mul, s_wr64, s_wr8, bytesE_fold, bytesE_length, bytesE_drop, bytesE_take, bytesE_app, intsE_fold, intsE_length, decide_eq_true_eq, decide_eq_false_iff_not, Nat.mul_one, Nat.zero_add, Nat.add_zero, Bool.not_eq_true', List.length_take, List.length_drop, List.length_append, List.length_cons, List.length_nil, List.drop_zero , hic, mvL_bytes, hoc2])
          all_goals first | omega | (rw [zz]; exact hr) | skip
          · rw [hm2, hil, List.take_length, List.take_length]
          · exact fun h => hne2 (List.append_eq_nil_iff.1 h).1
        · with_reducible refine runK hA hd hQ 200 ?hk ?_
          case hk => exact trivial
          conv => arg 8; cbv
          try simp only [OK]
          have z1 : A.le (A.mul il 1) (A.len (A.tak (A.mul il 1) ic)) = true := by simp (disch := omega) only [hA, OK, s_le, s_inb, s_slb, s_room, s_mks, s_ne0, s_nn, s_eql, s_neq, s_lss, s_leq, s_gtr, s_geq, s_isz, s_bnot, s_beq, s_idx, s_addN, s_subN, s_mulN, s_tn, s_ofn, s_nmin, s_drp, s_tak, s_app, s_len, s_leB, s_add, s_sub, s_mul, s_wr64, s_wr8, bytesE_fold, bytesE_length, bytesE_drop, bytesE_take, bytesE_app, intsE_fold, intsE_length, decide_eq_true_eq, decide_eq_false_iff_not, Nat.mul_one, Nat.zero_add, Nat.add_zero, Bool.not_eq_true', List.length_take, List.length_drop, List.length_append, List.length_cons, List.length_nil, List.drop_zero , hic] <;> omega
          have z2 : A.le (A.add 0 (A.mul m2 1)) (A.len oc2) = true := by simp (disch := omega) only [hA, OK, s_le, s_inb, s_slb, s_room, s_mks, s_ne0, s_nn, s_eql, s_neq, s_lss, s_leq, s_gtr, s_geq, s_isz, s_bnot, s_beq, s_idx, s_addN, s_subN, s_mulN, s_tn, s_ofn, s_nmin, s_drp, s_tak, s_app, s_len, s_leB, s_add, s_sub, s_mul, s_wr64, s_wr8, bytesE_fold, bytesE_length, bytesE_drop, bytesE_take, bytesE_app, intsE_fold, intsE_length, decide_eq_true_eq, decide_eq_false_iff_not, Nat.mul_one, Nat.zero_add, Nat.add_zero, Bool.not_eq_true', List.length_take, List.length_drop, List.length_append, List.length_cons, List.length_nil, List.drop_zero , hoc2] <;> omega
          have z3 : A.room (A.add m2 il) 1 = true := by simp (disch := omega) only [hA, OK, s_le, s_inb, s_slb, s_room, s_mks, s_ne0, s_nn, s_eql, s_neq, s_lss, s_leq, s_gtr, s_geq, s_isz, s_bnot, s_beq, s_idx, s_addN, s_subN, s_mulN, s_tn, s_ofn, s_nmin, s_drp, s_tak, s_app, s_len, s_leB, s_add, s_sub, s_mul, s_wr64, s_wr8, bytesE_fold, bytesE_length, bytesE_drop, bytesE_take, bytesE_app, intsE_fold, intsE_length, decide_eq_true_eq, decide_eq_false_iff_not, Nat.mul_one, Nat.zero_add, Nat.add_zero, Bool.not_eq_true', List.length_take, List.length_drop, List.length_append, List.length_cons, List.length_nil, List.drop_zero] <;> omega
          refine ⟨z1, z2, z3, ?_⟩
          refine OKs.mask (msk 41 [1, 2, 5, 6, 7, 8]) (OKs.mv [0, 1, 2, 5] [] (by rw [hρ]; rfl) ⟨by simp, by simp [sizeH], by simp⟩ ?_)
          have zz : (i + nz).toNat = i.toNat + n := by omega
          refine ih _ ⟨_, _, lo ++ it, g, .inr ⟨_, _, rfl, ?_, ?_, ?_⟩, ?_, ?_, ?_, ?_, hla.app k5, ?_, ?_⟩ (show (N - A.ib .add .i64 i nz).toNat < (N - i).toNat from ?_)
          all_goals (try simp (disch := omega) only [hA, OK, s_le, s_inb, s_slb, s_room, s_mks, s_ne0, s_nn, s_eql, s_neq, s_lss, s_leq, s_gtr, s_geq, s_isz, s_bnot, s_beq, s_idx, s_addN, s_subN, s_mulN, s_tn, s_ofn, s_nmin, s_drp, s_tak, s_app, s_len, s_leB, s_add, s_sub, s_mul, s_wr64, s_wr8, bytesE_fold, bytesE_length, bytesE_drop, bytesE_take, bytesE_app, intsE_fold, intsE_length, decide_eq_true_eq, decide_eq_false_iff_not, Nat.mul_one, Nat.zero_add, Nat.add_zero, Bool.not_eq_true', List.length_take, List.length_drop, List.length_append, List.length_cons, List.length_nil, List.drop_zero , hic, mvL_bytes, hoc2])
          all_goals first | omega | (rw [zz]; exact hr) | skip
          · rw [hm2, hil, List.take_length, List.take_length]
          · exact fun h => hne2 (List.append_eq_nil_iff.1 h).1
    · with_reducible refine runK hA hd hQ 200 ?hk ?_
      case hk => exact trivial
      conv => arg 8; cbv
      try simp only [OK]
      have hie : i = N := by omega
      refine ⟨goodF_of F27_ok, (lay_sl b hb hl out ho N c hN hc m oc hm' hoc hne fr (A.ofn N) ⟨by omega, by omega⟩ (by rw [hA, s_ofn]; omega) (by rw [hA, s_ofn]; omega)).mono fun v h' hx => ?_⟩
      obtain ⟨hv, hh⟩ := hx
      subst hv
      rw [pkF_stop _ _ _ _ _ _ (by omega)] at hr
      rw [show layF b ((A.ofn N).toNat - fr.toNat) fr.toNat (A.ofn N).toNat out = R0 by rw [← hr, hA, s_ofn, Int.toNat_natCast, hN]] at hh
      rcases hh with ⟨m2, oc2, fr2, rfl, hm2, hoc2, hne2⟩ | ⟨m2, oc2, fr2, rfl, hm2, hoc2, hne2⟩
      · with_reducible refine runK hA hd hQ 200 ?hk ?_
        case hk => exact trivial
        conv => arg 8; cbv
        try simp only [OK]
        exact ⟨_, rfl, .inr ⟨hne2, 3, none, by rw [← hm2]; rfl, by rw [← hoc2]; rfl⟩⟩
      · with_reducible refine runK hA hd hQ 200 ?hk ?_
        case hk => exact trivial
        conv => arg 8; cbv
        try simp only [OK]
        exact ⟨_, rfl, .inr ⟨hne2, 4, none, by rw [← hm2]; rfl, by rw [← hoc2]; rfl⟩⟩

theorem packedR (b : List Nat) (hb : AllB b) (hl : b.length ≤ 65536) (N : Nat) (c : List EV) (hN : N = b.length) (hc : c = bytesE b) (find : Nat → Nat × List Nat) (hok : FindOK b find)
    (hfind : ∀ p, p < b.length → Tri Try.prog [] 48 [.agg [.isl N none c], .lit (.int .i64 (p : Int))] [] fun v h => v = .tup [.lit (.int .i64 ((find p).1 : Int)), isB (find p).2] ∧ h = []) :
    Tri Try.prog [] 23 [.isl N none c, .iface 53 (.agg [.isl N none c])] [] fun v h => v = isB (pkF find b b.length 0 0 []) ∧ h = [] :=
  Tri.frozen1 ((packedR_own b hb hl N c hN hc find hok hfind).mono fun v h hx => hx.imp id fun hy => hy.2)

set_option maxHeartbeats 4000000 in
theorem packedB_own (b : List Nat) (hb : AllB b) (hl : b.length ≤ 65536) (N : Nat) (c : List EV) (N2 : Nat) (c2 : List EV) (hN : N = b.length) (hc : c = bytesE b) (find : Nat → Nat × List Nat) (hok : FindOK b find)
    (hfind : ∀ p, p < b.length → Tri Try.prog [] 49 [.agg [.isl N none c, .isl N2 none c2], .lit (.int .i64 (p : Int))] [] fun v h => v = .tup [.lit (.int .i64 ((find p).1 : Int)), isB (find p).2] ∧ h = []) :
    Tri Try.prog [] 23 [.isl N none c, .iface 55 (.agg [.isl N none c, .isl N2 none c2])] [] fun v h => (v = .lit (.slice none 0 0) ∧ pkF find b b.length 0 0 [] = []) ∨ (pkF find b b.length 0 0 [] ≠ [] ∧ ∃ id cap, v = .sl 1 id 0 (pkF find b b.length 0 0 []).length cap ∧ getH h id = .blk (bytesE (pkF find b b.length 0 0 []))) := by
  refine Tri_of F23_ok fun I0 ρ0 w0 Q hρ hQ => ?_
  obtain ⟨A, hA⟩ : ∃ A, A = stdA := ⟨_, rfl⟩
  obtain ⟨R0, hR0⟩ : ∃ r, r = pkF find b b.length 0 0 [] := ⟨_, rfl⟩
  rw [← hR0] at hQ
  with_reducible refine runS hA hd hQ 200 ?hk ?_
  case hk => exact trivial
  conv => arg 8; cbv
  try simp only [OK]
  refine OKs.mask (msk 41 [1, 2, 5, 6, 7, 8]) ?_
  refine OKs.loop (fun s => ∃ (i fr : Int) (out : List Nat) (f : Nat), ((s = ⟨mkT 41 [(1, .iface 55 (.agg [.isl N none c, .isl N2 none c2])), (2, .ptr 0 0), (5, .ptr 1 0), (6, .ptr 2 0), (7, .fn (.func 27) [] [.ptr 2 0, .ptr 1 0, .ptr 0 0]), (8, .lit (.int .i64 i))], [.blk [.isl N none c], .blk [.lit (.slice none 0 0)], .blk [.lit (.int .i64 fr)]]⟩ ∧ out = []) ∨ ∃ m oc, s = ⟨mkT 41 [(1, .iface 55 (.agg [.isl N none c, .isl N2 none c2])), (2, .ptr 0 0), (5, .ptr 1 0), (6, .ptr 2 0), (7, .fn (.func 27) [] [.ptr 2 0, .ptr 1 0, .ptr 0 0]), (8, .lit (.int .i64 i))], [.blk [.isl N none c], .blk [.sl 1 3 0 m none], .blk [.lit (.int .i64 fr)], .blk oc]⟩ ∧ m = out.length ∧ oc = bytesE out ∧ out ≠ []) ∧
      0 ≤ fr ∧ fr ≤ i ∧ i ≤ N ∧ out.length ≤ 2 * fr.toNat ∧ AllB out ∧ N - i.toNat ≤ f ∧ pkF find b f i.toNat fr.toNat out = R0) (fun s => (N - intN (getT s.t 8)).toNat) (fun s hs ih => ?_)
    ⟨0, 0, [], N, .inl ⟨rfl, rfl⟩, by omega, by omega, by omega, by simp, AllB.nil, by omega, by rw [hR0, hN]; rfl⟩
  obtain ⟨i, fr, out, f, hst, hf0, hf1, hi1, hob, ho, hf, hr⟩ := hs
  rcases hst with ⟨rfl, rfl⟩ | ⟨m, oc, rfl, hm', hoc, hne⟩
  · with_reducible refine runS hA hd hQ 200 ?hk ?_
    case hk => exact trivial
    conv => arg 8; cbv
    try simp only [OK]
    refine ⟨fun h1 => ?_, fun h1 => ?_⟩ <;> simp (disch := omega) only [hA, OK, s_le, s_inb, s_slb, s_room, s_mks, s_ne0, s_nn, s_eql, s_neq, s_lss, s_leq, s_gtr, s_geq, s_isz, s_bnot, s_beq, s_idx, s_addN, s_subN, s_mulN, s_tn, s_ofn, s_nmin, s_drp, s_tak, s_app, s_len, s_leB, s_add, s_sub, s_mul, s_wr64, s_wr8, bytesE_fold, bytesE_length, bytesE_drop, bytesE_take, bytesE_app, intsE_fold, intsE_length, decide_eq_true_eq, decide_eq_false_iff_not, Nat.mul_one, Nat.zero_add, Nat.add_zero, Bool.not_eq_true', List.length_take, List.length_drop, List.length_append, List.length_cons, List.length_nil, List.drop_zero] at h1
    · with_reducible refine runK hA hd hQ 200 ?hk ?_
      case hk => exact trivial
      conv => arg 8; cbv
      try simp only [OK]
      obtain ⟨g, rfl⟩ : ∃ g, f = g + 1 := ⟨f - 1, by omega⟩
      rw [pkF, if_pos (by omega)] at hr
      have t := hfind i.toNat (by omega)
      rw [show ((i.toNat : Nat) : Int) = i by omega] at t
      have hk := hok i.toNat (by omega)
      obtain ⟨n, hn⟩ : ∃ n, n = (find i.toNat).1 := ⟨_, rfl⟩
      obtain ⟨it, hit⟩ : ∃ it, it = (find i.toNat).2 := ⟨_, rfl⟩
      rw [← hn, ← hit] at t hk hr
      obtain ⟨nz, hnz⟩ : ∃ nz : Int, nz = (n : Int) := ⟨_, rfl⟩
      obtain ⟨il, ic, hii, hil, hic⟩ := isB_open it
      rw [← hnz, hii] at t
      refine ⟨goodF_of F49_ok, (Tri.clean rfl rfl t _).mono fun v h' hx => ?_⟩
      obtain ⟨hv, hh⟩ := hx
      subst hv; subst hh
      with_reducible refine runK hA hd hQ 200 ?hk ?_
      case hk => exact trivial
      conv => arg 8; cbv
      try simp only [OK]
      refine ⟨fun h2 => ?_, fun h2 => ?_⟩ <;> simp (disch := omega) only [hA, OK, s_le, s_inb, s_slb, s_room, s_mks, s_ne0, s_nn, s_eql, s_neq, s_lss, s_leq, s_gtr, s_geq, s_isz, s_bnot, s_beq, s_idx, s_addN, s_subN, s_mulN, s_tn, s_ofn, s_nmin, s_drp, s_tak, s_app, s_len, s_leB, s_add, s_sub, s_mul, s_wr64, s_wr8, bytesE_fold, bytesE_length, bytesE_drop, bytesE_take, bytesE_app, intsE_fold, intsE_length, decide_eq_true_eq, decide_eq_false_iff_not, Nat.mul_one, Nat.zero_add, Nat.add_zero, Bool.not_eq_true', List.length_take, List.length_drop, List.length_append, List.length_cons, List.length_nil, List.drop_zero] at h2
      · -- nothing here
        rw [if_pos (by omega)] at hr
        with_reducible refine runK hA hd hQ 200 ?hk ?_
        case hk => exact trivial
        conv => arg 8; cbv
        try simp only [OK]
        refine OKs.mask (msk 41 [1, 2, 5, 6, 7, 8]) ?_
        refine ih _ ⟨_, fr, [], g, .inl ⟨rfl, rfl⟩, hf0, ?_, ?_, hob, ho, ?_, ?_⟩ (show (N - A.ib .add .i64 i 1).toNat < (N - i).toNat from ?_)
        all_goals (try simp (disch := omega) only [hA, OK, s_le, s_inb, s_slb, s_room, s_mks, s_ne0, s_nn, s_eql, s_neq, s_lss, s_leq, s_gtr, s_geq, s_isz, s_bnot, s_beq, s_idx, s_addN, s_subN, s_mulN, s_tn, s_ofn, s_nmin, s_drp, s_tak, s_app, s_len, s_leB, s_add, s_sub, s_mul, s_wr64, s_wr8, bytesE_fold, bytesE_length, bytesE_drop, bytesE_take, bytesE_app, intsE_fold, intsE_length, decide_eq_true_eq, decide_eq_false_iff_not, Nat.mul_one, Nat.zero_add, Nat.add_zero, Bool.not_eq_true', List.length_take, List.length_drop, List.length_append, List.length_cons, List.length_nil, List.drop_zero])
        all_goals first | omega | (rw [show (i + 1).toNat = i.toNat + 1 by omega]; exact hr)
      · -- an item
        rw [if_neg (by omega)] at hr
        obtain ⟨k1, k2, k3, k4, k5⟩ := hk (by omega)
        clear hk
        have hll := layF_length b (i.toNat - fr.toNat) fr.toNat i.toNat []
        have hla := layF_all b hb (i.toNat - fr.toNat) fr.toNat i.toNat [] ho
        simp only [List.length_nil] at hll hob
        with_reducible refine runK hA hd hQ 200 ?hk ?_
        case hk => exact trivial
        conv => arg 8; cbv
        try simp only [OK]
        refine ⟨goodF_of F27_ok, (lay_nil b hb hl N c hN hc fr i ⟨by omega, by omega⟩ ⟨by omega, by omega⟩ (by simp only [List.length_nil]; omega)).mono fun v h' hx => ?_⟩
        obtain ⟨hv, hh⟩ := hx
        subst hv
        obtain ⟨lo, hlo⟩ : ∃ lo, lo = layF b (i.toNat - fr.toNat) fr.toNat i.toNat [] := ⟨_, rfl⟩
        rw [← hlo] at hh hll hla hr
        rcases hh with ⟨hlo0, fr2, rfl⟩ | ⟨m2, oc2, fr2, rfl, hm2, hoc2, hne2⟩
        · with_reducible refine runK hA hd hQ 200 ?hk ?_
          case hk => exact trivial
          conv => arg 8; cbv
          try simp only [OK]
          refine ⟨by simp (disch := omega) only [hA, OK, s_le, s_inb, s_slb, s_room, s_mks, s_ne0, s_nn, s_eql, s_neq, s_lss, s_leq, s_gtr, s_geq, s_isz, s_bnot, s_beq, s_idx, s_addN, s_subN, s_mulN, s_tn, s_ofn, s_nmin, s_drp, s_tak, s_app, s_len, s_leB, s_add, s_sub, s_mul, s_wr64, s_wr8, bytesE_fold, bytesE_length, bytesE_drop, bytesE_take, bytesE_app, intsE_fold, intsE_length, decide_eq_true_eq, decide_eq_false_iff_not, Nat.mul_one, Nat.zero_add, Nat.add_zero, Bool.not_eq_true', List.length_take, List.length_drop, List.length_append, List.length_cons, List.length_nil, List.drop_zero , hic] <;> omega, by simp (disch := omega) only [hA, OK, s_le, s_inb, s_slb, s_room, s_mks, s_ne0, s_nn, s_eql, s_neq, s_lss, s_leq, s_gtr, s_geq, s_isz, s_bnot, s_beq, s_idx, s_addN, s_subN, s_mulN, s_tn, s_ofn, s_nmin, s_drp, s_tak, s_app, s_len, s_leB, s_add, s_sub, s_mul, s_wr64, s_wr8, bytesE_fold, bytesE_length, bytesE_drop, bytesE_take, bytesE_app, intsE_fold, intsE_length, decide_eq_true_eq, decide_eq_false_iff_not, Nat.mul_one, Nat.zero_add, Nat.add_zero, Bool.not_eq_true', List.length_take, List.length_drop, List.length_append, List.length_cons, List.length_nil, List.drop_zero] <;> omega, fun h3 => absurd h3 (by simp (disch := omega) only [hA, OK, s_le, s_inb, s_slb, s_room, s_mks, s_ne0, s_nn, s_eql, s_neq, s_lss, s_leq, s_gtr, s_geq, s_isz, s_bnot, s_beq, s_idx, s_addN, s_subN, s_mulN, s_tn, s_ofn, s_nmin, s_drp, s_tak, s_app, s_len, s_leB, s_add, s_sub, s_mul, s_wr64, s_wr8, bytesE_fold, bytesE_length, bytesE_drop, bytesE_take, bytesE_app, intsE_fold, intsE_length, decide_eq_true_eq, decide_eq_false_iff_not, Nat.mul_one, Nat.zero_add, Nat.add_zero, Bool.not_eq_true', List.length_take, List.length_drop, List.length_append, List.length_cons, List.length_nil, List.drop_zero] <;> omega), fun h3 => ?_⟩
          with_reducible refine runK hA hd hQ 200 ?hk ?_
          case hk => exact trivial
          conv => arg 8; cbv
          try simp only [OK]
          refine OKs.mask (msk 41 [1, 2, 5, 6, 7, 8]) (OKs.mv [0, 1, 2, 3] [] (by rw [hρ]; rfl) ⟨by simp, by simp [sizeH], by simp⟩ ?_)
          have zz : (i + nz).toNat = i.toNat + n := by omega
          refine ih _ ⟨_, _, lo ++ it, g, .inr ⟨_, _, rfl, ?_, ?_, ?_⟩, ?_, ?_, ?_, ?_, hla.app k5, ?_, ?_⟩ (show (N - A.ib .add .i64 i nz).toNat < (N - i).toNat from ?_)
          all_goals (try simp (disch := omega) only [hA, OK, s_le, s_inb, s_slb, s_room, s_mks, s_ne0, s_nn, s_eql, s_neq, s_lss, s_leq, s_gtr, s_geq, s_isz, s_bnot, s_beq, s_idx, s_addN, s_subN, s_mulN, s_tn, s_ofn, s_nmin, s_drp, s_tak, s_app, s_len, s_leB, s_add, s_sub, s_mul, s_wr64, s_wr8, bytesE_fold, bytesE_length, bytesE_drop, bytesE_take, bytesE_app, intsE_fold, intsE_length, decide_eq_true_eq, decide_eq_false_iff_not, Nat.mul_one, Nat.zero_add, Nat.add_zero, Bool.not_eq_true', List.length_take, List.length_drop, List.length_append, List.length_cons, List.length_nil, List.drop_zero , hic, mvL_bytes])
          all_goals first | omega | (rw [zz]; exact hr) | skip
          · rw [hlo0]; simp; omega
          · rw [hlo0, hil, List.take_length]; rfl
          · intro h; have := congrArg List.length h; rw [List.length_append, List.length_nil] at this; omega
        · with_reducible refine runK hA hd hQ 200 ?hk ?_
          case hk => exact trivial
          conv => arg 8; cbv
          try simp only [OK]
          have z1 : A.le (A.mul il 1) (A.len (A.tak (A.mul il 1) ic)) = true := by simp (disch := omega) only [hA, OK, s_le, s_inb, s_slb, s_room, s_mks, s_ne0, s_nn, s_eql, s_neq, s_lss, s_leq, s_gtr, s_geq, s_isz, s_bnot, s_beq, s_idx, s_addN, s_subN, s_mulN, s_tn, s_ofn, s_nmin, s_drp, s_tak, s_app, s_len, s_leB, s_add, s_sub, s_mul, s_wr64, s_wr8, bytesE_fold, bytesE_length, bytesE_drop, bytesE_take, bytesE_app, intsE_fold, intsE_length, decide_eq_true_eq, decide_eq_false_iff_not, Nat.mul_one, Nat.zero_add, Nat.add_zero, Bool.not_eq_true', List.length_take, List.length_drop, List.length_append, List.length_cons, List.length_nil, List.drop_zero , hic] <;> omega
          have z2 : A.le (A.add 0 (A.mul m2 1)) (A.len oc2) = true := by simp (disch := omega) only [hA, OK, s_le, s_inb, s_slb, s_room, s_mks, s_ne0, s_nn, s_eql, s_neq, s_lss, s_leq, s_gtr, s_geq, s_isz, s_bnot, s_beq, s_idx, s_addN, s_subN, s_mulN, s_tn, s_ofn, s_nmin, s_drp, s_tak, s_app, s_len, s_leB, s_add, s_sub, s_mul, s_wr64, s_wr8, bytesE_fold, bytesE_length, bytesE_drop, bytesE_take, bytesE_app, intsE_fold, intsE_length, decide_eq_true_eq, decide_eq_false_iff_not, Nat.mul_one, Nat.zero_add, Nat.add_zero, Bool.not_eq_true', List.length_take, List.length_drop, List.length_append, List.length_cons, List.length_nil, List.drop_zero , hoc2] <;> omega
          have z3 : A.room (A.add m2 il) 1 = true := by simp (disch := omega) only [hA, OK, s_le, s_inb, s_slb, s_room, s_mks, s_ne0, s_nn, s_eql, s_neq, s_lss, s_leq, s_gtr, s_geq, s_isz, s_bnot, s_beq, s_idx, s_addN, s_subN, s_mulN, s_tn, s_ofn, s_nmin, s_drp, s_tak, s_app, s_len, s_leB, s_add, s_sub, s_mul, s_wr64, s_wr8, bytesE_fold, bytesE_length, bytesE_drop, bytesE_take, bytesE_app, intsE_fold, intsE_length, decide_eq_true_eq, decide_eq_false_iff_not, Nat.mul_one, Nat.zero_add, Nat.add_zero, Bool.not_eq_true', List.length_take, List.length_drop, List.length_append, List.length_cons, List.length_nil, List.drop_zero] <;> omega
          refine ⟨z1, z2, z3, ?_⟩
          refine OKs.mask (msk 41 [1, 2, 5, 6, 7, 8]) (OKs.mv [0, 1, 2, 4] [] (by rw [hρ]; rfl) ⟨by simp, by simp [sizeH], by simp⟩ ?_)
          have zz : (i + nz).toNat = i.toNat + n := by omega
          refine ih _ ⟨_, _, lo ++ it, g, .inr ⟨_, _, rfl, ?_, ?_, ?_⟩, ?_, ?_, ?_, ?_, hla.app k5, ?_, ?_⟩ (show (N - A.ib .add .i64 i nz).toNat < (N - i).toNat from ?_)
          all_goals (try simp (disch := omega) only [hA, OK, s_le, s_inb, s_slb, s_room, s_mks, s_ne0, s_nn, s_eql, s_neq, s_lss, s_leq, s_gtr, s_geq, s_isz, s_bnot, s_beq, s_idx, s_addN, s_subN, s_mulN, s_tn, s_ofn, s_nmin, s_drp, s_tak, s_app, s_len, s_leB, s_add, s_sub, s_mul, s_wr64, s_wr8, bytesE_fold, bytesE_length, bytesE_drop, bytesE_take, bytesE_app, intsE_fold, intsE_length, decide_eq_true_eq, decide_eq_false_iff_not, Nat.mul_one, Nat.zero_add, Nat.add_zero, Bool.not_eq_true', List.length_take, List.length_drop, List.length_append, List.length_cons, List.length_nil, List.drop_zero , hic, mvL_bytes, hoc2])
          all_goals first | omega | (rw [zz]; exact hr) | skip
          · rw [hm2, hil, List.take_length, List.take_length]
          · exact fun h => hne2 (List.append_eq_nil_iff.1 h).1
    · with_reducible refine runK hA hd hQ 200 ?hk ?_
      case hk => exact trivial
      conv => arg 8; cbv
      try simp only [OK]
      have hie : i = N := by omega
      refine ⟨goodF_of F27_ok, (lay_nil b hb hl N c hN hc fr (A.ofn N) ⟨by omega, by omega⟩ (by rw [hA, s_ofn]; omega) (by rw [hA, s_ofn]; simp only [List.length_nil]; omega)).mono fun v h' hx => ?_⟩
      obtain ⟨hv, hh⟩ := hx
      subst hv
      rw [pkF_stop _ _ _ _ _ _ (by omega)] at hr
      rw [show layF b ((A.ofn N).toNat - fr.toNat) fr.toNat (A.ofn N).toNat [] = R0 by rw [← hr, hA, s_ofn, Int.toNat_natCast, hN]] at hh
      rcases hh with ⟨hlo0, fr2, rfl⟩ | ⟨m2, oc2, fr2, rfl, hm2, hoc2, hne2⟩
      · with_reducible refine runK hA hd hQ 200 ?hk ?_
        case hk => exact trivial
        conv => arg 8; cbv
        try simp only [OK]
        exact ⟨_, rfl, .inl ⟨rfl, hlo0⟩⟩
      · with_reducible refine runK hA hd hQ 200 ?hk ?_
        case hk => exact trivial
        conv => arg 8; cbv
        try simp only [OK]
        exact ⟨_, rfl, .inr ⟨hne2, 3, none, by rw [← hm2]; rfl, by rw [← hoc2]; rfl⟩⟩
  · with_reducible refine runS hA hd hQ 200 ?hk ?_
    case hk => exact trivial
    conv => arg 8; cbv
    try simp only [OK]
    refine ⟨fun h1 => ?_, fun h1 => ?_⟩ <;> simp (disch := omega) only [hA, OK, s_le, s_inb, s_slb, s_room, s_mks, s_ne0, s_nn, s_eql, s_neq, s_lss, s_leq, s_gtr, s_geq, s_isz, s_bnot, s_beq, s_idx, s_addN, s_subN, s_mulN, s_tn, s_ofn, s_nmin, s_drp, s_tak, s_app, s_len, s_leB, s_add, s_sub, s_mul, s_wr64, s_wr8, bytesE_fold, bytesE_length, bytesE_drop, bytesE_take, bytesE_app, intsE_fold, intsE_length, decide_eq_true_eq, decide_eq_false_iff_not, Nat.mul_one, Nat.zero_add, Nat.add_zero, Bool.not_eq_true', List.length_take, List.length_drop, List.length_append, List.length_cons, List.length_nil, List.drop_zero] at h1
    · with_reducible refine runK hA hd hQ 200 ?hk ?_
      case hk => exact trivial
      conv => arg 8; cbv
      try simp only [OK]
      obtain ⟨g, rfl⟩ : ∃ g, f = g + 1 := ⟨f - 1, by omega⟩
      rw [pkF, if_pos (by omega)] at hr
      have t := hfind i.toNat (by omega)
      rw [show ((i.toNat : Nat) : Int) = i by omega] at t
      have hk := hok i.toNat (by omega)
      obtain ⟨n, hn⟩ : ∃ n, n = (find i.toNat).1 := ⟨_, rfl⟩
      obtain ⟨it, hit⟩ : ∃ it, it = (find i.toNat).2 := ⟨_, rfl⟩
      rw [← hn, ← hit] at t hk hr
      obtain ⟨nz, hnz⟩ : ∃ nz : Int, nz = (n : Int) := ⟨_, rfl⟩
      obtain ⟨il, ic, hii, hil, hic⟩ := isB_open it
      rw [← hnz, hii] at t
      refine ⟨goodF_of F49_ok, (Tri.clean rfl rfl t _).mono fun v h' hx => ?_⟩
      obtain ⟨hv, hh⟩ := hx
      subst hv; subst hh
      with_reducible refine runK hA hd hQ 200 ?hk ?_
      case hk => exact trivial
      conv => arg 8; cbv
      try simp only [OK]
      refine ⟨fun h2 => ?_, fun h2 => ?_⟩ <;> simp (disch := omega) only [hA, OK, s_le, s_inb, s_slb, s_room, s_mks, s_ne0, s_nn, s_eql, s_neq, s_lss, s_leq, s_gtr, s_geq, s_isz, s_bnot, s_beq, s_idx, s_addN, s_subN, s_mulN, s_tn, s_ofn, s_nmin, s_drp, s_tak, s_app, s_len, s_leB, s_add, s_sub, s_mul, s_wr64, s_wr8, bytesE_fold, bytesE_length, bytesE_drop, bytesE_take, bytesE_app, intsE_fold, intsE_length, decide_eq_true_eq, decide_eq_false_iff_not, Nat.mul_one, Nat.zero_add, Nat.add_zero, Bool.not_eq_true', List.length_take, List.length_drop, List.length_append, List.length_cons, List.length_nil, List.drop_zero] at h2
      · -- nothing here
        rw [if_pos (by omega)] at hr
        with_reducible refine runK hA hd hQ 200 ?hk ?_
        case hk => exact trivial
        conv => arg 8; cbv
        try simp only [OK]
        refine OKs.mask (msk 41 [1, 2, 5, 6, 7, 8]) ?_
        refine ih _ ⟨_, fr, out, g, .inr ⟨_, _, rfl, hm', hoc, hne⟩, hf0, ?_, ?_, hob, ho, ?_, ?_⟩ (show (N - A.ib .add .i64 i 1).toNat < (N - i).toNat from ?_)
        all_goals (try simp (disch := omega) only [hA, OK, s_le, s_inb, s_slb, s_room, s_mks, s_ne0, s_nn, s_eql, s_neq, s_lss, s_leq, s_gtr, s_geq, s_isz, s_bnot, s_beq, s_idx, s_addN, s_subN, s_mulN, s_tn, s_ofn, s_nmin, s_drp, s_tak, s_app, s_len, s_leB, s_add, s_sub, s_mul, s_wr64, s_wr8, bytesE_fold, bytesE_length, bytesE_drop, bytesE_take, bytesE_app, intsE_fold, intsE_length, decide_eq_true_eq, decide_eq_false_iff_not, Nat.mul_one, Nat.zero_add, Nat.add_zero, Bool.not_eq_true', List.length_take, List.length_drop, List.length_append, List.length_cons, List.length_nil, List.drop_zero])
        all_goals first | omega | (rw [show (i + 1).toNat = i.toNat + 1 by omega]; exact hr)
      · -- an item
        rw [if_neg (by omega)] at hr
        obtain ⟨k1, k2, k3, k4, k5⟩ := hk (by omega)
        clear hk
        have hll := layF_length b (i.toNat - fr.toNat) fr.toNat i.toNat out
        have hla := layF_all b hb (i.toNat - fr.toNat) fr.toNat i.toNat out ho
        with_reducible refine runK hA hd hQ 200 ?hk ?_
        case hk => exact trivial
        conv => arg 8; cbv
        try simp only [OK]
        refine ⟨goodF_of F27_ok, (lay_sl b hb hl out ho N c hN hc m oc hm' hoc hne fr i ⟨by omega, by omega⟩ ⟨by omega, by omega⟩ (by omega)).mono fun v h' hx => ?_⟩
        obtain ⟨hv, hh⟩ := hx
        subst hv
        obtain ⟨lo, hlo⟩ : ∃ lo, lo = layF b (i.toNat - fr.toNat) fr.toNat i.toNat out := ⟨_, rfl⟩
        rw [← hlo] at hh hll hla hr
        rcases hh with ⟨m2, oc2, fr2, rfl, hm2, hoc2, hne2⟩ | ⟨m2, oc2, fr2, rfl, hm2, hoc2, hne2⟩
        · with_reducible refine runK hA hd hQ 200 ?hk ?_
          case hk => exact trivial
          conv => arg 8; cbv
          try simp only [OK]
          have z1 : A.le (A.mul il 1) (A.len (A.tak (A.mul il 1) ic)) = true := by simp (disch := omega) only [hA, OK, s_le, s_inb, s_slb, s_room, s_mks, s_ne0, s_nn, s_eql, s_neq, s_lss, s_leq, s_gtr, s_geq, s_isz, s_bnot, s_beq, s_idx, s_addN, s_subN, s_mulN, s_tn, s_ofn, s_nmin, s_drp, s_tak, s_app, s_len, s_leB, s_add, s_sub, s_mul, s_wr64, s_wr8, bytesE_fold, bytesE_length, bytesE_drop, bytesE_take, bytesE_app, intsE_fold, intsE_length, decide_eq_true_eq, decide_eq_false_iff_not, Nat.mul_one, Nat.zero_add, Nat.add_zero, Bool.not_eq_true', List.length_take, List.length_drop, List.length_append, List.length_cons, List.length_nil, List.drop_zero , hic] <;> omega
          have z2 : A.le (A.add 0 (A.mul m2 1)) (A.len oc2) = true := by simp (disch := omega) only [hA, OK, s_le, s_inb, s_slb, s_room, s_mks, s_ne0, s_nn, s_eql, s_neq, s_lss, s_leq, s_gtr, s_geq, s_isz, s_bnot, s_beq, s_idx, s_addN, s_subN, s_mulN, s_tn, s_ofn, s_nmin, s_drp, s_tak, s_app, s_len, s_leB, s_add, s_sub, s_mul, s_wr64, s_wr8, bytesE_fold, bytesE_length, bytesE_drop, bytesE_take, bytesE_app, intsE_fold, intsE_length, decide_eq_true_eq, decide_eq_false_iff_not, Nat.mul_one, Nat.zero_add, Nat.add_zero, Bool.not_eq_true', List.length_take, List.length_drop, List.length_append, List.length_cons, List.length_nil, List.drop_zero , hoc2] <;> omega
          have z3 : A.room (A.add m2 il) 1 = true := by simp (disch := omega) only [hA, OK, s_le, s_inb, s_slb, s_room, s_mks, s_ne0, s_nn, s_eql, s_neq, s_lss, s_leq, s_gtr, s_geq, s_isz, s_bnot, s_beq, s_idx, s_addN, s_subN, s_mulN, s_tn, s_ofn, s_nmin, s_drp, s_tak, s_app, s_len, s_leB, s_add, s_sub, s_mul, s_wr64, s_wr8, bytesE_fold, bytesE_length, bytesE_drop, bytesE_take, bytesE_app, intsE_fold, intsE_length, decide_eq_true_eq, decide_eq_false_iff_not, Nat.mul_one, Nat.zero_add, Nat.add_zero, Bool.not_eq_true', List.length_take, List.length_drop, List.length_append, List.length_cons, List.length_nil, List.drop_zero] <;> omega
          refine ⟨z1, z2, z3, ?_⟩
          refine OKs.mask (msk 41 [1, 2, 5, 6, 7, 8]) (OKs.mv [0, 1, 2, 4] [] (by rw [hρ]; rfl) ⟨by simp, by simp [sizeH], by simp⟩ ?_)
          have zz : (i + nz).toNat = i.toNat + n := by omega
          refine ih _ ⟨_, _, lo ++ it, g, .inr ⟨_, _, rfl, ?_, ?_, ?_⟩, ?_, ?_, ?_, ?_, hla.app k5, ?_, ?_⟩ (show (N - A.ib .add .i64 i nz).toNat < (N - i).toNat from ?_)
          all_goals (try simp (disch := omega) only [hA, OK, s_le, s_inb, s_slb, s_room, s_mks, s_ne0, s_nn, s_eql, s_neq, s_lss, s_leq, s_gtr, s_geq, s_isz, s_bnot, s_beq, s_idx, s_addN, s_subN, s_mulN, s_tn, s_ofn, s_nmin, s_drp, s_tak, s_app, s_len, s_leB, s_add, s_sub, s_mul, s_wr64, s_wr8, bytesE_fold, bytesE_length, bytesE_drop, bytesE_take, bytesE_app, intsE_fold, intsE_length, decide_eq_true_eq, decide_eq_false_iff_not, Nat.mul_one, Nat.zero_add, Nat.add_zero, Bool.not_eq_true', List.length_take, List.length_drop, List.length_append, List.length_cons, List.length_nil, List.drop_zero , hic, mvL_bytes, hoc2])
          all_goals first | omega | (rw [zz]; exact hr) | skip
          · rw [hm2, hil, List.take_length, List.take_length]
          · exact fun h => hne2 (List.append_eq_nil_iff.1 h).1
        · with_reducible refine runK hA hd hQ 200 ?hk ?_
          case hk => exact trivial
          conv => arg 8; cbv
          try simp only [OK]
          have z1 : A.le (A.mul il 1) (A.len (A.tak (A.mul il 1) ic)) = true := by simp (disch := omega) only [hA, OK, s_le, s_inb, s_slb, s_room, s_mks, s_ne0, s_nn, s_eql, s_neq, s_lss, s_leq, s_gtr, s_geq, s_isz, s_bnot, s_beq, s_idx, s_addN, s_subN, s_mulN, s_tn, s_ofn, s_nmin, s_drp, s_tak, s_app, s_len, s_leB, s_add, s_sub, s_mul, s_wr64, s_wr8, bytesE_fold, bytesE_length, bytesE_drop, bytesE_take, bytesE_app, intsE_fold, intsE_length, decide_eq_true_eq, decide_eq_false_iff_not, Nat.mul_one, Nat.zero_add, Nat.add_zero, Bool.not_eq_true', List.length_take, List.length_drop, List.length_append, List.length_cons, List.length_nil, List.drop_zero , hic] <;> omega
          have z2 : A.le (A.add 0 (A.mul m2 1)) (A.len oc2) = true := by simp (disch := omega) only [hA, OK, s_le, s_inb, s_slb, s_room, s_mks, s_ne0, s_nn, s_eql, s_neq, s_lss, s_leq, s_gtr, s_geq, s_isz, s_bnot, s_beq, s_idx, s_addN, s_subN, s_mulN, s_tn, s_ofn, s_nmin, s_drp, s_tak, s_app, s_len, s_leB, s_add, s_sub, s_mul, s_wr64, s_wr8, bytesE_fold, bytesE_length, bytesE_drop, bytesE_take, bytesE_app, intsE_fold, intsE_length, decide_eq_true_eq, decide_eq_false_iff_not, Nat.mul_one, Nat.zero_add, Nat.add_zero, Bool.not_eq_true', List.length_take, List.length_drop, List.length_append, List.length_cons, List.length_nil, List.drop_zero , hoc2] <;> omega
          have z3 : A.room (A.add m2 il) 1 = true := by simp (disch := omega) only [hA, OK, s_le, s_inb, s_slb, s_room, s_mks, s_ne0, s_nn, s_eql, s_neq, s_lss, s_leq, s_gtr, s_geq, s_isz, s_bnot, s_beq, s_idx, s_addN, s_subN, s_mulN, s_tn, s_ofn, s_nmin, s_drp, s_tak, s_app, s_len, s_leB, s_add, s_sub, s_mul, s_wr64, s_wr8, bytesE_fold, bytesE_length, bytesE_drop, bytesE_take, bytesE_app, intsE_fold, intsE_length, decide_eq_true_eq, decide_eq_false_iff_not, Nat.mul_one, Nat.zero_add, Nat.add_zero, Bool.not_eq_true', List.length_take, List.length_drop, List.length_append, List.length_cons, List.length_nil, List.drop_zero] <;> omega
          refine ⟨z1, z2, z3, ?_⟩
          refine OKs.mask (msk 41 [1, 2, 5, 6, 7, 8]) (OKs.mv [0, 1, 2, 5] [] (by rw [hρ]; rfl) ⟨by simp, by simp [sizeH], by simp⟩ ?_)
          have zz : (i + nz).toNat = i.toNat + n := by omega
          refine ih _ ⟨_, _, lo ++ it, g, .inr ⟨_, _, rfl, ?_, ?_, ?_⟩, ?_, ?_, ?_, ?_, hla.app k5, ?_, ?_⟩ (show (N - A.ib .add .i64 i nz).toNat < (N - i).toNat from ?_)
          all_goals (try simp (disch := omega) only [hA, OK, s_le, s_inb, s_slb, s_room, s_mks, s_ne0, s_nn, s_eql, s_neq, s_lss, s_leq, s_gtr, s_geq, s_isz, s_bnot, s_beq, s_idx, s_addN, s_subN, s_mulN, s_tn, s_ofn, s_nmin, s_drp, s_tak, s_app, s_len, s_leB, s_add, s_sub, s_mul, s_wr64, s_wr8, bytesE_fold, bytesE_length, bytesE_drop, bytesE_take, bytesE_app, intsE_fold, intsE_length, decide_eq_true_eq, decide_eq_false_iff_not, Nat.mul_one, Nat.zero_add, Nat.add_zero, Bool.not_eq_true', List.length_take, List.length_drop, List.length_append, List.length_cons, List.length_nil, List.drop_zero , hic, mvL_bytes, hoc2])
          all_goals first | omega | (rw [zz]; exact hr) | skip
          · rw [hm2, hil, List.take_length, List.take_length]
          · exact fun h => hne2 (List.append_eq_nil_iff.1 h).1
    · with_reducible refine runK hA hd hQ 200 ?hk ?_
      case hk => exact trivial
      conv => arg 8; cbv
      try simp only [OK]
      have hie : i = N := by omega
      refine ⟨goodF_of F27_ok, (lay_sl b hb hl out ho N c hN hc m oc hm' hoc hne fr (A.ofn N) ⟨by omega, by omega⟩ (by rw [hA, s_ofn]; omega) (by rw [hA, s_ofn]; omega)).mono fun v h' hx => ?_⟩
      obtain ⟨hv, hh⟩ := hx
      subst hv
      rw [pkF_stop _ _ _ _ _ _ (by omega)] at hr
      rw [show layF b ((A.ofn N).toNat - fr.toNat) fr.toNat (A.ofn N).toNat out = R0 by rw [← hr, hA, s_ofn, Int.toNat_natCast, hN]] at hh
      rcases hh with ⟨m2, oc2, fr2, rfl, hm2, hoc2, hne2⟩ | ⟨m2, oc2, fr2, rfl, hm2, hoc2, hne2⟩
      · with_reducible refine runK hA hd hQ 200 ?hk ?_
        case hk => exact trivial
        conv => arg 8; cbv
        try simp only [OK]
        exact ⟨_, rfl, .inr ⟨hne2, 3, none, by rw [← hm2]; rfl, by rw [← hoc2]; rfl⟩⟩
      · with_reducible refine runK hA hd hQ 200 ?hk ?_
        case hk => exact trivial
        conv => arg 8; cbv
        try simp only [OK]
        exact ⟨_, rfl, .inr ⟨hne2, 4, none, by rw [← hm2]; rfl, by rw [← hoc2]; rfl⟩⟩

theorem packedB (b : List Nat) (hb : AllB b) (hl : b.length ≤ 65536) (N : Nat) (c : List EV) (N2 : Nat) (c2 : List EV) (hN : N = b.length) (hc : c = bytesE b) (find : Nat → Nat × List Nat) (hok : FindOK b find)
    (hfind : ∀ p, p < b.length → Tri Try.prog [] 49 [.agg [.isl N none c, .isl N2 none c2], .lit (.int .i64 (p : Int))] [] fun v h => v = .tup [.lit (.int .i64 ((find p).1 : Int)), isB (find p).2] ∧ h = []) :
    Tri Try.prog [] 23 [.isl N none c, .iface 55 (.agg [.isl N none c, .isl N2 none c2])] [] fun v h => v = isB (pkF find b b.length 0 0 []) ∧ h = [] :=
  Tri.frozen1 ((packedB_own b hb hl N c N2 c2 hN hc find hok hfind).mono fun v h hx => hx.imp id fun hy => hy.2)


end Go.Proofs.Ytplibngmgebigaa.Press
