/- Pr25: every Pack answers as the document's. No conditions. -/
import Derived.Test.YtplibngmgebigaaPr24
set_option linter.unusedVariables false
set_option linter.unusedSimpArgs false
namespace Go.Proofs.Ytplibngmgebigaa.Press
open Go Go.Proofs.Ytplibngmgebigaa Go.Proofs.Ytplibngmgebigaa.Em

def pk_sh : List Sh := [.slice 1 (.slice 1 (.int .u8)), .slice 1 (.int .i64)]

theorem pk_open {es : List EV} (h : HasVs pk_sh es) : ∃ len L len2 L2, es = [.isl len none L, .isl len2 none L2] ∧ len ≤ 140737488351232 ∧ len2 ≤ 140737488351232 ∧ (∀ i, i < len → HasS (.slice 1 (.int .u8)) ((L.drop (i * 1)).take 1)) ∧ ∀ i, i < len2 → HasS (.int .i64) ((L2.drop (i * 1)).take 1) := by
  obtain ⟨e, r, rfl, h1, e2, r2, rfl, h2, h3⟩ := h
  have h3 : r2 = [] := h3
  subst h3
  simp only [HasV, HasS] at h1 h2
  obtain ⟨len, l, he, k1, k2, k3⟩ := h1
  obtain ⟨len2, l2, he2, m1, m2, m3⟩ := h2
  simp at he he2; subst he; subst he2
  exact ⟨len, l, len2, l2, rfl, k1, m1, fun i hi => by simp only [HasS]; exact k3 i hi, fun i hi => by simp only [HasS]; exact m3 i hi⟩

set_option maxHeartbeats 4000000 in
theorem packs_law : ∀ es, HasVs pk_sh es → Tri Try.prog [] 4 es [] yesE := by
  intro es h
  obtain ⟨len, L, len2, L2, rfl, hlen, hlen2, hL, hL2⟩ := pk_open h
  clear h
  refine Tri_of F4_ok fun I0 ρ0 w0 Q hρ hQ => ?_
  obtain ⟨A, hA⟩ : ∃ A, A = stdA := ⟨_, rfl⟩
  with_reducible refine runS hA hd hQ 100 ?hk ?_
  case hk => exact trivial
  conv => arg 8; cbv
  try simp only [OK]
  refine ⟨goodF_of F11_ok, awake_ok.mono fun v h' hx => ?_⟩
  obtain ⟨hv, hh⟩ := hx
  subst hv; subst hh
  with_reducible refine runK hA hd hQ 100 ?hk ?_
  case hk => exact trivial
  conv => arg 8; cbv
  try simp only [OK]
  refine ⟨fun h1 => ?_, fun h1 => ?_⟩
  · with_reducible exfalso; (simp (disch := omega) only [hA, OK, s_le, s_inb, s_slb, s_room, s_mks, s_ne0, s_nn, s_eql, s_neq, s_lss, s_leq, s_gtr, s_geq, s_isz, s_bnot, s_beq, s_idx, s_addN, s_subN, s_mulN, s_tn, s_ofn, s_nmin, s_drp, s_tak, s_app, s_len, s_leB, s_add, s_sub, s_mul, s_wr64, s_wr8, bytesE_fold, bytesE_length, bytesE_drop, bytesE_take, bytesE_app, intsE_fold, intsE_length, decide_eq_true_eq, decide_eq_false_iff_not, Nat.mul_one, Nat.zero_add, Nat.add_zero, Bool.not_eq_true', List.length_take, List.length_drop, List.length_append, List.length_cons, List.length_nil, List.drop_zero, reduceCtorEq, not_true_eq_false, not_false_eq_true] at h1 <;> omega)
  with_reducible refine runK hA hd hQ 100 ?hk ?_
  case hk => exact trivial
  conv => arg 8; cbv
  try simp only [OK]
  refine OKs.mask (msk 51 [0, 1, 13, 14, 15]) ?_
  refine OKs.loop (fun s => ∃ i : Int, s = ⟨mkT 51 [(0, .isl len none L), (1, .isl len2 none L2), (13, .isl len none L), (14, .lit (.int .i64 (A.ofn len))), (15, .lit (.int .i64 i))], []⟩ ∧ 0 ≤ i ∧ i ≤ len) (fun s => (len - intN (getT s.t 15)).toNat) (fun s hs ih => ?_)
    ⟨0, rfl, by omega, by omega⟩
  obtain ⟨i, rfl, hi0, hi1⟩ := hs
  with_reducible refine runS hA hd hQ 100 ?hk ?_
  case hk => exact trivial
  conv => arg 8; cbv
  try simp only [OK]
  refine ⟨fun h2 => ?_, fun h2 => ?_⟩ <;> simp (disch := omega) only [hA, OK, s_le, s_inb, s_slb, s_room, s_mks, s_ne0, s_nn, s_eql, s_neq, s_lss, s_leq, s_gtr, s_geq, s_isz, s_bnot, s_beq, s_idx, s_addN, s_subN, s_mulN, s_tn, s_ofn, s_nmin, s_drp, s_tak, s_app, s_len, s_leB, s_add, s_sub, s_mul, s_wr64, s_wr8, bytesE_fold, bytesE_length, bytesE_drop, bytesE_take, bytesE_app, intsE_fold, intsE_length, decide_eq_true_eq, decide_eq_false_iff_not, Nat.mul_one, Nat.zero_add, Nat.add_zero, Bool.not_eq_true', List.length_take, List.length_drop, List.length_append, List.length_cons, List.length_nil, List.drop_zero] at h2
  · with_reducible refine runK hA hd hQ 100 ?hk ?_
    case hk => exact trivial
    conv => arg 8; cbv
    try simp only [OK]
    obtain ⟨b, hcell, hb, hl⟩ := HasS.bytes (hL i.toNat (by omega))
    obtain ⟨n, c, hi, hn, hc⟩ := isB_open b
    rw [hi, Nat.mul_one] at hcell
    refine ⟨by simp (disch := omega) only [hA, OK, s_le, s_inb, s_slb, s_room, s_mks, s_ne0, s_nn, s_eql, s_neq, s_lss, s_leq, s_gtr, s_geq, s_isz, s_bnot, s_beq, s_idx, s_addN, s_subN, s_mulN, s_tn, s_ofn, s_nmin, s_drp, s_tak, s_app, s_len, s_leB, s_add, s_sub, s_mul, s_wr64, s_wr8, bytesE_fold, bytesE_length, bytesE_drop, bytesE_take, bytesE_app, intsE_fold, intsE_length, decide_eq_true_eq, decide_eq_false_iff_not, Nat.mul_one, Nat.zero_add, Nat.add_zero, Bool.not_eq_true', List.length_take, List.length_drop, List.length_append, List.length_cons, List.length_nil, List.drop_zero] <;> omega, [.isl n none c], _, rfl, by simp (disch := omega) only [hA, OK, s_le, s_inb, s_slb, s_room, s_mks, s_ne0, s_nn, s_eql, s_neq, s_lss, s_leq, s_gtr, s_geq, s_isz, s_bnot, s_beq, s_idx, s_addN, s_subN, s_mulN, s_tn, s_ofn, s_nmin, s_drp, s_tak, s_app, s_len, s_leB, s_add, s_sub, s_mul, s_wr64, s_wr8, bytesE_fold, bytesE_length, bytesE_drop, bytesE_take, bytesE_app, intsE_fold, intsE_length, decide_eq_true_eq, decide_eq_false_iff_not, Nat.mul_one, Nat.zero_add, Nat.add_zero, Bool.not_eq_true', List.length_take, List.length_drop, List.length_append, List.length_cons, List.length_nil, List.drop_zero] <;> exact hcell, rfl, ?_⟩
    with_reducible refine runK hA hd hQ 100 ?hk ?_
    case hk => exact trivial
    conv => arg 8; cbv
    try simp only [OK]
    refine OKs.mask (msk 51 [0, 1, 6, 7, 13, 14, 15]) ?_
    refine OKs.loop (fun s => ∃ k : Int, s = ⟨mkT 51 [(0, .isl len none L), (1, .isl len2 none L2), (6, .isl n none c), (7, .lit (.int .i64 k)), (13, .isl len none L), (14, .lit (.int .i64 (A.ofn len))), (15, .lit (.int .i64 i))], []⟩ ∧ 0 ≤ k ∧ k ≤ 3) (fun s => (3 - intN (getT s.t 7)).toNat) (fun s hs ih2 => ?_)
      ⟨0, rfl, by omega, by omega⟩
    obtain ⟨k, rfl, hk0, hk1⟩ := hs
    have t := packs_ok k b hb hl
    rw [hi] at t
    with_reducible refine runS hA hd hQ 100 ?hk ?_
    case hk => exact trivial
    conv => arg 8; cbv
    try simp only [OK]
    refine ⟨fun h3 => ?_, fun h3 => ?_⟩ <;> simp (disch := omega) only [hA, OK, s_le, s_inb, s_slb, s_room, s_mks, s_ne0, s_nn, s_eql, s_neq, s_lss, s_leq, s_gtr, s_geq, s_isz, s_bnot, s_beq, s_idx, s_addN, s_subN, s_mulN, s_tn, s_ofn, s_nmin, s_drp, s_tak, s_app, s_len, s_leB, s_add, s_sub, s_mul, s_wr64, s_wr8, bytesE_fold, bytesE_length, bytesE_drop, bytesE_take, bytesE_app, intsE_fold, intsE_length, decide_eq_true_eq, decide_eq_false_iff_not, Nat.mul_one, Nat.zero_add, Nat.add_zero, Bool.not_eq_true', List.length_take, List.length_drop, List.length_append, List.length_cons, List.length_nil, List.drop_zero] at h3
    · with_reducible refine runK hA hd hQ 100 ?hk ?_
      case hk => exact trivial
      conv => arg 8; cbv
      try simp only [OK]
      refine ⟨goodF_of F12_ok, t.mono fun v h' hx => ?_⟩
      obtain ⟨hv, hh⟩ := hx
      subst hv; subst hh
      with_reducible refine runK hA hd hQ 100 ?hk ?_
      case hk => exact trivial
      conv => arg 8; cbv
      try simp only [OK]
      refine ⟨fun h4 => ?_, fun h4 => ?_⟩
      · with_reducible exfalso; (simp (disch := omega) only [hA, OK, s_le, s_inb, s_slb, s_room, s_mks, s_ne0, s_nn, s_eql, s_neq, s_lss, s_leq, s_gtr, s_geq, s_isz, s_bnot, s_beq, s_idx, s_addN, s_subN, s_mulN, s_tn, s_ofn, s_nmin, s_drp, s_tak, s_app, s_len, s_leB, s_add, s_sub, s_mul, s_wr64, s_wr8, bytesE_fold, bytesE_length, bytesE_drop, bytesE_take, bytesE_app, intsE_fold, intsE_length, decide_eq_true_eq, decide_eq_false_iff_not, Nat.mul_one, Nat.zero_add, Nat.add_zero, Bool.not_eq_true', List.length_take, List.length_drop, List.length_append, List.length_cons, List.length_nil, List.drop_zero, reduceCtorEq, not_true_eq_false, not_false_eq_true] at h4 <;> omega)
      with_reducible refine runK hA hd hQ 100 ?hk ?_
      case hk => exact trivial
      conv => arg 8; cbv
      try simp only [OK]
      refine OKs.mask (msk 51 [0, 1, 6, 7, 13, 14, 15]) ?_
      refine ih2 _ ⟨_, rfl, ?_, ?_⟩ (show (3 - A.ib .add .i64 k 1).toNat < (3 - k).toNat from ?_)
      all_goals (try simp (disch := omega) only [hA, OK, s_le, s_inb, s_slb, s_room, s_mks, s_ne0, s_nn, s_eql, s_neq, s_lss, s_leq, s_gtr, s_geq, s_isz, s_bnot, s_beq, s_idx, s_addN, s_subN, s_mulN, s_tn, s_ofn, s_nmin, s_drp, s_tak, s_app, s_len, s_leB, s_add, s_sub, s_mul, s_wr64, s_wr8, bytesE_fold, bytesE_length, bytesE_drop, bytesE_take, bytesE_app, intsE_fold, intsE_length, decide_eq_true_eq, decide_eq_false_iff_not, Nat.mul_one, Nat.zero_add, Nat.add_zero, Bool.not_eq_true', List.length_take, List.length_drop, List.length_append, List.length_cons, List.length_nil, List.drop_zero])
      all_goals omega
    · with_reducible refine runK hA hd hQ 100 ?hk ?_
      case hk => exact trivial
      conv => arg 8; cbv
      try simp only [OK]
      refine OKs.mask (msk 51 [0, 1, 13, 14, 15]) ?_
      refine ih _ ⟨_, rfl, ?_, ?_⟩ (show (len - A.ib .add .i64 i 1).toNat < (len - i).toNat from ?_)
      all_goals (try simp (disch := omega) only [hA, OK, s_le, s_inb, s_slb, s_room, s_mks, s_ne0, s_nn, s_eql, s_neq, s_lss, s_leq, s_gtr, s_geq, s_isz, s_bnot, s_beq, s_idx, s_addN, s_subN, s_mulN, s_tn, s_ofn, s_nmin, s_drp, s_tak, s_app, s_len, s_leB, s_add, s_sub, s_mul, s_wr64, s_wr8, bytesE_fold, bytesE_length, bytesE_drop, bytesE_take, bytesE_app, intsE_fold, intsE_length, decide_eq_true_eq, decide_eq_false_iff_not, Nat.mul_one, Nat.zero_add, Nat.add_zero, Bool.not_eq_true', List.length_take, List.length_drop, List.length_append, List.length_cons, List.length_nil, List.drop_zero])
      all_goals omega
  · with_reducible refine runK hA hd hQ 100 ?hk ?_
    case hk => exact trivial
    conv => arg 8; cbv
    try simp only [OK]
    clear ih
    refine OKs.mask (msk 51 [0, 28, 29, 30]) ?_
    refine OKs.loop (fun s => ∃ i : Int, s = ⟨mkT 51 [(0, .isl len none L), (28, .isl len2 none L2), (29, .lit (.int .i64 (A.ofn len2))), (30, .lit (.int .i64 i))], []⟩ ∧ 0 ≤ i ∧ i ≤ len2) (fun s => (len2 - intN (getT s.t 30)).toNat) (fun s hs ih => ?_)
      ⟨0, rfl, by omega, by omega⟩
    obtain ⟨i, rfl, hi0, hi1⟩ := hs
    with_reducible refine runS hA hd hQ 100 ?hk ?_
    case hk => exact trivial
    conv => arg 8; cbv
    try simp only [OK]
    refine ⟨fun h2 => ?_, fun h2 => ?_⟩ <;> simp (disch := omega) only [hA, OK, s_le, s_inb, s_slb, s_room, s_mks, s_ne0, s_nn, s_eql, s_neq, s_lss, s_leq, s_gtr, s_geq, s_isz, s_bnot, s_beq, s_idx, s_addN, s_subN, s_mulN, s_tn, s_ofn, s_nmin, s_drp, s_tak, s_app, s_len, s_leB, s_add, s_sub, s_mul, s_wr64, s_wr8, bytesE_fold, bytesE_length, bytesE_drop, bytesE_take, bytesE_app, intsE_fold, intsE_length, decide_eq_true_eq, decide_eq_false_iff_not, Nat.mul_one, Nat.zero_add, Nat.add_zero, Bool.not_eq_true', List.length_take, List.length_drop, List.length_append, List.length_cons, List.length_nil, List.drop_zero] at h2
    · with_reducible refine runK hA hd hQ 100 ?hk ?_
      case hk => exact trivial
      conv => arg 8; cbv
      try simp only [OK]
      obtain ⟨how, hcell, _, _⟩ := HasS.i64 (hL2 i.toNat (by omega))
      rw [Nat.mul_one] at hcell
      refine ⟨by simp (disch := omega) only [hA, OK, s_le, s_inb, s_slb, s_room, s_mks, s_ne0, s_nn, s_eql, s_neq, s_lss, s_leq, s_gtr, s_geq, s_isz, s_bnot, s_beq, s_idx, s_addN, s_subN, s_mulN, s_tn, s_ofn, s_nmin, s_drp, s_tak, s_app, s_len, s_leB, s_add, s_sub, s_mul, s_wr64, s_wr8, bytesE_fold, bytesE_length, bytesE_drop, bytesE_take, bytesE_app, intsE_fold, intsE_length, decide_eq_true_eq, decide_eq_false_iff_not, Nat.mul_one, Nat.zero_add, Nat.add_zero, Bool.not_eq_true', List.length_take, List.length_drop, List.length_append, List.length_cons, List.length_nil, List.drop_zero] <;> omega, [.lit (.int .i64 how)], _, rfl, by simp (disch := omega) only [hA, OK, s_le, s_inb, s_slb, s_room, s_mks, s_ne0, s_nn, s_eql, s_neq, s_lss, s_leq, s_gtr, s_geq, s_isz, s_bnot, s_beq, s_idx, s_addN, s_subN, s_mulN, s_tn, s_ofn, s_nmin, s_drp, s_tak, s_app, s_len, s_leB, s_add, s_sub, s_mul, s_wr64, s_wr8, bytesE_fold, bytesE_length, bytesE_drop, bytesE_take, bytesE_app, intsE_fold, intsE_length, decide_eq_true_eq, decide_eq_false_iff_not, Nat.mul_one, Nat.zero_add, Nat.add_zero, Bool.not_eq_true', List.length_take, List.length_drop, List.length_append, List.length_cons, List.length_nil, List.drop_zero] <;> exact hcell, rfl, ?_⟩
      with_reducible refine runK hA hd hQ 100 ?hk ?_
      case hk => exact trivial
      conv => arg 8; cbv
      try simp only [OK]
      refine ⟨fun h3 => ?_, fun h3 => ?_⟩ <;> simp (disch := omega) only [hA, OK, s_le, s_inb, s_slb, s_room, s_mks, s_ne0, s_nn, s_eql, s_neq, s_lss, s_leq, s_gtr, s_geq, s_isz, s_bnot, s_beq, s_idx, s_addN, s_subN, s_mulN, s_tn, s_ofn, s_nmin, s_drp, s_tak, s_app, s_len, s_leB, s_add, s_sub, s_mul, s_wr64, s_wr8, bytesE_fold, bytesE_length, bytesE_drop, bytesE_take, bytesE_app, intsE_fold, intsE_length, decide_eq_true_eq, decide_eq_false_iff_not, Nat.mul_one, Nat.zero_add, Nat.add_zero, Bool.not_eq_true', List.length_take, List.length_drop, List.length_append, List.length_cons, List.length_nil, List.drop_zero] at h3
      · with_reducible refine runK hA hd hQ 100 ?hk ?_
        case hk => exact trivial
        conv => arg 8; cbv
        try simp only [OK]
        obtain ⟨b, hcell2, hb, hl⟩ := HasS.bytes (hL i.toNat (by omega))
        obtain ⟨n, c, hi, hn, hc⟩ := isB_open b
        have t := packs_ok how b hb hl
        rw [hi] at t
        rw [hi, Nat.mul_one] at hcell2
        refine ⟨by simp (disch := omega) only [hA, OK, s_le, s_inb, s_slb, s_room, s_mks, s_ne0, s_nn, s_eql, s_neq, s_lss, s_leq, s_gtr, s_geq, s_isz, s_bnot, s_beq, s_idx, s_addN, s_subN, s_mulN, s_tn, s_ofn, s_nmin, s_drp, s_tak, s_app, s_len, s_leB, s_add, s_sub, s_mul, s_wr64, s_wr8, bytesE_fold, bytesE_length, bytesE_drop, bytesE_take, bytesE_app, intsE_fold, intsE_length, decide_eq_true_eq, decide_eq_false_iff_not, Nat.mul_one, Nat.zero_add, Nat.add_zero, Bool.not_eq_true', List.length_take, List.length_drop, List.length_append, List.length_cons, List.length_nil, List.drop_zero] <;> omega, [.isl n none c], _, rfl, by simp (disch := omega) only [hA, OK, s_le, s_inb, s_slb, s_room, s_mks, s_ne0, s_nn, s_eql, s_neq, s_lss, s_leq, s_gtr, s_geq, s_isz, s_bnot, s_beq, s_idx, s_addN, s_subN, s_mulN, s_tn, s_ofn, s_nmin, s_drp, s_tak, s_app, s_len, s_leB, s_add, s_sub, s_mul, s_wr64, s_wr8, bytesE_fold, bytesE_length, bytesE_drop, bytesE_take, bytesE_app, intsE_fold, intsE_length, decide_eq_true_eq, decide_eq_false_iff_not, Nat.mul_one, Nat.zero_add, Nat.add_zero, Bool.not_eq_true', List.length_take, List.length_drop, List.length_append, List.length_cons, List.length_nil, List.drop_zero] <;> exact hcell2, rfl, ?_⟩
        with_reducible refine runK hA hd hQ 100 ?hk ?_
        case hk => exact trivial
        conv => arg 8; cbv
        try simp only [OK]
        refine ⟨goodF_of F12_ok, (Tri.clean rfl rfl t _).mono fun v h' hx => ?_⟩
        obtain ⟨hv, hh⟩ := hx
        subst hv; subst hh
        with_reducible refine runK hA hd hQ 100 ?hk ?_
        case hk => exact trivial
        conv => arg 8; cbv
        try simp only [OK]
        refine ⟨fun h4 => ?_, fun h4 => ?_⟩
        · with_reducible exfalso; (simp (disch := omega) only [hA, OK, s_le, s_inb, s_slb, s_room, s_mks, s_ne0, s_nn, s_eql, s_neq, s_lss, s_leq, s_gtr, s_geq, s_isz, s_bnot, s_beq, s_idx, s_addN, s_subN, s_mulN, s_tn, s_ofn, s_nmin, s_drp, s_tak, s_app, s_len, s_leB, s_add, s_sub, s_mul, s_wr64, s_wr8, bytesE_fold, bytesE_length, bytesE_drop, bytesE_take, bytesE_app, intsE_fold, intsE_length, decide_eq_true_eq, decide_eq_false_iff_not, Nat.mul_one, Nat.zero_add, Nat.add_zero, Bool.not_eq_true', List.length_take, List.length_drop, List.length_append, List.length_cons, List.length_nil, List.drop_zero, reduceCtorEq, not_true_eq_false, not_false_eq_true] at h4 <;> omega)
        with_reducible refine runK hA hd hQ 100 ?hk ?_
        case hk => exact trivial
        conv => arg 8; cbv
        try simp only [OK]
        refine OKs.mask (msk 51 [0, 28, 29, 30]) (OKs.mv [] [] (by rw [hρ]; rfl) ⟨by simp, by simp, by simp⟩ ?_)
        refine ih _ ⟨_, rfl, ?_, ?_⟩ (show (len2 - A.ib .add .i64 i 1).toNat < (len2 - i).toNat from ?_)
        all_goals (try simp (disch := omega) only [hA, OK, s_le, s_inb, s_slb, s_room, s_mks, s_ne0, s_nn, s_eql, s_neq, s_lss, s_leq, s_gtr, s_geq, s_isz, s_bnot, s_beq, s_idx, s_addN, s_subN, s_mulN, s_tn, s_ofn, s_nmin, s_drp, s_tak, s_app, s_len, s_leB, s_add, s_sub, s_mul, s_wr64, s_wr8, bytesE_fold, bytesE_length, bytesE_drop, bytesE_take, bytesE_app, intsE_fold, intsE_length, decide_eq_true_eq, decide_eq_false_iff_not, Nat.mul_one, Nat.zero_add, Nat.add_zero, Bool.not_eq_true', List.length_take, List.length_drop, List.length_append, List.length_cons, List.length_nil, List.drop_zero])
        all_goals omega
      · with_reducible refine runK hA hd hQ 100 ?hk ?_
        case hk => exact trivial
        conv => arg 8; cbv
        try simp only [OK]
        obtain ⟨x, hx⟩ : ∃ x : Nat, x = (i % 256).toNat := ⟨_, rfl⟩
        have hw : A.wr .u8 i = (x : Int) := by rw [hA, s_wr8m]; omega
        have hbb : AllB [x, 1, 1, 1, 1, 1] := by
          intro y hy
          simp at hy
          rcases hy with rfl | rfl <;> omega
        have t := packs_ok how [x, 1, 1, 1, 1, 1] hbb (by simp)
        have hbl : [EV.lit (.int .u8 (A.wr .u8 i)), .lit (.int .u8 1), .lit (.int .u8 1), .lit (.int .u8 1), .lit (.int .u8 1), .lit (.int .u8 1)] = bytesE [x, 1, 1, 1, 1, 1] := by rw [hw]; rfl
        refine ⟨goodF_of F12_ok, (Tri.lend [0] (fun id hid => ?_) (fun w I ρ vs hr => ?_) rfl rfl t).mono fun v h' hx => ?_⟩
        · simp at hid; subst hid; exact ⟨_, rfl, by show clL [EV.lit (.int .u8 (A.wr .u8 i)), .lit (.int .u8 1), .lit (.int .u8 1), .lit (.int .u8 1), .lit (.int .u8 1), .lit (.int .u8 1)] = true; rw [hbl]; exact clL_bytes _⟩
        · match vs, hr with
          | [v1, v2], hr =>
            refine ⟨hr.1, ?_, trivial⟩
            have h2 := Up.cap _ _ _ _ _ _ _ hr.2.1
            rw [hbl] at h2
            exact h2
        · obtain ⟨hv, hh⟩ := hx
          subst hv; subst hh
          with_reducible refine runK hA hd hQ 100 ?hk ?_
          case hk => exact trivial
          conv => arg 8; cbv
          try simp only [OK]
          refine ⟨fun h4 => ?_, fun h4 => ?_⟩
          · with_reducible exfalso; (simp (disch := omega) only [hA, OK, s_le, s_inb, s_slb, s_room, s_mks, s_ne0, s_nn, s_eql, s_neq, s_lss, s_leq, s_gtr, s_geq, s_isz, s_bnot, s_beq, s_idx, s_addN, s_subN, s_mulN, s_tn, s_ofn, s_nmin, s_drp, s_tak, s_app, s_len, s_leB, s_add, s_sub, s_mul, s_wr64, s_wr8, bytesE_fold, bytesE_length, bytesE_drop, bytesE_take, bytesE_app, intsE_fold, intsE_length, decide_eq_true_eq, decide_eq_false_iff_not, Nat.mul_one, Nat.zero_add, Nat.add_zero, Bool.not_eq_true', List.length_take, List.length_drop, List.length_append, List.length_cons, List.length_nil, List.drop_zero, reduceCtorEq, not_true_eq_false, not_false_eq_true] at h4 <;> omega)
          with_reducible refine runK hA hd hQ 100 ?hk ?_
          case hk => exact trivial
          conv => arg 8; cbv
          try simp only [OK]
          refine OKs.mask (msk 51 [0, 28, 29, 30]) (OKs.mv [] [] (by rw [hρ]; rfl) ⟨by simp, by simp, by simp⟩ ?_)
          refine ih _ ⟨_, rfl, ?_, ?_⟩ (show (len2 - A.ib .add .i64 i 1).toNat < (len2 - i).toNat from ?_)
          all_goals (try simp (disch := omega) only [hA, OK, s_le, s_inb, s_slb, s_room, s_mks, s_ne0, s_nn, s_eql, s_neq, s_lss, s_leq, s_gtr, s_geq, s_isz, s_bnot, s_beq, s_idx, s_addN, s_subN, s_mulN, s_tn, s_ofn, s_nmin, s_drp, s_tak, s_app, s_len, s_leB, s_add, s_sub, s_mul, s_wr64, s_wr8, bytesE_fold, bytesE_length, bytesE_drop, bytesE_take, bytesE_app, intsE_fold, intsE_length, decide_eq_true_eq, decide_eq_false_iff_not, Nat.mul_one, Nat.zero_add, Nat.add_zero, Bool.not_eq_true', List.length_take, List.length_drop, List.length_append, List.length_cons, List.length_nil, List.drop_zero])
          all_goals omega
    · with_reducible refine runK hA hd hQ 100 ?hk ?_
      case hk => exact trivial
      conv => arg 8; cbv
      try simp only [OK]
      exact ⟨_, rfl, .inl rfl⟩

end Go.Proofs.Ytplibngmgebigaa.Press
