/- Pr16: of any packed bytes just as many come out as Size tells; they can be packed and come out again. No conditions. -/
import Derived.Test.YtplibngmgebigaaPr15
set_option linter.unusedVariables false
set_option linter.unusedSimpArgs false
namespace Go.Proofs.Ytplibngmgebigaa.Press
open Go Go.Proofs.Ytplibngmgebigaa Go.Proofs.Ytplibngmgebigaa.Em

theorem lyL_ge (two : Bool) (most more : Int) (hm : more ≠ 0) : ∀ (n : Nat) (b out o : List Nat), lyL two most more n b out = (o, 0) → out.length ≤ o.length ∧ (out.length ≤ most → o.length ≤ most)
  | 0, b, out, o, h => by simp only [lyL, Prod.mk.injEq, and_true] at h; subst h; exact ⟨Nat.le_refl _, id⟩
  | n + 1, [], out, o, h => by simp only [lyL, Prod.mk.injEq, and_true] at h; subst h; exact ⟨Nat.le_refl _, id⟩
  | n + 1, c :: b, out, o, h => by
    have ih := lyL_ge two most more hm n
    simp only [lyL] at h
    split at h
    · split at h
      · simp at h
      · split at h
        · simp [hm] at h
        · have := ih _ _ _ h; simp only [List.length_append, List.length_take] at this; omega
    · split at h
      · split at h
        · simp at h
        · split at h
          · simp at h
          · split at h
            · simp [hm] at h
            · have := ih _ _ _ h; rw [cpB_length] at this; omega
      · split at h
        · simp at h
        · split at h
          · simp [hm] at h
          · have := ih _ _ _ h; simp only [List.length_append, List.length_replicate] at this; omega

theorem lyL_mono (two : Bool) (m1 e1 m2 e2 : Int) (he : e1 ≠ 0) : ∀ (n : Nat) (b out o : List Nat), lyL two m1 e1 n b out = (o, 0) → o.length ≤ m2 → lyL two m2 e2 n b out = (o, 0)
  | 0, b, out, o, h, h2 => h
  | n + 1, [], out, o, h, h2 => h
  | n + 1, c :: b, out, o, h, h2 => by
    have ih := lyL_mono two m1 e1 m2 e2 he n
    simp only [lyL] at h ⊢
    split at h
    · rename_i hc
      rw [if_pos hc]
      split at h
      · simp at h
      · rename_i h3
        rw [if_neg h3]
        split at h
        · simp [he] at h
        · have := (lyL_ge _ _ _ he _ _ _ _ h).1
          simp only [List.length_append, List.length_take] at this
          rw [if_neg (by omega)]
          exact ih _ _ _ h h2
    · rename_i hc
      rw [if_neg hc]
      split at h
      · rename_i ht
        rw [if_pos ht]
        split at h
        · simp at h
        · rename_i h3
          rw [if_neg h3]
          split at h
          · simp at h
          · rename_i h4
            rw [if_neg h4]
            split at h
            · simp [he] at h
            · have := (lyL_ge _ _ _ he _ _ _ _ h).1
              rw [cpB_length] at this
              rw [if_neg (by omega)]
              exact ih _ _ _ h h2
      · rename_i ht
        rw [if_neg ht]
        split at h
        · simp at h
        · rename_i h3
          rw [if_neg h3]
          split at h
          · simp [he] at h
          · have := (lyL_ge _ _ _ he _ _ _ _ h).1
            simp only [List.length_append, List.length_replicate] at this
            rw [if_neg (by omega)]
            exact ih _ _ _ h h2

theorem opL_mono (how : Int) (b o : List Nat) (m1 e1 m2 e2 : Int) (he : e1 ≠ 0) (h : opL how b m1 e1 = (o, 0)) (h2 : o.length ≤ m2) : opL how b m2 e2 = (o, 0) := by
  unfold opL at h ⊢
  split at h
  · rename_i h0
    rw [if_pos h0]
    split at h
    · simp [he] at h
    · simp only [Prod.mk.injEq, and_true] at h
      subst h
      rw [if_neg (by omega)]
  · rename_i h0
    rw [if_neg h0]
    exact lyL_mono _ _ _ _ _ he _ _ _ _ h h2

theorem opL_most (how : Int) (b o : List Nat) (m e : Int) (he : e ≠ 0) (hm : 0 ≤ m) (h : opL how b m e = (o, 0)) : o.length ≤ m := by
  unfold opL at h
  split at h
  · split at h
    · simp [he] at h
    · simp only [Prod.mk.injEq, and_true] at h
      subst h; omega
  · exact (lyL_ge _ _ _ he _ _ _ _ h).2 (by simp; omega)

theorem agr1 (how : Int) (b : List Nat) (hb : AllB b) (h : (szL how b).2 = 0) : ∃ o, AllB o ∧ o.length ≤ 65536 ∧ (szL how b).1 = (o.length : Int) ∧ unL how b (o.length : Int) = (o, 0) ∧ 0 ≤ how ∧ how ≤ 2 := by
  unfold szL at h ⊢
  split at h
  · simp at h
  · rename_i hh
    simp only at h
    rw [if_neg hh]
    have e : opL how b 65536 4 = ((opL how b 65536 4).1, 0) := by rw [← h]
    have h1 := opL_most how b _ 65536 4 (by omega) (by omega) e
    refine ⟨(opL how b 65536 4).1, opL_all _ _ _ _ hb, by omega, rfl, ?_, by omega, by omega⟩
    unfold unL
    rw [if_neg (by omega), if_neg (by omega), opL_mono how b _ 65536 4 _ 61 (by omega) e (Int.le_refl _), if_neg (by simp), if_neg (by simp only; omega)]

theorem unL_err (how : Int) (b : List Nat) (raw : Int) (h : ¬ (unL how b raw).2 = 0) : (unL how b raw).1 = [] := by
  unfold unL at h ⊢
  split
  · rfl
  · rename_i h1
    rw [if_neg h1] at h
    split
    · rfl
    · rename_i h2
      rw [if_neg h2] at h
      split
      · rfl
      · rename_i h3
        rw [if_neg h3] at h
        split
        · rfl
        · rename_i h4
          rw [if_neg h4] at h
          exact absurd rfl h

theorem agr2 (how : Int) (b : List Nat) (raw : Int) (h : (unL how b raw).2 = 0) : (szL how b).2 = 0 ∧ raw = (szL how b).1 := by
  unfold unL at h
  split at h
  · simp at h
  · rename_i h1
    split at h
    · simp at h
    · rename_i h2
      split at h
      · rename_i h3; exact absurd h h3
      · rename_i h3
        split at h
        · simp at h
        · rename_i h4
          have h3' : (opL how b raw 61).2 = 0 := by omega
          have e : opL how b raw 61 = ((opL how b raw 61).1, 0) := by rw [← h3']
          have k1 := opL_most how b _ raw 61 (by omega) (by omega) e
          have k2 := opL_mono how b _ raw 61 65536 4 (by omega) e (by omega)
          unfold szL
          rw [if_neg (by omega), k2]
          exact ⟨rfl, by simp only; omega⟩

def agr_sh : List Sh := [opS]

set_option maxHeartbeats 1000000 in
theorem agrees_law : ∀ es, HasVs agr_sh es → Tri Try.prog [] 8 es [] yesE := by
  intro es h
  obtain ⟨e1, r1, rfl, h1, h2⟩ := h
  have h2 : r1 = [] := h2
  subst h2
  obtain ⟨cs, rfl, h1⟩ := h1
  obtain ⟨how, raw, b, rfl, hb, hl, hw, hrw⟩ := op_cells h1
  clear h1
  refine Tri_of F8_ok fun I0 ρ0 w0 Q hρ hQ => ?_
  obtain ⟨A, hA⟩ : ∃ A, A = stdA := ⟨_, rfl⟩
  obtain ⟨N, c, hi, hN, hc⟩ := isB_open b
  rw [hi]
  have tS := sizeP how b hb hl
  have tU := unpackP how b hb hl raw
  obtain ⟨sn, hsn⟩ : ∃ sn, sn = (szL how b).1 := ⟨_, rfl⟩
  obtain ⟨se, hse⟩ : ∃ se, se = (szL how b).2 := ⟨_, rfl⟩
  obtain ⟨o, ho⟩ : ∃ o, o = (unL how b raw).1 := ⟨_, rfl⟩
  obtain ⟨uf, huf⟩ : ∃ uf, uf = (unL how b raw).2 := ⟨_, rfl⟩
  obtain ⟨on, oc, hoi, hon, hoc⟩ := isB_open o
  have hoa : AllB o := by rw [ho]; exact unL_all how b raw hb
  have hue := unL_err how b raw
  have hag := agr2 how b raw
  have hag1 := agr1 how b hb
  rw [← hsn, ← hse, hi] at tS
  rw [← ho, ← huf, hoi, hi] at tU
  rw [← huf, ← ho] at hue
  rw [← huf, ← hse, ← hsn] at hag
  rw [← hse, ← hsn] at hag1
  with_reducible refine runS hA hd hQ 200 ?hk ?_
  case hk => exact trivial
  conv => arg 8; cbv
  try simp only [OK]
  refine ⟨goodF_of F11_ok, (Tri.clean rfl rfl awake_ok _).mono fun v h' hx => ?_⟩
  obtain ⟨hv, hh⟩ := hx
  subst hv; subst hh
  with_reducible refine runK hA hd hQ 200 ?hk ?_
  case hk => exact trivial
  conv => arg 8; cbv
  try simp only [OK]
  refine ⟨fun h1 => ?_, fun h1 => ?_⟩
  · with_reducible exfalso; (simp (disch := omega) only [hA, OK, s_le, s_inb, s_slb, s_room, s_mks, s_ne0, s_nn, s_eql, s_neq, s_lss, s_leq, s_gtr, s_geq, s_isz, s_bnot, s_beq, s_idx, s_addN, s_subN, s_mulN, s_tn, s_ofn, s_nmin, s_drp, s_tak, s_app, s_len, s_leB, s_add, s_sub, s_mul, s_wr64, s_wr8, bytesE_fold, bytesE_length, bytesE_drop, bytesE_take, bytesE_app, intsE_fold, intsE_length, decide_eq_true_eq, decide_eq_false_iff_not, Nat.mul_one, Nat.zero_add, Nat.add_zero, Bool.not_eq_true', List.length_take, List.length_drop, List.length_append, List.length_cons, List.length_nil, List.drop_zero, reduceCtorEq, not_true_eq_false, not_false_eq_true] at h1 <;> omega)
  with_reducible refine runK hA hd hQ 200 ?hk ?_
  case hk => exact trivial
  conv => arg 8; cbv
  try simp only [OK]
  refine ⟨goodF_of F16_ok, (Tri.clean rfl rfl tS _).mono fun v h' hx => ?_⟩
  obtain ⟨hv, hh⟩ := hx
  subst hv; subst hh
  with_reducible refine runK hA hd hQ 200 ?hk ?_
  case hk => exact trivial
  conv => arg 8; cbv
  try simp only [OK]
  refine ⟨goodF_of F14_ok, (Tri.clean rfl rfl tU _).mono fun v h' hx => ?_⟩
  obtain ⟨hv, hh⟩ := hx
  subst hv; subst hh
  with_reducible refine runK hA hd hQ 200 ?hk ?_
  case hk => exact trivial
  conv => arg 8; cbv
  try simp only [OK]
  refine ⟨fun h2 => ?_, fun h2 => ?_⟩ <;> simp (disch := omega) only [hA, OK, s_le, s_inb, s_slb, s_room, s_mks, s_ne0, s_nn, s_eql, s_neq, s_lss, s_leq, s_gtr, s_geq, s_isz, s_bnot, s_beq, s_idx, s_addN, s_subN, s_mulN, s_tn, s_ofn, s_nmin, s_drp, s_tak, s_app, s_len, s_leB, s_add, s_sub, s_mul, s_wr64, s_wr8, bytesE_fold, bytesE_length, bytesE_drop, bytesE_take, bytesE_app, intsE_fold, intsE_length, decide_eq_true_eq, decide_eq_false_iff_not, Nat.mul_one, Nat.zero_add, Nat.add_zero, Bool.not_eq_true', List.length_take, List.length_drop, List.length_append, List.length_cons, List.length_nil, List.drop_zero] at h2
  · obtain ⟨o1, ho1a, ho1l, ho1n, ho1u, hh1, hh2⟩ := hag1 h2
    with_reducible refine runK hA hd hQ 200 ?hk ?_
    case hk => exact trivial
    conv => arg 8; cbv
    try simp only [OK]
    refine ⟨fun h3 => ?_, fun h3 => ?_⟩ <;> simp (disch := omega) only [hA, OK, s_le, s_inb, s_slb, s_room, s_mks, s_ne0, s_nn, s_eql, s_neq, s_lss, s_leq, s_gtr, s_geq, s_isz, s_bnot, s_beq, s_idx, s_addN, s_subN, s_mulN, s_tn, s_ofn, s_nmin, s_drp, s_tak, s_app, s_len, s_leB, s_add, s_sub, s_mul, s_wr64, s_wr8, bytesE_fold, bytesE_length, bytesE_drop, bytesE_take, bytesE_app, intsE_fold, intsE_length, decide_eq_true_eq, decide_eq_false_iff_not, Nat.mul_one, Nat.zero_add, Nat.add_zero, Bool.not_eq_true', List.length_take, List.length_drop, List.length_append, List.length_cons, List.length_nil, List.drop_zero] at h3
    · -- just as many
      have hro : raw = (o1.length : Int) := by omega
      rw [hro, ho1u] at ho huf
      have hoo : o = o1 := ho
      have hu0 : uf = 0 := huf
      subst hoo
      have tP := packP how o hoa (by omega)
      have hPz := pack_zero how ⟨hh1, hh2⟩ o ho1l
      have hPa := pack_all how o hoa
      have hPb := pack_bound how o hoa
      have hPu := un_pack how ⟨hh1, hh2⟩ o hoa ho1l sn (by omega)
      have tV := unpackP how (packL how o).1 hPa (by omega) sn
      rw [hPu] at tV
      rw [hPz] at tP
      obtain ⟨pn, pc, hpi, hpn, hpc⟩ := isB_open (packL how o).1
      rw [hpi, hoi] at tP tV
      with_reducible refine runK hA hd hQ 200 ?hk ?_
      case hk => exact trivial
      conv => arg 8; cbv
      try simp only [OK]
      refine ⟨goodF_of F17_ok, (Tri.clean rfl rfl tP _).mono fun v h' hx => ?_⟩
      obtain ⟨hv, hh⟩ := hx
      subst hv; subst hh
      with_reducible refine runK hA hd hQ 200 ?hk ?_
      case hk => exact trivial
      conv => arg 8; cbv
      try simp only [OK]
      refine ⟨goodF_of F14_ok, (Tri.clean rfl rfl tV _).mono fun v h' hx => ?_⟩
      obtain ⟨hv, hh⟩ := hx
      subst hv; subst hh
      with_reducible refine runK hA hd hQ 200 ?hk ?_
      case hk => exact trivial
      conv => arg 8; cbv
      try simp only [OK]
      refine ⟨fun h5 => ?_, fun h5 => ?_⟩
      rotate_left
      · with_reducible exfalso; (simp (disch := omega) only [hA, OK, s_le, s_inb, s_slb, s_room, s_mks, s_ne0, s_nn, s_eql, s_neq, s_lss, s_leq, s_gtr, s_geq, s_isz, s_bnot, s_beq, s_idx, s_addN, s_subN, s_mulN, s_tn, s_ofn, s_nmin, s_drp, s_tak, s_app, s_len, s_leB, s_add, s_sub, s_mul, s_wr64, s_wr8, bytesE_fold, bytesE_length, bytesE_drop, bytesE_take, bytesE_app, intsE_fold, intsE_length, decide_eq_true_eq, decide_eq_false_iff_not, Nat.mul_one, Nat.zero_add, Nat.add_zero, Bool.not_eq_true', List.length_take, List.length_drop, List.length_append, List.length_cons, List.length_nil, List.drop_zero, reduceCtorEq, not_true_eq_false, not_false_eq_true] at h5 <;> omega)
      with_reducible refine runK hA hd hQ 200 ?hk ?_
      case hk => exact trivial
      conv => arg 8; cbv
      try simp only [OK]
      refine ⟨fun h6 => ?_, fun h6 => ?_⟩
      rotate_left
      · with_reducible exfalso; (simp (disch := omega) only [hA, OK, s_le, s_inb, s_slb, s_room, s_mks, s_ne0, s_nn, s_eql, s_neq, s_lss, s_leq, s_gtr, s_geq, s_isz, s_bnot, s_beq, s_idx, s_addN, s_subN, s_mulN, s_tn, s_ofn, s_nmin, s_drp, s_tak, s_app, s_len, s_leB, s_add, s_sub, s_mul, s_wr64, s_wr8, bytesE_fold, bytesE_length, bytesE_drop, bytesE_take, bytesE_app, intsE_fold, intsE_length, decide_eq_true_eq, decide_eq_false_iff_not, Nat.mul_one, Nat.zero_add, Nat.add_zero, Bool.not_eq_true', List.length_take, List.length_drop, List.length_append, List.length_cons, List.length_nil, List.drop_zero, reduceCtorEq, not_true_eq_false, not_false_eq_true] at h6 <;> omega)
      with_reducible refine runK hA hd hQ 200 ?hk ?_
      case hk => exact trivial
      conv => arg 8; cbv
      try simp only [OK]
      refine ⟨fun h7 => ?_, fun h7 => ?_⟩
      rotate_left
      · with_reducible exfalso; (simp (disch := omega) only [hA, OK, s_le, s_inb, s_slb, s_room, s_mks, s_ne0, s_nn, s_eql, s_neq, s_lss, s_leq, s_gtr, s_geq, s_isz, s_bnot, s_beq, s_idx, s_addN, s_subN, s_mulN, s_tn, s_ofn, s_nmin, s_drp, s_tak, s_app, s_len, s_leB, s_add, s_sub, s_mul, s_wr64, s_wr8, bytesE_fold, bytesE_length, bytesE_drop, bytesE_take, bytesE_app, intsE_fold, intsE_length, decide_eq_true_eq, decide_eq_false_iff_not, Nat.mul_one, Nat.zero_add, Nat.add_zero, Bool.not_eq_true', List.length_take, List.length_drop, List.length_append, List.length_cons, List.length_nil, List.drop_zero, reduceCtorEq, not_true_eq_false, not_false_eq_true] at h7 <;> omega)
      with_reducible refine runK hA hd hQ 200 ?hk ?_
      case hk => exact trivial
      conv => arg 8; cbv
      try simp only [OK]
      refine ⟨fun h8 => ?_, fun h8 => ?_⟩
      rotate_left
      · with_reducible exfalso; (simp (disch := omega) only [hA, OK, s_le, s_inb, s_slb, s_room, s_mks, s_ne0, s_nn, s_eql, s_neq, s_lss, s_leq, s_gtr, s_geq, s_isz, s_bnot, s_beq, s_idx, s_addN, s_subN, s_mulN, s_tn, s_ofn, s_nmin, s_drp, s_tak, s_app, s_len, s_leB, s_add, s_sub, s_mul, s_wr64, s_wr8, bytesE_fold, bytesE_length, bytesE_drop, bytesE_take, bytesE_app, intsE_fold, intsE_length, decide_eq_true_eq, decide_eq_false_iff_not, Nat.mul_one, Nat.zero_add, Nat.add_zero, Bool.not_eq_true', List.length_take, List.length_drop, List.length_append, List.length_cons, List.length_nil, List.drop_zero, reduceCtorEq, not_true_eq_false, not_false_eq_true] at h8 <;> omega)
      with_reducible refine runK hA hd hQ 200 ?hk ?_
      case hk => exact trivial
      conv => arg 8; cbv
      try simp only [OK]
      have hby : A.byt on oc = true := by rw [hA, hoc, hon]; exact byt_ok hoa (Nat.le_refl _)
      refine ⟨hby, hby, _, rfl, .inr ?_⟩
      show EV.sb (A.ss .eql (A.dec (A.tak on oc)) (A.dec (A.tak on oc))) = _
      rw [hA, ss_eql_self]
    · -- another number
      have hu0 : ¬ uf = 0 := fun h0 => h3 (hag h0).2
      have ho0 : o = [] := hue hu0
      have hn0 : on = 0 := by rw [hon, ho0]; rfl
      have tV := unpackP how b hb hl sn
      rw [ho1n, ho1u] at tV
      obtain ⟨qn, qc, hqi, hqn, hqc⟩ := isB_open o1
      rw [← ho1n, hqi, hi] at tV
      with_reducible refine runK hA hd hQ 200 ?hk ?_
      case hk => exact trivial
      conv => arg 8; cbv
      try simp only [OK]
      refine ⟨fun h5 => ?_, fun h5 => ?_⟩
      · with_reducible exfalso; (simp (disch := omega) only [hA, OK, s_le, s_inb, s_slb, s_room, s_mks, s_ne0, s_nn, s_eql, s_neq, s_lss, s_leq, s_gtr, s_geq, s_isz, s_bnot, s_beq, s_idx, s_addN, s_subN, s_mulN, s_tn, s_ofn, s_nmin, s_drp, s_tak, s_app, s_len, s_leB, s_add, s_sub, s_mul, s_wr64, s_wr8, bytesE_fold, bytesE_length, bytesE_drop, bytesE_take, bytesE_app, intsE_fold, intsE_length, decide_eq_true_eq, decide_eq_false_iff_not, Nat.mul_one, Nat.zero_add, Nat.add_zero, Bool.not_eq_true', List.length_take, List.length_drop, List.length_append, List.length_cons, List.length_nil, List.drop_zero, reduceCtorEq, not_true_eq_false, not_false_eq_true] at h5 <;> omega)
      with_reducible refine runK hA hd hQ 200 ?hk ?_
      case hk => exact trivial
      conv => arg 8; cbv
      try simp only [OK]
      refine ⟨fun h6 => ?_, fun h6 => ?_⟩
      · with_reducible exfalso; (simp (disch := omega) only [hA, OK, s_le, s_inb, s_slb, s_room, s_mks, s_ne0, s_nn, s_eql, s_neq, s_lss, s_leq, s_gtr, s_geq, s_isz, s_bnot, s_beq, s_idx, s_addN, s_subN, s_mulN, s_tn, s_ofn, s_nmin, s_drp, s_tak, s_app, s_len, s_leB, s_add, s_sub, s_mul, s_wr64, s_wr8, bytesE_fold, bytesE_length, bytesE_drop, bytesE_take, bytesE_app, intsE_fold, intsE_length, decide_eq_true_eq, decide_eq_false_iff_not, Nat.mul_one, Nat.zero_add, Nat.add_zero, Bool.not_eq_true', List.length_take, List.length_drop, List.length_append, List.length_cons, List.length_nil, List.drop_zero, reduceCtorEq, not_true_eq_false, not_false_eq_true] at h6 <;> omega)
      with_reducible refine runK hA hd hQ 200 ?hk ?_
      case hk => exact trivial
      conv => arg 8; cbv
      try simp only [OK]
      refine ⟨fun h7 => ?_, fun h7 => ?_⟩
      rotate_left
      · with_reducible exfalso; (simp (disch := omega) only [hA, OK, s_le, s_inb, s_slb, s_room, s_mks, s_ne0, s_nn, s_eql, s_neq, s_lss, s_leq, s_gtr, s_geq, s_isz, s_bnot, s_beq, s_idx, s_addN, s_subN, s_mulN, s_tn, s_ofn, s_nmin, s_drp, s_tak, s_app, s_len, s_leB, s_add, s_sub, s_mul, s_wr64, s_wr8, bytesE_fold, bytesE_length, bytesE_drop, bytesE_take, bytesE_app, intsE_fold, intsE_length, decide_eq_true_eq, decide_eq_false_iff_not, Nat.mul_one, Nat.zero_add, Nat.add_zero, Bool.not_eq_true', List.length_take, List.length_drop, List.length_append, List.length_cons, List.length_nil, List.drop_zero, reduceCtorEq, not_true_eq_false, not_false_eq_true] at h7 <;> omega)
      with_reducible refine runK hA hd hQ 200 ?hk ?_
      case hk => exact trivial
      conv => arg 8; cbv
      try simp only [OK]
      refine ⟨goodF_of F14_ok, (Tri.clean rfl rfl tV _).mono fun v h' hx => ?_⟩
      obtain ⟨hv, hh⟩ := hx
      subst hv; subst hh
      with_reducible refine runK hA hd hQ 200 ?hk ?_
      case hk => exact trivial
      conv => arg 8; cbv
      try simp only [OK]
      refine ⟨fun h8 => ?_, fun h8 => ?_⟩
      rotate_left
      · with_reducible exfalso; (simp (disch := omega) only [hA, OK, s_le, s_inb, s_slb, s_room, s_mks, s_ne0, s_nn, s_eql, s_neq, s_lss, s_leq, s_gtr, s_geq, s_isz, s_bnot, s_beq, s_idx, s_addN, s_subN, s_mulN, s_tn, s_ofn, s_nmin, s_drp, s_tak, s_app, s_len, s_leB, s_add, s_sub, s_mul, s_wr64, s_wr8, bytesE_fold, bytesE_length, bytesE_drop, bytesE_take, bytesE_app, intsE_fold, intsE_length, decide_eq_true_eq, decide_eq_false_iff_not, Nat.mul_one, Nat.zero_add, Nat.add_zero, Bool.not_eq_true', List.length_take, List.length_drop, List.length_append, List.length_cons, List.length_nil, List.drop_zero, reduceCtorEq, not_true_eq_false, not_false_eq_true] at h8 <;> omega)
      with_reducible refine runK hA hd hQ 200 ?hk ?_
      case hk => exact trivial
      conv => arg 8; cbv
      try simp only [OK]
      refine ⟨_, rfl, .inr ?_⟩
      show EV.sb (A.ic .eql (A.ofn qn) sn) = _
      rw [hA, s_eql, s_ofn]
      simp only [EV.sb.injEq, decide_eq_true_eq]
      omega
  · -- Size refuses
    have hu0 : ¬ uf = 0 := fun h0 => h2 (hag h0).1
    have ho0 : o = [] := hue hu0
    have hn0 : on = 0 := by rw [hon, ho0]; rfl
    with_reducible refine runK hA hd hQ 200 ?hk ?_
    case hk => exact trivial
    conv => arg 8; cbv
    try simp only [OK]
    refine ⟨fun h5 => ?_, fun h5 => ?_⟩
    · with_reducible exfalso; (simp (disch := omega) only [hA, OK, s_le, s_inb, s_slb, s_room, s_mks, s_ne0, s_nn, s_eql, s_neq, s_lss, s_leq, s_gtr, s_geq, s_isz, s_bnot, s_beq, s_idx, s_addN, s_subN, s_mulN, s_tn, s_ofn, s_nmin, s_drp, s_tak, s_app, s_len, s_leB, s_add, s_sub, s_mul, s_wr64, s_wr8, bytesE_fold, bytesE_length, bytesE_drop, bytesE_take, bytesE_app, intsE_fold, intsE_length, decide_eq_true_eq, decide_eq_false_iff_not, Nat.mul_one, Nat.zero_add, Nat.add_zero, Bool.not_eq_true', List.length_take, List.length_drop, List.length_append, List.length_cons, List.length_nil, List.drop_zero, reduceCtorEq, not_true_eq_false, not_false_eq_true] at h5 <;> omega)
    with_reducible refine runK hA hd hQ 200 ?hk ?_
    case hk => exact trivial
    conv => arg 8; cbv
    try simp only [OK]
    refine ⟨fun h6 => ?_, fun h6 => ?_⟩
    · with_reducible exfalso; (simp (disch := omega) only [hA, OK, s_le, s_inb, s_slb, s_room, s_mks, s_ne0, s_nn, s_eql, s_neq, s_lss, s_leq, s_gtr, s_geq, s_isz, s_bnot, s_beq, s_idx, s_addN, s_subN, s_mulN, s_tn, s_ofn, s_nmin, s_drp, s_tak, s_app, s_len, s_leB, s_add, s_sub, s_mul, s_wr64, s_wr8, bytesE_fold, bytesE_length, bytesE_drop, bytesE_take, bytesE_app, intsE_fold, intsE_length, decide_eq_true_eq, decide_eq_false_iff_not, Nat.mul_one, Nat.zero_add, Nat.add_zero, Bool.not_eq_true', List.length_take, List.length_drop, List.length_append, List.length_cons, List.length_nil, List.drop_zero, reduceCtorEq, not_true_eq_false, not_false_eq_true] at h6 <;> omega)
    with_reducible refine runK hA hd hQ 200 ?hk ?_
    case hk => exact trivial
    conv => arg 8; cbv
    try simp only [OK]
    refine ⟨fun h7 => ?_, fun h7 => ?_⟩
    · with_reducible exfalso; (simp (disch := omega) only [hA, OK, s_le, s_inb, s_slb, s_room, s_mks, s_ne0, s_nn, s_eql, s_neq, s_lss, s_leq, s_gtr, s_geq, s_isz, s_bnot, s_beq, s_idx, s_addN, s_subN, s_mulN, s_tn, s_ofn, s_nmin, s_drp, s_tak, s_app, s_len, s_leB, s_add, s_sub, s_mul, s_wr64, s_wr8, bytesE_fold, bytesE_length, bytesE_drop, bytesE_take, bytesE_app, intsE_fold, intsE_length, decide_eq_true_eq, decide_eq_false_iff_not, Nat.mul_one, Nat.zero_add, Nat.add_zero, Bool.not_eq_true', List.length_take, List.length_drop, List.length_append, List.length_cons, List.length_nil, List.drop_zero, reduceCtorEq, not_true_eq_false, not_false_eq_true] at h7 <;> omega)
    with_reducible refine runK hA hd hQ 200 ?hk ?_
    case hk => exact trivial
    conv => arg 8; cbv
    try simp only [OK]
    exact ⟨_, rfl, .inl rfl⟩

end Go.Proofs.Ytplibngmgebigaa.Press
