/- Pr7: every Unpack and every Size answers as the document does. No conditions. -/
import Derived.Test.YtplibngmgebigaaPr6
set_option linter.unusedVariables false
set_option linter.unusedSimpArgs false
namespace Go.Proofs.Ytplibngmgebigaa.Press
open Go Go.Proofs.Ytplibngmgebigaa Go.Proofs.Ytplibngmgebigaa.Em

def opS : Sh := .struct (.cons 1 (.int .i64) (.cons 1 (.slice 1 (.int .u8)) (.cons 1 (.int .i64) .nil)))

theorem HasS.i64 {c : List EV} (h : HasS (.int .i64) c) : ∃ n : Int, c = [.lit (.int .i64 n)] ∧ -9223372036854775808 ≤ n ∧ n ≤ 9223372036854775807 := by
  simp only [HasS] at h
  obtain ⟨n, he, h1, h2⟩ := h
  simp [IntKind.min, IntKind.max, IntKind.signed, IntKind.bits] at h1 h2
  exact ⟨n, he, h1, h2⟩

theorem HasS.bytes {c : List EV} (h : HasS (.slice 1 (.int .u8)) c) : ∃ b : List Nat, c = [isB b] ∧ AllB b ∧ b.length ≤ 140737488351232 := by
  simp only [HasS] at h
  obtain ⟨len, l, he, h1, h2, h3⟩ := h
  obtain ⟨b, rfl, rfl, hb⟩ := bytes_of h2 h3
  exact ⟨b, he, hb, h1⟩

theorem op_cells {c : List EV} (h : HasS opS c) : ∃ (how raw : Int) (b : List Nat), c = [.lit (.int .i64 how), isB b, .lit (.int .i64 raw)] ∧ AllB b ∧ b.length ≤ 140737488351232 ∧
    (-9223372036854775808 ≤ how ∧ how ≤ 9223372036854775807) ∧ (-9223372036854775808 ≤ raw ∧ raw ≤ 9223372036854775807) := by
  simp only [opS, HasS, HasF] at h
  obtain ⟨h1, h2, h3, h4, h5, h6, h7⟩ := h
  obtain ⟨how, e1, k1⟩ := HasS.i64 (by simpa only [HasS] using h2)
  obtain ⟨b, e2, k2, k3⟩ := HasS.bytes (by simpa only [HasS] using h4)
  obtain ⟨raw, e3, k4⟩ := HasS.i64 (by simpa only [HasS] using h6)
  refine ⟨how, raw, b, ?_, k2, k3, k1, k4⟩
  have a1 : c = List.take 1 c ++ (List.take 1 (List.drop 1 c) ++ (List.take 1 (List.drop 1 (List.drop 1 c)) ++ List.drop 1 (List.drop 1 (List.drop 1 c)))) := by
    simp only [List.take_append_drop]
  rw [e1, e2, e3, h7] at a1
  exact a1

theorem ss_neq_self (s : ByteArray) : stdA.ss .neq s s = false := by simp [stdA]

def ops_sh : List Sh := [.slice 3 opS]

theorem ops_open {es : List EV} (h : HasVs ops_sh es) : ∃ len L, es = [.isl len none L] ∧ len ≤ 140737488351232 ∧ ∀ i, i < len → HasS opS ((L.drop (i * 3)).take 3) := by
  obtain ⟨e, r, rfl, h1, h2⟩ := h
  have h2 : r = [] := h2
  subst h2
  simp only [HasV, HasS] at h1
  obtain ⟨len, l, he, k1, k2, k3⟩ := h1
  simp at he; subst he
  exact ⟨len, l, rfl, k1, k3⟩

set_option maxHeartbeats 4000000 in
theorem unpacks_law : ∀ es, HasVs ops_sh es → Tri Try.prog [] 5 es [] yesE := by
  intro es h
  obtain ⟨len, L, rfl, hlen, hL⟩ := ops_open h
  clear h
  refine Tri_of F5_ok fun I0 ρ0 w0 Q hρ hQ => ?_
  obtain ⟨A, hA⟩ : ∃ A, A = stdA := ⟨_, rfl⟩
  refine runS hA hd hQ 100 trivial ?_
  conv => arg 8; cbv
  try simp only [OK]
  refine ⟨goodF_of F11_ok, awake_ok.mono fun v h' ⟨hv, hh⟩ => ?_⟩
  subst hv; subst hh
  refine runK hA hd hQ 100 trivial ?_
  conv => arg 8; cbv
  try simp only [OK]
  refine ⟨fun h1 => absurd h1 (by simp (disch := omega) only [hA, OK, s_le, s_inb, s_slb, s_room, s_mks, s_ne0, s_nn, s_eql, s_neq, s_lss, s_leq, s_gtr, s_geq, s_isz, s_bnot, s_beq, s_idx, s_addN, s_subN, s_mulN, s_tn, s_ofn, s_nmin, s_drp, s_tak, s_app, s_len, s_leB, s_add, s_sub, s_mul, s_wr64, s_wr8, bytesE_fold, bytesE_length, bytesE_drop, bytesE_take, bytesE_app, intsE_fold, intsE_length, decide_eq_true_eq, decide_eq_false_iff_not, Nat.mul_one, Nat.zero_add, Nat.add_zero, Bool.not_eq_true', List.length_take, List.length_drop, List.length_append, List.length_cons, List.length_nil, List.drop_zero]; decide), fun h1 => ?_⟩
  refine runK hA hd hQ 100 trivial ?_
  conv => arg 8; cbv
  try simp only [OK]
  refine OKs.mask (msk 48 [11, 12, 13]) ?_
  refine OKs.loop (fun s => ∃ i : Int, s = ⟨mkT 48 [(11, .isl len none L), (12, .lit (.int .i64 (A.ofn len))), (13, .lit (.int .i64 i))], []⟩ ∧ 0 ≤ i ∧ i ≤ len) (fun s => (len - intN (getT s.t 13)).toNat) (fun s hs ih => ?_)
    ⟨0, rfl, by omega, by omega⟩
  obtain ⟨i, rfl, hi0, hi1⟩ := hs
  refine runS hA hd hQ 100 trivial ?_
  conv => arg 8; cbv
  try simp only [OK]
  refine ⟨fun h2 => ?_, fun h2 => ?_⟩ <;> simp (disch := omega) only [hA, OK, s_le, s_inb, s_slb, s_room, s_mks, s_ne0, s_nn, s_eql, s_neq, s_lss, s_leq, s_gtr, s_geq, s_isz, s_bnot, s_beq, s_idx, s_addN, s_subN, s_mulN, s_tn, s_ofn, s_nmin, s_drp, s_tak, s_app, s_len, s_leB, s_add, s_sub, s_mul, s_wr64, s_wr8, bytesE_fold, bytesE_length, bytesE_drop, bytesE_take, bytesE_app, intsE_fold, intsE_length, decide_eq_true_eq, decide_eq_false_iff_not, Nat.mul_one, Nat.zero_add, Nat.add_zero, Bool.not_eq_true', List.length_take, List.length_drop, List.length_append, List.length_cons, List.length_nil, List.drop_zero] at h2
  · refine runK hA hd hQ 100 trivial ?_
    conv => arg 8; cbv
    try simp only [OK]
    obtain ⟨how, raw, b, hcell, hb, hl, _, _⟩ := op_cells (hL i.toNat (by omega))
    obtain ⟨n, c, hi, hn, hc⟩ := isB_open b
    rw [hi] at hcell
    refine ⟨by simp (disch := omega) only [hA, OK, s_le, s_inb, s_slb, s_room, s_mks, s_ne0, s_nn, s_eql, s_neq, s_lss, s_leq, s_gtr, s_geq, s_isz, s_bnot, s_beq, s_idx, s_addN, s_subN, s_mulN, s_tn, s_ofn, s_nmin, s_drp, s_tak, s_app, s_len, s_leB, s_add, s_sub, s_mul, s_wr64, s_wr8, bytesE_fold, bytesE_length, bytesE_drop, bytesE_take, bytesE_app, intsE_fold, intsE_length, decide_eq_true_eq, decide_eq_false_iff_not, Nat.mul_one, Nat.zero_add, Nat.add_zero, Bool.not_eq_true', List.length_take, List.length_drop, List.length_append, List.length_cons, List.length_nil, List.drop_zero] <;> omega, _, _, rfl, by simp (disch := omega) only [hA, OK, s_le, s_inb, s_slb, s_room, s_mks, s_ne0, s_nn, s_eql, s_neq, s_lss, s_leq, s_gtr, s_geq, s_isz, s_bnot, s_beq, s_idx, s_addN, s_subN, s_mulN, s_tn, s_ofn, s_nmin, s_drp, s_tak, s_app, s_len, s_leB, s_add, s_sub, s_mul, s_wr64, s_wr8, bytesE_fold, bytesE_length, bytesE_drop, bytesE_take, bytesE_app, intsE_fold, intsE_length, decide_eq_true_eq, decide_eq_false_iff_not, Nat.mul_one, Nat.zero_add, Nat.add_zero, Bool.not_eq_true', List.length_take, List.length_drop, List.length_append, List.length_cons, List.length_nil, List.drop_zero] <;> exact hcell, rfl, ?_⟩
    refine runK hA hd hQ 200 trivial ?_
    conv => arg 8; cbv
    try simp only [OK]
    have t1 := unpackR how b hb hl raw
    have t2 := unpackP how b hb hl raw
    obtain ⟨r, hr⟩ : ∃ r, r = unL how b raw := ⟨_, rfl⟩
    obtain ⟨re, hre⟩ : ∃ re, re = r.2 := ⟨_, rfl⟩
    obtain ⟨rn, rc, hri, hrn, hrc⟩ := isB_open r.1
    have hrb : AllB r.1 := by rw [hr]; exact unL_all how b raw hb
    rw [← hr, ← hre, hri, hi] at t1 t2
    refine ⟨goodF_of F13_ok, (Tri.clean rfl rfl t1 _).mono fun v h' ⟨hv, hh⟩ => ?_⟩
    subst hv; subst hh
    refine runK hA hd hQ 200 trivial ?_
    conv => arg 8; cbv
    try simp only [OK]
    refine ⟨goodF_of F14_ok, (Tri.clean rfl rfl t2 _).mono fun v h' ⟨hv, hh⟩ => ?_⟩
    subst hv; subst hh
    refine runK hA hd hQ 200 trivial ?_
    conv => arg 8; cbv
    try simp only [OK]
    refine ⟨fun h3 => absurd h3 (by simp (disch := omega) only [hA, OK, s_le, s_inb, s_slb, s_room, s_mks, s_ne0, s_nn, s_eql, s_neq, s_lss, s_leq, s_gtr, s_geq, s_isz, s_bnot, s_beq, s_idx, s_addN, s_subN, s_mulN, s_tn, s_ofn, s_nmin, s_drp, s_tak, s_app, s_len, s_leB, s_add, s_sub, s_mul, s_wr64, s_wr8, bytesE_fold, bytesE_length, bytesE_drop, bytesE_take, bytesE_app, intsE_fold, intsE_length, decide_eq_true_eq, decide_eq_false_iff_not, Nat.mul_one, Nat.zero_add, Nat.add_zero, Bool.not_eq_true', List.length_take, List.length_drop, List.length_append, List.length_cons, List.length_nil, List.drop_zero]; omega), fun h3 => ?_⟩
    refine runK hA hd hQ 200 trivial ?_
    conv => arg 8; cbv
    try simp only [OK]
    have hby : A.byt rn rc = true := by rw [hA, hrc, hrn]; exact byt_ok hrb (Nat.le_refl _)
    refine ⟨hby, hby, fun h4 => absurd h4 (by simp (disch := omega) only [hA, OK, s_le, s_inb, s_slb, s_room, s_mks, s_ne0, s_nn, s_eql, s_neq, s_lss, s_leq, s_gtr, s_geq, s_isz, s_bnot, s_beq, s_idx, s_addN, s_subN, s_mulN, s_tn, s_ofn, s_nmin, s_drp, s_tak, s_app, s_len, s_leB, s_add, s_sub, s_mul, s_wr64, s_wr8, bytesE_fold, bytesE_length, bytesE_drop, bytesE_take, bytesE_app, intsE_fold, intsE_length, decide_eq_true_eq, decide_eq_false_iff_not, Nat.mul_one, Nat.zero_add, Nat.add_zero, Bool.not_eq_true', List.length_take, List.length_drop, List.length_append, List.length_cons, List.length_nil, List.drop_zero , ss_neq_self]; decide), fun h4 => ?_⟩
    refine runK hA hd hQ 200 trivial ?_
    conv => arg 8; cbv
    try simp only [OK]
    refine OKs.mask (msk 48 [11, 12, 13]) (OKs.mv [] [] (by rw [hρ]; rfl) ⟨by simp, by simp, by simp⟩ ?_)
    refine ih _ ⟨_, rfl, ?_, ?_⟩ (show (len - (A.ib .add .i64 i 1)).toNat < (len - i).toNat from ?_)
    all_goals (try simp (disch := omega) only [hA, OK, s_le, s_inb, s_slb, s_room, s_mks, s_ne0, s_nn, s_eql, s_neq, s_lss, s_leq, s_gtr, s_geq, s_isz, s_bnot, s_beq, s_idx, s_addN, s_subN, s_mulN, s_tn, s_ofn, s_nmin, s_drp, s_tak, s_app, s_len, s_leB, s_add, s_sub, s_mul, s_wr64, s_wr8, bytesE_fold, bytesE_length, bytesE_drop, bytesE_take, bytesE_app, intsE_fold, intsE_length, decide_eq_true_eq, decide_eq_false_iff_not, Nat.mul_one, Nat.zero_add, Nat.add_zero, Bool.not_eq_true', List.length_take, List.length_drop, List.length_append, List.length_cons, List.length_nil, List.drop_zero])
    all_goals omega
  · refine runK hA hd hQ 100 trivial ?_
    conv => arg 8; cbv
    try simp only [OK]
    exact ⟨_, rfl, .inl rfl⟩

set_option maxHeartbeats 4000000 in
theorem sizes_law : ∀ es, HasVs ops_sh es → Tri Try.prog [] 6 es [] yesE := by
  intro es h
  obtain ⟨len, L, rfl, hlen, hL⟩ := ops_open h
  clear h
  refine Tri_of F6_ok fun I0 ρ0 w0 Q hρ hQ => ?_
  obtain ⟨A, hA⟩ : ∃ A, A = stdA := ⟨_, rfl⟩
  refine runS hA hd hQ 100 trivial ?_
  conv => arg 8; cbv
  try simp only [OK]
  refine ⟨goodF_of F11_ok, awake_ok.mono fun v h' ⟨hv, hh⟩ => ?_⟩
  subst hv; subst hh
  refine runK hA hd hQ 100 trivial ?_
  conv => arg 8; cbv
  try simp only [OK]
  refine ⟨fun h1 => absurd h1 (by simp (disch := omega) only [hA, OK, s_le, s_inb, s_slb, s_room, s_mks, s_ne0, s_nn, s_eql, s_neq, s_lss, s_leq, s_gtr, s_geq, s_isz, s_bnot, s_beq, s_idx, s_addN, s_subN, s_mulN, s_tn, s_ofn, s_nmin, s_drp, s_tak, s_app, s_len, s_leB, s_add, s_sub, s_mul, s_wr64, s_wr8, bytesE_fold, bytesE_length, bytesE_drop, bytesE_take, bytesE_app, intsE_fold, intsE_length, decide_eq_true_eq, decide_eq_false_iff_not, Nat.mul_one, Nat.zero_add, Nat.add_zero, Bool.not_eq_true', List.length_take, List.length_drop, List.length_append, List.length_cons, List.length_nil, List.drop_zero]; decide), fun h1 => ?_⟩
  refine runK hA hd hQ 100 trivial ?_
  conv => arg 8; cbv
  try simp only [OK]
  refine OKs.mask (msk 54 [11, 12, 13]) ?_
  refine OKs.loop (fun s => ∃ i : Int, s = ⟨mkT 54 [(11, .isl len none L), (12, .lit (.int .i64 (A.ofn len))), (13, .lit (.int .i64 i))], []⟩ ∧ 0 ≤ i ∧ i ≤ len) (fun s => (len - intN (getT s.t 13)).toNat) (fun s hs ih => ?_)
    ⟨0, rfl, by omega, by omega⟩
  obtain ⟨i, rfl, hi0, hi1⟩ := hs
  refine runS hA hd hQ 100 trivial ?_
  conv => arg 8; cbv
  try simp only [OK]
  refine ⟨fun h2 => ?_, fun h2 => ?_⟩ <;> simp (disch := omega) only [hA, OK, s_le, s_inb, s_slb, s_room, s_mks, s_ne0, s_nn, s_eql, s_neq, s_lss, s_leq, s_gtr, s_geq, s_isz, s_bnot, s_beq, s_idx, s_addN, s_subN, s_mulN, s_tn, s_ofn, s_nmin, s_drp, s_tak, s_app, s_len, s_leB, s_add, s_sub, s_mul, s_wr64, s_wr8, bytesE_fold, bytesE_length, bytesE_drop, bytesE_take, bytesE_app, intsE_fold, intsE_length, decide_eq_true_eq, decide_eq_false_iff_not, Nat.mul_one, Nat.zero_add, Nat.add_zero, Bool.not_eq_true', List.length_take, List.length_drop, List.length_append, List.length_cons, List.length_nil, List.drop_zero] at h2
  · refine runK hA hd hQ 100 trivial ?_
    conv => arg 8; cbv
    try simp only [OK]
    obtain ⟨how, raw, b, hcell, hb, hl, _, _⟩ := op_cells (hL i.toNat (by omega))
    obtain ⟨n, c, hi, hn, hc⟩ := isB_open b
    rw [hi] at hcell
    refine ⟨by simp (disch := omega) only [hA, OK, s_le, s_inb, s_slb, s_room, s_mks, s_ne0, s_nn, s_eql, s_neq, s_lss, s_leq, s_gtr, s_geq, s_isz, s_bnot, s_beq, s_idx, s_addN, s_subN, s_mulN, s_tn, s_ofn, s_nmin, s_drp, s_tak, s_app, s_len, s_leB, s_add, s_sub, s_mul, s_wr64, s_wr8, bytesE_fold, bytesE_length, bytesE_drop, bytesE_take, bytesE_app, intsE_fold, intsE_length, decide_eq_true_eq, decide_eq_false_iff_not, Nat.mul_one, Nat.zero_add, Nat.add_zero, Bool.not_eq_true', List.length_take, List.length_drop, List.length_append, List.length_cons, List.length_nil, List.drop_zero] <;> omega, _, _, rfl, by simp (disch := omega) only [hA, OK, s_le, s_inb, s_slb, s_room, s_mks, s_ne0, s_nn, s_eql, s_neq, s_lss, s_leq, s_gtr, s_geq, s_isz, s_bnot, s_beq, s_idx, s_addN, s_subN, s_mulN, s_tn, s_ofn, s_nmin, s_drp, s_tak, s_app, s_len, s_leB, s_add, s_sub, s_mul, s_wr64, s_wr8, bytesE_fold, bytesE_length, bytesE_drop, bytesE_take, bytesE_app, intsE_fold, intsE_length, decide_eq_true_eq, decide_eq_false_iff_not, Nat.mul_one, Nat.zero_add, Nat.add_zero, Bool.not_eq_true', List.length_take, List.length_drop, List.length_append, List.length_cons, List.length_nil, List.drop_zero] <;> exact hcell, rfl, ?_⟩
    refine runK hA hd hQ 200 trivial ?_
    conv => arg 8; cbv
    try simp only [OK]
    have t1 := sizeR how b hb hl
    have t2 := sizeP how b hb hl
    have hze := szL_err how b
    obtain ⟨r1, hr1⟩ : ∃ r, r = (szL how b).1 := ⟨_, rfl⟩
    obtain ⟨r2, hr2⟩ : ∃ r, r = (szL how b).2 := ⟨_, rfl⟩
    rw [← hr1, ← hr2] at t1 t2 hze
    rw [hi] at t1 t2
    refine ⟨goodF_of F15_ok, (Tri.clean rfl rfl t1 _).mono fun v h' ⟨hv, hh⟩ => ?_⟩
    subst hv; subst hh
    refine runK hA hd hQ 200 trivial ?_
    conv => arg 8; cbv
    try simp only [OK]
    refine ⟨goodF_of F16_ok, (Tri.clean rfl rfl t2 _).mono fun v h' ⟨hv, hh⟩ => ?_⟩
    subst hv; subst hh
    refine runK hA hd hQ 200 trivial ?_
    conv => arg 8; cbv
    try simp only [OK]
    refine ⟨fun h3 => absurd h3 (by simp (disch := omega) only [hA, OK, s_le, s_inb, s_slb, s_room, s_mks, s_ne0, s_nn, s_eql, s_neq, s_lss, s_leq, s_gtr, s_geq, s_isz, s_bnot, s_beq, s_idx, s_addN, s_subN, s_mulN, s_tn, s_ofn, s_nmin, s_drp, s_tak, s_app, s_len, s_leB, s_add, s_sub, s_mul, s_wr64, s_wr8, bytesE_fold, bytesE_length, bytesE_drop, bytesE_take, bytesE_app, intsE_fold, intsE_length, decide_eq_true_eq, decide_eq_false_iff_not, Nat.mul_one, Nat.zero_add, Nat.add_zero, Bool.not_eq_true', List.length_take, List.length_drop, List.length_append, List.length_cons, List.length_nil, List.drop_zero]; omega), fun h3 => ?_⟩
    refine runK hA hd hQ 200 trivial ?_
    conv => arg 8; cbv
    try simp only [OK]
    have fin : OKs Try.prog [] I0 ρ0 w0 Q [] ⟨[], []⟩ ∨ True := .inr trivial
    refine ⟨fun h4 => ?_, fun h4 => ?_⟩ <;> simp (disch := omega) only [hA, OK, s_le, s_inb, s_slb, s_room, s_mks, s_ne0, s_nn, s_eql, s_neq, s_lss, s_leq, s_gtr, s_geq, s_isz, s_bnot, s_beq, s_idx, s_addN, s_subN, s_mulN, s_tn, s_ofn, s_nmin, s_drp, s_tak, s_app, s_len, s_leB, s_add, s_sub, s_mul, s_wr64, s_wr8, bytesE_fold, bytesE_length, bytesE_drop, bytesE_take, bytesE_app, intsE_fold, intsE_length, decide_eq_true_eq, decide_eq_false_iff_not, Nat.mul_one, Nat.zero_add, Nat.add_zero, Bool.not_eq_true', List.length_take, List.length_drop, List.length_append, List.length_cons, List.length_nil, List.drop_zero] at h4
    · refine runK hA hd hQ 200 trivial ?_
      conv => arg 8; cbv
      try simp only [OK]
      refine ⟨fun h5 => absurd h5 (by simp (disch := omega) only [hA, OK, s_le, s_inb, s_slb, s_room, s_mks, s_ne0, s_nn, s_eql, s_neq, s_lss, s_leq, s_gtr, s_geq, s_isz, s_bnot, s_beq, s_idx, s_addN, s_subN, s_mulN, s_tn, s_ofn, s_nmin, s_drp, s_tak, s_app, s_len, s_leB, s_add, s_sub, s_mul, s_wr64, s_wr8, bytesE_fold, bytesE_length, bytesE_drop, bytesE_take, bytesE_app, intsE_fold, intsE_length, decide_eq_true_eq, decide_eq_false_iff_not, Nat.mul_one, Nat.zero_add, Nat.add_zero, Bool.not_eq_true', List.length_take, List.length_drop, List.length_append, List.length_cons, List.length_nil, List.drop_zero]; omega), fun h5 => ?_⟩
      refine runK hA hd hQ 200 trivial ?_
      conv => arg 8; cbv
      try simp only [OK]
      refine ⟨fun h6 => absurd h6 (by simp (disch := omega) only [hA, OK, s_le, s_inb, s_slb, s_room, s_mks, s_ne0, s_nn, s_eql, s_neq, s_lss, s_leq, s_gtr, s_geq, s_isz, s_bnot, s_beq, s_idx, s_addN, s_subN, s_mulN, s_tn, s_ofn, s_nmin, s_drp, s_tak, s_app, s_len, s_leB, s_add, s_sub, s_mul, s_wr64, s_wr8, bytesE_fold, bytesE_length, bytesE_drop, bytesE_take, bytesE_app, intsE_fold, intsE_length, decide_eq_true_eq, decide_eq_false_iff_not, Nat.mul_one, Nat.zero_add, Nat.add_zero, Bool.not_eq_true', List.length_take, List.length_drop, List.length_append, List.length_cons, List.length_nil, List.drop_zero]; omega), fun h6 => ?_⟩
      refine runK hA hd hQ 200 trivial ?_
      conv => arg 8; cbv
      try simp only [OK]
      refine OKs.mask (msk 54 [11, 12, 13]) (OKs.mv [] [] (by rw [hρ]; rfl) ⟨by simp, by simp, by simp⟩ ?_)
      refine ih _ ⟨_, rfl, ?_, ?_⟩ (show (len - (A.ib .add .i64 i 1)).toNat < (len - i).toNat from ?_)
      all_goals (try simp (disch := omega) only [hA, OK, s_le, s_inb, s_slb, s_room, s_mks, s_ne0, s_nn, s_eql, s_neq, s_lss, s_leq, s_gtr, s_geq, s_isz, s_bnot, s_beq, s_idx, s_addN, s_subN, s_mulN, s_tn, s_ofn, s_nmin, s_drp, s_tak, s_app, s_len, s_leB, s_add, s_sub, s_mul, s_wr64, s_wr8, bytesE_fold, bytesE_length, bytesE_drop, bytesE_take, bytesE_app, intsE_fold, intsE_length, decide_eq_true_eq, decide_eq_false_iff_not, Nat.mul_one, Nat.zero_add, Nat.add_zero, Bool.not_eq_true', List.length_take, List.length_drop, List.length_append, List.length_cons, List.length_nil, List.drop_zero])
      all_goals omega
    · refine runK hA hd hQ 200 trivial ?_
      conv => arg 8; cbv
      try simp only [OK]
      refine ⟨fun h5 => ?_, fun h5 => absurd h5 (by simp (disch := omega) only [hA, OK, s_le, s_inb, s_slb, s_room, s_mks, s_ne0, s_nn, s_eql, s_neq, s_lss, s_leq, s_gtr, s_geq, s_isz, s_bnot, s_beq, s_idx, s_addN, s_subN, s_mulN, s_tn, s_ofn, s_nmin, s_drp, s_tak, s_app, s_len, s_leB, s_add, s_sub, s_mul, s_wr64, s_wr8, bytesE_fold, bytesE_length, bytesE_drop, bytesE_take, bytesE_app, intsE_fold, intsE_length, decide_eq_true_eq, decide_eq_false_iff_not, Nat.mul_one, Nat.zero_add, Nat.add_zero, Bool.not_eq_true', List.length_take, List.length_drop, List.length_append, List.length_cons, List.length_nil, List.drop_zero]; omega)⟩
      refine runK hA hd hQ 200 trivial ?_
      conv => arg 8; cbv
      try simp only [OK]
      refine ⟨fun h6 => absurd h6 (by simp (disch := omega) only [hA, OK, s_le, s_inb, s_slb, s_room, s_mks, s_ne0, s_nn, s_eql, s_neq, s_lss, s_leq, s_gtr, s_geq, s_isz, s_bnot, s_beq, s_idx, s_addN, s_subN, s_mulN, s_tn, s_ofn, s_nmin, s_drp, s_tak, s_app, s_len, s_leB, s_add, s_sub, s_mul, s_wr64, s_wr8, bytesE_fold, bytesE_length, bytesE_drop, bytesE_take, bytesE_app, intsE_fold, intsE_length, decide_eq_true_eq, decide_eq_false_iff_not, Nat.mul_one, Nat.zero_add, Nat.add_zero, Bool.not_eq_true', List.length_take, List.length_drop, List.length_append, List.length_cons, List.length_nil, List.drop_zero]; have := hze h4; omega), fun h6 => ?_⟩
      refine runK hA hd hQ 200 trivial ?_
      conv => arg 8; cbv
      try simp only [OK]
      refine OKs.mask (msk 54 [11, 12, 13]) (OKs.mv [] [] (by rw [hρ]; rfl) ⟨by simp, by simp, by simp⟩ ?_)
      refine ih _ ⟨_, rfl, ?_, ?_⟩ (show (len - (A.ib .add .i64 i 1)).toNat < (len - i).toNat from ?_)
      all_goals (try simp (disch := omega) only [hA, OK, s_le, s_inb, s_slb, s_room, s_mks, s_ne0, s_nn, s_eql, s_neq, s_lss, s_leq, s_gtr, s_geq, s_isz, s_bnot, s_beq, s_idx, s_addN, s_subN, s_mulN, s_tn, s_ofn, s_nmin, s_drp, s_tak, s_app, s_len, s_leB, s_add, s_sub, s_mul, s_wr64, s_wr8, bytesE_fold, bytesE_length, bytesE_drop, bytesE_take, bytesE_app, intsE_fold, intsE_length, decide_eq_true_eq, decide_eq_false_iff_not, Nat.mul_one, Nat.zero_add, Nat.add_zero, Bool.not_eq_true', List.length_take, List.length_drop, List.length_append, List.length_cons, List.length_nil, List.drop_zero])
      all_goals omega
  · refine runK hA hd hQ 100 trivial ?_
    conv => arg 8; cbv
    try simp only [OK]
    exact ⟨_, rfl, .inl rfl⟩

end Go.Proofs.Ytplibngmgebigaa.Press
