/- Pr6: Unpack and Size, the program's and the document's. No conditions beyond those written. -/
import Derived.Test.YtplibngmgebigaaPr5
set_option linter.unusedVariables false
set_option linter.unusedSimpArgs false
namespace Go.Proofs.Ytplibngmgebigaa.Press
open Go Go.Proofs.Ytplibngmgebigaa Go.Proofs.Ytplibngmgebigaa.Em

theorem right_fr (how : Int) : Tri Try.prog [] 21 [.lit (.int .i64 how)] [] fun v h => v = .sb (decide (0 ≤ how ∧ how ≤ 2)) ∧ h = [] :=
  (right_ok how).up fun v h ⟨hv, hh⟩ => ⟨_, ⟨rfl, hh⟩, by rcases hv with rfl | rfl; exact Up.refl _; exact Up.sb _⟩

theorem lyL_err (two : Bool) (most more : Int) : ∀ (n : Nat) (b out : List Nat), (lyL two most more n b out).2 ≠ 0 → (lyL two most more n b out).1 = []
  | 0, b, out, h => absurd rfl h
  | n + 1, [], out, h => absurd rfl h
  | n + 1, c :: b, out, h => by
    have ih := lyL_err two most more n
    simp only [lyL] at h ⊢
    repeat' split at h
    all_goals (repeat' split)
    all_goals first | rfl | exact ih _ _ h | contradiction | (exfalso; omega)

theorem opL_err (how : Int) (b : List Nat) (most more : Int) (h : (opL how b most more).2 ≠ 0) : (opL how b most more).1 = [] := by
  unfold opL at h ⊢
  split
  · rename_i h0
    simp only [h0, if_true] at h
    split
    · rfl
    · rename_i h1; rw [if_neg h1] at h; exact absurd rfl h
  · rename_i h0; rw [if_neg h0] at h; exact lyL_err _ _ _ _ _ _ h

def unL (how : Int) (b : List Nat) (raw : Int) : List Nat × Int :=
  if how < 0 ∨ 2 < how ∨ raw < 0 then ([], 1) else if 65536 < raw then ([], 4)
  else if (opL how b raw 61).2 ≠ 0 then ([], (opL how b raw 61).2) else if ((opL how b raw 61).1.length : Int) < raw then ([], 62) else ((opL how b raw 61).1, 0)

def szL (how : Int) (b : List Nat) : Int × Int :=
  if how < 0 ∨ 2 < how then (0, 1) else (((opL how b 65536 4).1.length : Int), (opL how b 65536 4).2)

set_option maxHeartbeats 4000000 in
theorem unpackP_pre (how : Int) (b : List Nat) (hb : AllB b) (hl : b.length ≤ 140737488351232) (raw : Int) :
    Tri Try.prog [] 14 [.lit (.int .i64 how), isB b, .lit (.int .i64 raw)] [] fun v h => ∃ ov, v = .tup [ov, .lit (.int .i64 (unL how b raw).2)] ∧ Up ov (isB (unL how b raw).1) ∧ h = [] := by
  refine Tri_of F14_ok fun I0 ρ0 w0 Q hρ hQ => ?_
  obtain ⟨A, hA⟩ : ∃ A, A = stdA := ⟨_, rfl⟩
  obtain ⟨n, c, hi, hn, hc⟩ := isB_open b
  rw [hi]
  refine runS hA hd hQ 100 trivial ?_
  conv => arg 8; cbv
  try simp only [OK]
  refine ⟨goodF_of F21_ok, (right_fr how).mono fun v h' ⟨hv, hh⟩ => ?_⟩
  obtain ⟨rb, hrb⟩ : ∃ rb, rb = decide (0 ≤ how ∧ how ≤ 2) := ⟨_, rfl⟩
  rw [← hrb] at hv; subst hv; subst hh
  refine runK hA hd hQ 100 trivial ?_
  conv => arg 8; cbv
  try simp only [OK]
  refine ⟨fun h1 => ?_, fun h1 => ?_⟩ <;> simp only [hA, s_bnot, hrb, Bool.not_eq_true', Bool.not_eq_false', decide_eq_true_eq, decide_eq_false_iff_not] at h1
  · have hr' : unL how b raw = ([], 1) := by unfold unL; rw [if_pos (by omega)]
    refine runK hA hd hQ 100 trivial ?_
    conv => arg 8; cbv
    try simp only [OK]
    exact ⟨_, rfl, .lit (.slice none 0 0), by rw [hr']; rfl, by rw [hr']; exact Up.nil _, rfl⟩
  · refine runK hA hd hQ 100 trivial ?_
    conv => arg 8; cbv
    try simp only [OK]
    refine ⟨fun h2 => ?_, fun h2 => ?_⟩ <;> simp (disch := omega) only [hA, OK, s_le, s_inb, s_slb, s_room, s_mks, s_ne0, s_nn, s_eql, s_neq, s_lss, s_leq, s_gtr, s_geq, s_isz, s_bnot, s_beq, s_idx, s_addN, s_subN, s_mulN, s_tn, s_ofn, s_nmin, s_drp, s_tak, s_app, s_len, s_leB, s_add, s_sub, s_mul, s_wr64, s_wr8, bytesE_fold, bytesE_length, bytesE_drop, bytesE_take, bytesE_app, intsE_fold, intsE_length, decide_eq_true_eq, decide_eq_false_iff_not, Nat.mul_one, Nat.zero_add, Nat.add_zero, Bool.not_eq_true', List.length_take, List.length_drop, List.length_append, List.length_cons, List.length_nil, List.drop_zero] at h2
    · have hr' : unL how b raw = ([], 1) := by unfold unL; rw [if_pos (by omega)]
      refine runK hA hd hQ 100 trivial ?_
      conv => arg 8; cbv
      try simp only [OK]
      exact ⟨_, rfl, .lit (.slice none 0 0), by rw [hr']; rfl, by rw [hr']; exact Up.nil _, rfl⟩
    · refine runK hA hd hQ 100 trivial ?_
      conv => arg 8; cbv
      try simp only [OK]
      refine ⟨fun h3 => ?_, fun h3 => ?_⟩ <;> simp (disch := omega) only [hA, OK, s_le, s_inb, s_slb, s_room, s_mks, s_ne0, s_nn, s_eql, s_neq, s_lss, s_leq, s_gtr, s_geq, s_isz, s_bnot, s_beq, s_idx, s_addN, s_subN, s_mulN, s_tn, s_ofn, s_nmin, s_drp, s_tak, s_app, s_len, s_leB, s_add, s_sub, s_mul, s_wr64, s_wr8, bytesE_fold, bytesE_length, bytesE_drop, bytesE_take, bytesE_app, intsE_fold, intsE_length, decide_eq_true_eq, decide_eq_false_iff_not, Nat.mul_one, Nat.zero_add, Nat.add_zero, Bool.not_eq_true', List.length_take, List.length_drop, List.length_append, List.length_cons, List.length_nil, List.drop_zero] at h3
      · have hr' : unL how b raw = ([], 4) := by unfold unL; rw [if_neg (by omega), if_pos (by omega)]
        refine runK hA hd hQ 100 trivial ?_
        conv => arg 8; cbv
        try simp only [OK]
        exact ⟨_, rfl, .lit (.slice none 0 0), by rw [hr']; rfl, by rw [hr']; exact Up.nil _, rfl⟩
      · refine runK hA hd hQ 100 trivial ?_
        conv => arg 8; cbv
        try simp only [OK]
        have t := opened_fr how b hb hl raw 61 (by omega)
        rw [← hc, ← hn] at t
        refine ⟨goodF_of F22_ok, t.mono fun v h' ⟨hv, hh⟩ => ?_⟩
        obtain ⟨r, hr⟩ : ∃ r, r = opL how b raw 61 := ⟨_, rfl⟩
        rw [← hr] at hv
        obtain ⟨rn, rc, hri, hrn, hrc⟩ := isB_open r.1
        obtain ⟨re, hre⟩ : ∃ re, re = r.2 := ⟨_, rfl⟩
        rw [hri, ← hre] at hv
        subst hv; subst hh
        refine runK hA hd hQ 100 trivial ?_
        conv => arg 8; cbv
        try simp only [OK]
        refine ⟨fun h4 => ?_, fun h4 => ?_⟩ <;> simp (disch := omega) only [hA, OK, s_le, s_inb, s_slb, s_room, s_mks, s_ne0, s_nn, s_eql, s_neq, s_lss, s_leq, s_gtr, s_geq, s_isz, s_bnot, s_beq, s_idx, s_addN, s_subN, s_mulN, s_tn, s_ofn, s_nmin, s_drp, s_tak, s_app, s_len, s_leB, s_add, s_sub, s_mul, s_wr64, s_wr8, bytesE_fold, bytesE_length, bytesE_drop, bytesE_take, bytesE_app, intsE_fold, intsE_length, decide_eq_true_eq, decide_eq_false_iff_not, Nat.mul_one, Nat.zero_add, Nat.add_zero, Bool.not_eq_true', List.length_take, List.length_drop, List.length_append, List.length_cons, List.length_nil, List.drop_zero] at h4
        · have hr' : unL how b raw = ([], re) := by unfold unL; rw [if_neg (by omega), if_neg (by omega), ← hr, if_pos (by rw [← hre]; exact h4), hre]
          refine runK hA hd hQ 100 trivial ?_
          conv => arg 8; cbv
          try simp only [OK]
          exact ⟨_, rfl, .lit (.slice none 0 0), by rw [hr']; rfl, by rw [hr']; exact Up.nil _, rfl⟩
        · refine runK hA hd hQ 100 trivial ?_
          conv => arg 8; cbv
          try simp only [OK]
          refine ⟨fun h5 => ?_, fun h5 => ?_⟩ <;> simp (disch := omega) only [hA, OK, s_le, s_inb, s_slb, s_room, s_mks, s_ne0, s_nn, s_eql, s_neq, s_lss, s_leq, s_gtr, s_geq, s_isz, s_bnot, s_beq, s_idx, s_addN, s_subN, s_mulN, s_tn, s_ofn, s_nmin, s_drp, s_tak, s_app, s_len, s_leB, s_add, s_sub, s_mul, s_wr64, s_wr8, bytesE_fold, bytesE_length, bytesE_drop, bytesE_take, bytesE_app, intsE_fold, intsE_length, decide_eq_true_eq, decide_eq_false_iff_not, Nat.mul_one, Nat.zero_add, Nat.add_zero, Bool.not_eq_true', List.length_take, List.length_drop, List.length_append, List.length_cons, List.length_nil, List.drop_zero] at h5
          · have hr' : unL how b raw = ([], 62) := by unfold unL; rw [if_neg (by omega), if_neg (by omega), ← hr, if_neg (by rw [← hre]; exact h4), if_pos (by omega)]
            refine runK hA hd hQ 100 trivial ?_
            conv => arg 8; cbv
            try simp only [OK]
            exact ⟨_, rfl, .lit (.slice none 0 0), by rw [hr']; rfl, by rw [hr']; exact Up.nil _, rfl⟩
          · have hr' : unL how b raw = (r.1, 0) := by unfold unL; rw [if_neg (by omega), if_neg (by omega), ← hr, if_neg (by rw [← hre]; exact h4), if_neg (by omega)]
            refine runK hA hd hQ 100 trivial ?_
            conv => arg 8; cbv
            try simp only [OK]
            exact ⟨_, rfl, .isl rn none rc, by rw [hr']; rfl, by rw [hr', hri]; exact Up.refl _, rfl⟩

theorem unpackP (how : Int) (b : List Nat) (hb : AllB b) (hl : b.length ≤ 140737488351232) (raw : Int) :
    Tri Try.prog [] 14 [.lit (.int .i64 how), isB b, .lit (.int .i64 raw)] [] fun v h => v = .tup [isB (unL how b raw).1, .lit (.int .i64 (unL how b raw).2)] ∧ h = [] :=
  (unpackP_pre how b hb hl raw).up fun v h ⟨ov, hv, hu, hh⟩ => ⟨_, ⟨rfl, hh⟩, by rw [hv]; exact Up.tup2 hu (Up.refl _)⟩

set_option maxHeartbeats 4000000 in
theorem unpackR_pre (how : Int) (b : List Nat) (hb : AllB b) (hl : b.length ≤ 140737488351232) (raw : Int) :
    Tri Try.prog [] 13 [.lit (.int .i64 how), isB b, .lit (.int .i64 raw)] [] fun v h => ∃ ov, v = .tup [ov, .lit (.int .i64 (unL how b raw).2)] ∧ Up ov (isB (unL how b raw).1) ∧ h = [] := by
  refine Tri_of F13_ok fun I0 ρ0 w0 Q hρ hQ => ?_
  obtain ⟨A, hA⟩ : ∃ A, A = stdA := ⟨_, rfl⟩
  obtain ⟨n, c, hi, hn, hc⟩ := isB_open b
  rw [hi]
  refine runS hA hd hQ 100 trivial ?_
  conv => arg 8; cbv
  try simp only [OK]
  refine ⟨fun h1 => ?_, fun h1 => ?_⟩ <;> simp (disch := omega) only [hA, OK, s_le, s_inb, s_slb, s_room, s_mks, s_ne0, s_nn, s_eql, s_neq, s_lss, s_leq, s_gtr, s_geq, s_isz, s_bnot, s_beq, s_idx, s_addN, s_subN, s_mulN, s_tn, s_ofn, s_nmin, s_drp, s_tak, s_app, s_len, s_leB, s_add, s_sub, s_mul, s_wr64, s_wr8, bytesE_fold, bytesE_length, bytesE_drop, bytesE_take, bytesE_app, intsE_fold, intsE_length, decide_eq_true_eq, decide_eq_false_iff_not, Nat.mul_one, Nat.zero_add, Nat.add_zero, Bool.not_eq_true', List.length_take, List.length_drop, List.length_append, List.length_cons, List.length_nil, List.drop_zero] at h1
  · have hr' : unL how b raw = ([], 1) := by unfold unL; rw [if_pos (by omega)]
    refine runK hA hd hQ 100 trivial ?_
    conv => arg 8; cbv
    try simp only [OK]
    exact ⟨_, rfl, .lit (.slice none 0 0), by rw [hr']; rfl, by rw [hr']; exact Up.nil _, rfl⟩
  · refine runK hA hd hQ 100 trivial ?_
    conv => arg 8; cbv
    try simp only [OK]
    refine ⟨fun h2 => ?_, fun h2 => ?_⟩ <;> simp (disch := omega) only [hA, OK, s_le, s_inb, s_slb, s_room, s_mks, s_ne0, s_nn, s_eql, s_neq, s_lss, s_leq, s_gtr, s_geq, s_isz, s_bnot, s_beq, s_idx, s_addN, s_subN, s_mulN, s_tn, s_ofn, s_nmin, s_drp, s_tak, s_app, s_len, s_leB, s_add, s_sub, s_mul, s_wr64, s_wr8, bytesE_fold, bytesE_length, bytesE_drop, bytesE_take, bytesE_app, intsE_fold, intsE_length, decide_eq_true_eq, decide_eq_false_iff_not, Nat.mul_one, Nat.zero_add, Nat.add_zero, Bool.not_eq_true', List.length_take, List.length_drop, List.length_append, List.length_cons, List.length_nil, List.drop_zero] at h2
    · have hr' : unL how b raw = ([], 1) := by unfold unL; rw [if_pos (by omega)]
      refine runK hA hd hQ 100 trivial ?_
      conv => arg 8; cbv
      try simp only [OK]
      exact ⟨_, rfl, .lit (.slice none 0 0), by rw [hr']; rfl, by rw [hr']; exact Up.nil _, rfl⟩
    · refine runK hA hd hQ 100 trivial ?_
      conv => arg 8; cbv
      try simp only [OK]
      refine ⟨fun h3 => ?_, fun h3 => ?_⟩ <;> simp (disch := omega) only [hA, OK, s_le, s_inb, s_slb, s_room, s_mks, s_ne0, s_nn, s_eql, s_neq, s_lss, s_leq, s_gtr, s_geq, s_isz, s_bnot, s_beq, s_idx, s_addN, s_subN, s_mulN, s_tn, s_ofn, s_nmin, s_drp, s_tak, s_app, s_len, s_leB, s_add, s_sub, s_mul, s_wr64, s_wr8, bytesE_fold, bytesE_length, bytesE_drop, bytesE_take, bytesE_app, intsE_fold, intsE_length, decide_eq_true_eq, decide_eq_false_iff_not, Nat.mul_one, Nat.zero_add, Nat.add_zero, Bool.not_eq_true', List.length_take, List.length_drop, List.length_append, List.length_cons, List.length_nil, List.drop_zero] at h3
      · have hr' : unL how b raw = ([], 1) := by unfold unL; rw [if_pos (by omega)]
        refine runK hA hd hQ 100 trivial ?_
        conv => arg 8; cbv
        try simp only [OK]
        exact ⟨_, rfl, .lit (.slice none 0 0), by rw [hr']; rfl, by rw [hr']; exact Up.nil _, rfl⟩
      · refine runK hA hd hQ 100 trivial ?_
        conv => arg 8; cbv
        try simp only [OK]
        refine ⟨fun h4 => ?_, fun h4 => ?_⟩ <;> simp (disch := omega) only [hA, OK, s_le, s_inb, s_slb, s_room, s_mks, s_ne0, s_nn, s_eql, s_neq, s_lss, s_leq, s_gtr, s_geq, s_isz, s_bnot, s_beq, s_idx, s_addN, s_subN, s_mulN, s_tn, s_ofn, s_nmin, s_drp, s_tak, s_app, s_len, s_leB, s_add, s_sub, s_mul, s_wr64, s_wr8, bytesE_fold, bytesE_length, bytesE_drop, bytesE_take, bytesE_app, intsE_fold, intsE_length, decide_eq_true_eq, decide_eq_false_iff_not, Nat.mul_one, Nat.zero_add, Nat.add_zero, Bool.not_eq_true', List.length_take, List.length_drop, List.length_append, List.length_cons, List.length_nil, List.drop_zero] at h4
        · have hr' : unL how b raw = ([], 4) := by unfold unL; rw [if_neg (by omega), if_pos (by omega)]
          refine runK hA hd hQ 100 trivial ?_
          conv => arg 8; cbv
          try simp only [OK]
          exact ⟨_, rfl, .lit (.slice none 0 0), by rw [hr']; rfl, by rw [hr']; exact Up.nil _, rfl⟩
        · refine runK hA hd hQ 100 trivial ?_
          conv => arg 8; cbv
          try simp only [OK]
          have t := lay_fr how (by omega) b hb hl raw 61 (by omega)
          rw [← hc, ← hn] at t
          refine ⟨goodF_of F20_ok, t.mono fun v h' ⟨hv, hh⟩ => ?_⟩
          obtain ⟨r, hr⟩ : ∃ r, r = opL how b raw 61 := ⟨_, rfl⟩
          have herr := opL_err how b raw 61
          rw [← hr] at hv herr
          obtain ⟨rn, rc, hri, hrn, hrc⟩ := isB_open r.1
          obtain ⟨re, hre⟩ : ∃ re, re = r.2 := ⟨_, rfl⟩
          rw [hri, ← hre] at hv
          subst hv; subst hh
          refine runK hA hd hQ 100 trivial ?_
          conv => arg 8; cbv
          try simp only [OK]
          refine ⟨fun h5 => ?_, fun h5 => ?_⟩ <;> simp (disch := omega) only [hA, OK, s_le, s_inb, s_slb, s_room, s_mks, s_ne0, s_nn, s_eql, s_neq, s_lss, s_leq, s_gtr, s_geq, s_isz, s_bnot, s_beq, s_idx, s_addN, s_subN, s_mulN, s_tn, s_ofn, s_nmin, s_drp, s_tak, s_app, s_len, s_leB, s_add, s_sub, s_mul, s_wr64, s_wr8, bytesE_fold, bytesE_length, bytesE_drop, bytesE_take, bytesE_app, intsE_fold, intsE_length, decide_eq_true_eq, decide_eq_false_iff_not, Nat.mul_one, Nat.zero_add, Nat.add_zero, Bool.not_eq_true', List.length_take, List.length_drop, List.length_append, List.length_cons, List.length_nil, List.drop_zero] at h5
          · refine runK hA hd hQ 100 trivial ?_
            conv => arg 8; cbv
            try simp only [OK]
            refine ⟨fun h6 => ?_, fun h6 => ?_⟩ <;> simp (disch := omega) only [hA, OK, s_le, s_inb, s_slb, s_room, s_mks, s_ne0, s_nn, s_eql, s_neq, s_lss, s_leq, s_gtr, s_geq, s_isz, s_bnot, s_beq, s_idx, s_addN, s_subN, s_mulN, s_tn, s_ofn, s_nmin, s_drp, s_tak, s_app, s_len, s_leB, s_add, s_sub, s_mul, s_wr64, s_wr8, bytesE_fold, bytesE_length, bytesE_drop, bytesE_take, bytesE_app, intsE_fold, intsE_length, decide_eq_true_eq, decide_eq_false_iff_not, Nat.mul_one, Nat.zero_add, Nat.add_zero, Bool.not_eq_true', List.length_take, List.length_drop, List.length_append, List.length_cons, List.length_nil, List.drop_zero] at h6
            · have hr' : unL how b raw = ([], 62) := by unfold unL; rw [if_neg (by omega), if_neg (by omega), ← hr, if_neg (by rw [← hre]; omega), if_pos (by omega)]
              refine runK hA hd hQ 100 trivial ?_
              conv => arg 8; cbv
              try simp only [OK]
              exact ⟨_, rfl, .lit (.slice none 0 0), by rw [hr']; rfl, by rw [hr']; exact Up.nil _, rfl⟩
            · have hr' : unL how b raw = (r.1, 0) := by unfold unL; rw [if_neg (by omega), if_neg (by omega), ← hr, if_neg (by rw [← hre]; omega), if_neg (by omega)]
              refine runK hA hd hQ 100 trivial ?_
              conv => arg 8; cbv
              try simp only [OK]
              refine ⟨_, rfl, .isl rn none rc, ?_, ?_, rfl⟩ <;> rw [hr']
              · simp only [getT]; rw [h5]
              · rw [hri]; exact Up.refl _
          · have hr' : unL how b raw = (r.1, re) := by
              unfold unL; rw [if_neg (by omega), if_neg (by omega), ← hr, if_pos (by rw [← hre]; exact h5), hre, herr (by rw [← hre]; exact h5)]
            refine runK hA hd hQ 100 trivial ?_
            conv => arg 8; cbv
            try simp only [OK]
            refine ⟨_, rfl, .isl rn none rc, ?_, ?_, rfl⟩ <;> rw [hr']
            · rfl
            · rw [hri]; exact Up.refl _

theorem unpackR (how : Int) (b : List Nat) (hb : AllB b) (hl : b.length ≤ 140737488351232) (raw : Int) :
    Tri Try.prog [] 13 [.lit (.int .i64 how), isB b, .lit (.int .i64 raw)] [] fun v h => v = .tup [isB (unL how b raw).1, .lit (.int .i64 (unL how b raw).2)] ∧ h = [] :=
  (unpackR_pre how b hb hl raw).up fun v h ⟨ov, hv, hu, hh⟩ => ⟨_, ⟨rfl, hh⟩, by rw [hv]; exact Up.tup2 hu (Up.refl _)⟩

theorem sizeP (how : Int) (b : List Nat) (hb : AllB b) (hl : b.length ≤ 140737488351232) :
    Tri Try.prog [] 16 [.lit (.int .i64 how), isB b] [] fun v h => v = .tup [.lit (.int .i64 (szL how b).1), .lit (.int .i64 (szL how b).2)] ∧ h = [] := by
  refine Tri_of F16_ok fun I0 ρ0 w0 Q hρ hQ => ?_
  obtain ⟨A, hA⟩ : ∃ A, A = stdA := ⟨_, rfl⟩
  obtain ⟨n, c, hi, hn, hc⟩ := isB_open b
  rw [hi]
  refine runS hA hd hQ 100 trivial ?_
  conv => arg 8; cbv
  try simp only [OK]
  refine ⟨goodF_of F21_ok, (right_fr how).mono fun v h' ⟨hv, hh⟩ => ?_⟩
  obtain ⟨rb, hrb⟩ : ∃ rb, rb = decide (0 ≤ how ∧ how ≤ 2) := ⟨_, rfl⟩
  rw [← hrb] at hv; subst hv; subst hh
  refine runK hA hd hQ 100 trivial ?_
  conv => arg 8; cbv
  try simp only [OK]
  refine ⟨fun h1 => ?_, fun h1 => ?_⟩ <;> simp only [hA, s_bnot, hrb, Bool.not_eq_true', Bool.not_eq_false', decide_eq_true_eq, decide_eq_false_iff_not] at h1
  · have hr' : szL how b = (0, 1) := by unfold szL; rw [if_pos (by omega)]
    refine runK hA hd hQ 100 trivial ?_
    conv => arg 8; cbv
    try simp only [OK]
    exact ⟨_, rfl, by rw [hr']; rfl, rfl⟩
  · refine runK hA hd hQ 100 trivial ?_
    conv => arg 8; cbv
    try simp only [OK]
    have t := opened_fr how b hb hl 65536 4 (by omega)
    rw [← hc, ← hn] at t
    refine ⟨goodF_of F22_ok, t.mono fun v h' ⟨hv, hh⟩ => ?_⟩
    have hr' : szL how b = (((opL how b 65536 4).1.length : Int), (opL how b 65536 4).2) := by unfold szL; rw [if_neg (by omega)]
    obtain ⟨r, hr⟩ : ∃ r, r = opL how b 65536 4 := ⟨_, rfl⟩
    rw [← hr] at hv hr'
    obtain ⟨rn, rc, hri, hrn, hrc⟩ := isB_open r.1
    obtain ⟨re, hre⟩ : ∃ re, re = r.2 := ⟨_, rfl⟩
    rw [hri, ← hre] at hv
    subst hv; subst hh
    refine runK hA hd hQ 100 trivial ?_
    conv => arg 8; cbv
    try simp only [OK]
    refine ⟨_, rfl, ?_, rfl⟩
    rw [hr']
    simp only [getT, hA, s_ofn]
    rw [hrn, hre]

theorem sizeR (how : Int) (b : List Nat) (hb : AllB b) (hl : b.length ≤ 140737488351232) :
    Tri Try.prog [] 15 [.lit (.int .i64 how), isB b] [] fun v h => v = .tup [.lit (.int .i64 (szL how b).1), .lit (.int .i64 (szL how b).2)] ∧ h = [] := by
  refine Tri_of F15_ok fun I0 ρ0 w0 Q hρ hQ => ?_
  obtain ⟨A, hA⟩ : ∃ A, A = stdA := ⟨_, rfl⟩
  obtain ⟨n, c, hi, hn, hc⟩ := isB_open b
  rw [hi]
  refine runS hA hd hQ 100 trivial ?_
  conv => arg 8; cbv
  try simp only [OK]
  refine ⟨fun h1 => ?_, fun h1 => ?_⟩ <;> simp (disch := omega) only [hA, OK, s_le, s_inb, s_slb, s_room, s_mks, s_ne0, s_nn, s_eql, s_neq, s_lss, s_leq, s_gtr, s_geq, s_isz, s_bnot, s_beq, s_idx, s_addN, s_subN, s_mulN, s_tn, s_ofn, s_nmin, s_drp, s_tak, s_app, s_len, s_leB, s_add, s_sub, s_mul, s_wr64, s_wr8, bytesE_fold, bytesE_length, bytesE_drop, bytesE_take, bytesE_app, intsE_fold, intsE_length, decide_eq_true_eq, decide_eq_false_iff_not, Nat.mul_one, Nat.zero_add, Nat.add_zero, Bool.not_eq_true', List.length_take, List.length_drop, List.length_append, List.length_cons, List.length_nil, List.drop_zero] at h1
  · have hr' : szL how b = (0, 1) := by unfold szL; rw [if_pos (by omega)]
    refine runK hA hd hQ 100 trivial ?_
    conv => arg 8; cbv
    try simp only [OK]
    exact ⟨_, rfl, by rw [hr']; rfl, rfl⟩
  · refine runK hA hd hQ 100 trivial ?_
    conv => arg 8; cbv
    try simp only [OK]
    refine ⟨fun h2 => ?_, fun h2 => ?_⟩ <;> simp (disch := omega) only [hA, OK, s_le, s_inb, s_slb, s_room, s_mks, s_ne0, s_nn, s_eql, s_neq, s_lss, s_leq, s_gtr, s_geq, s_isz, s_bnot, s_beq, s_idx, s_addN, s_subN, s_mulN, s_tn, s_ofn, s_nmin, s_drp, s_tak, s_app, s_len, s_leB, s_add, s_sub, s_mul, s_wr64, s_wr8, bytesE_fold, bytesE_length, bytesE_drop, bytesE_take, bytesE_app, intsE_fold, intsE_length, decide_eq_true_eq, decide_eq_false_iff_not, Nat.mul_one, Nat.zero_add, Nat.add_zero, Bool.not_eq_true', List.length_take, List.length_drop, List.length_append, List.length_cons, List.length_nil, List.drop_zero] at h2
    · have hr' : szL how b = (0, 1) := by unfold szL; rw [if_pos (by omega)]
      refine runK hA hd hQ 100 trivial ?_
      conv => arg 8; cbv
      try simp only [OK]
      exact ⟨_, rfl, by rw [hr']; rfl, rfl⟩
    · refine runK hA hd hQ 100 trivial ?_
      conv => arg 8; cbv
      try simp only [OK]
      have t := lay_fr how (by omega) b hb hl 65536 4 (by omega)
      rw [← hc, ← hn] at t
      refine ⟨goodF_of F20_ok, t.mono fun v h' ⟨hv, hh⟩ => ?_⟩
      have hr' : szL how b = (((opL how b 65536 4).1.length : Int), (opL how b 65536 4).2) := by unfold szL; rw [if_neg (by omega)]
      obtain ⟨r, hr⟩ : ∃ r, r = opL how b 65536 4 := ⟨_, rfl⟩
      rw [← hr] at hv hr'
      obtain ⟨rn, rc, hri, hrn, hrc⟩ := isB_open r.1
      obtain ⟨re, hre⟩ : ∃ re, re = r.2 := ⟨_, rfl⟩
      rw [hri, ← hre] at hv
      subst hv; subst hh
      refine runK hA hd hQ 100 trivial ?_
      conv => arg 8; cbv
      try simp only [OK]
      refine ⟨_, rfl, ?_, rfl⟩
      rw [hr']
      simp only [getT, hA, s_ofn]
      rw [hrn, hre]

theorem AllB.rep {x : Nat} (h : x < 256) (n : Nat) : AllB (List.replicate n x) := fun y hy => by
  rw [List.eq_of_mem_replicate hy]; exact h

theorem lyL_all (two : Bool) (most more : Int) : ∀ (n : Nat) (b out : List Nat), AllB b → AllB out → AllB (lyL two most more n b out).1
  | 0, b, out, hb, ho => ho
  | n + 1, [], out, hb, ho => ho
  | n + 1, c :: b, out, hb, ho => by
    have hb' : AllB b := fun y hy => hb y (by simp [hy])
    have ih := lyL_all two most more n
    simp only [lyL]
    split
    · split
      · exact AllB.nil
      · split
        · exact AllB.nil
        · exact ih _ _ (hb'.drop _) (ho.app (hb'.take _))
    · split
      · split
        · exact AllB.nil
        · split
          · exact AllB.nil
          · split
            · exact AllB.nil
            · exact ih _ _ (hb'.drop _) (cpB_all _ _ _ ho)
      · split
        · exact AllB.nil
        · split
          · exact AllB.nil
          · exact ih _ _ (hb'.drop _) (ho.app (AllB.rep (hb'.get 0) _))

theorem opL_all (how : Int) (b : List Nat) (most more : Int) (hb : AllB b) : AllB (opL how b most more).1 := by
  unfold opL
  repeat' split
  all_goals first | exact AllB.nil | exact hb | exact lyL_all _ _ _ _ _ _ hb AllB.nil

theorem unL_all (how : Int) (b : List Nat) (raw : Int) (hb : AllB b) : AllB (unL how b raw).1 := by
  unfold unL
  repeat' split
  all_goals first | exact AllB.nil | exact opL_all _ _ _ _ hb

theorem szL_err (how : Int) (b : List Nat) (h : ¬ (szL how b).2 = 0) : (szL how b).1 = 0 := by
  unfold szL at h ⊢
  split
  · rfl
  · rename_i h0; rw [if_neg h0] at h
    simp only at h ⊢
    rw [opL_err how b 65536 4 h]; simp

end Go.Proofs.Ytplibngmgebigaa.Press
