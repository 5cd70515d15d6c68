/- Pr17: packed bytes that lack their last ones never come to as many. No conditions. -/
import Derived.Test.YtplibngmgebigaaPr16
set_option linter.unusedVariables false
set_option linter.unusedSimpArgs false
namespace Go.Proofs.Ytplibngmgebigaa.Press
open Go Go.Proofs.Ytplibngmgebigaa Go.Proofs.Ytplibngmgebigaa.Em

theorem Tri.args {P : Program} {G : List (List EV)} {f : FuncId} {args args' : List EV} {h : EH} {R : EV → EH → Prop} (t : Tri P G f args' h R)
    (hu : ∀ w I ρ vs, RepL w I ρ args vs → RepL w I ρ args' vs) : Tri P G f args h R :=
  fun I ρ w cargs a b c d => t I ρ w cargs a b (hu _ _ _ _ c) d

theorem Up.take (n k : Nat) (cap : Option Nat) (c : List EV) : Up (.isl n cap c) (.isl n none (c.take k)) := fun w I ρ cv h => by
  cases h with
  | isln => exact .isln _ _
  | isl _ _ _ _ a m vs hc hs hf hr =>
    have hx : ∀ (j : Nat) (x : EV), (c.take k)[j]? = some x → c[j]? = some x := fun j x hx => by
      rw [List.getElem?_take] at hx
      split at hx
      · exact hx
      · cases hx
    exact .isl _ n none _ a m vs ⟨hc.1, fun m hm => by cases hm⟩ hs (fun hn => ⟨(hf hn).1, fun j x hj => (hf hn).2 j x (hx j x hj)⟩) (fun hn j x hj => hr hn j x (hx j x hj))

/-- What comes out of some bytes and more behind them. -/
theorem ly_append (two : Bool) (m e : Int) (he : e ≠ 0) : ∀ (n : Nat) (p out o : List Nat), p.length ≤ n → ly two m e p out = (o, 0) → ∀ s, ly two m e (p ++ s) out = ly two m e s o
  | n, [], out, o, _, h, s => by
    rw [ly_nil] at h
    simp only [Prod.mk.injEq, and_true] at h
    subst h; rfl
  | 0, c :: b, out, o, hn, h, s => by simp at hn
  | n + 1, c :: b, out, o, hn, h, s => by
    simp only [List.length_cons] at hn
    have ih := ly_append two m e he n
    rw [List.cons_append, ly_cons]
    rw [ly_cons] at h
    split at h
    · rename_i hc
      rw [if_pos hc]
      split at h
      · simp at h
      · rename_i h3
        rw [if_neg (by rw [List.length_append]; omega)]
        split at h
        · simp [he] at h
        · rename_i h4
          rw [if_neg h4, List.drop_append_of_le_length (by omega), List.take_append_of_le_length (by omega)]
          exact ih _ _ _ (by simp; omega) h s
    · rename_i hc
      rw [if_neg hc]
      split at h
      · rename_i ht
        rw [if_pos ht]
        split at h
        · simp at h
        · rename_i h3
          have g0 : (b ++ s).getD 0 0 = b.getD 0 0 := by simp [List.getD_eq_getElem?_getD, List.getElem?_append_left (show 0 < b.length by omega)]
          have g1 : (b ++ s).getD 1 0 = b.getD 1 0 := by simp [List.getD_eq_getElem?_getD, List.getElem?_append_left (show 1 < b.length by omega)]
          rw [if_neg (by rw [List.length_append]; omega), g0, g1]
          split at h
          · simp at h
          · rename_i h4
            rw [if_neg h4]
            split at h
            · simp [he] at h
            · rename_i h5
              rw [if_neg h5, List.drop_append_of_le_length (by omega)]
              exact ih _ _ _ (by simp; omega) h s
      · rename_i ht
        rw [if_neg ht]
        split at h
        · simp at h
        · rename_i h3
          have g0 : (b ++ s).getD 0 0 = b.getD 0 0 := by simp [List.getD_eq_getElem?_getD, List.getElem?_append_left (show 0 < b.length by omega)]
          rw [if_neg (by rw [List.length_append]; omega), g0]
          split at h
          · simp [he] at h
          · rename_i h5
            rw [if_neg h5, List.drop_append_of_le_length (by omega)]
            exact ih _ _ _ (by simp; omega) h s

theorem ly_strict (two : Bool) (m e : Int) (he : e ≠ 0) (p out o : List Nat) (hp : p ≠ []) (h : ly two m e p out = (o, 0)) : out.length < o.length := by
  cases p with
  | nil => exact absurd rfl hp
  | cons c b =>
    rw [ly_cons] at h
    split at h
    · split at h
      · simp at h
      · split at h
        · simp [he] at h
        · have := (lyL_ge _ _ _ he _ _ _ _ h).1
          simp only [List.length_append, List.length_take] at this
          omega
    · split at h
      · split at h
        · simp at h
        · split at h
          · simp at h
          · split at h
            · simp [he] at h
            · have := (lyL_ge _ _ _ he _ _ _ _ h).1
              rw [cpB_length] at this
              omega
      · split at h
        · simp at h
        · split at h
          · simp [he] at h
          · have := (lyL_ge _ _ _ he _ _ _ _ h).1
            simp only [List.length_append, List.length_replicate] at this
            omega

theorem cut_err (how : Int) (hh : 1 ≤ how ∧ how ≤ 2) (b : List Nat) (hb : AllB b) (hl : b.length ≤ 65536) (k : Nat) (hk : k < (packL how b).1.length) (raw : Int) (hraw : raw = b.length) : ¬ (unL how ((packL how b).1.take k) raw).2 = 0 := by
  intro h
  have hop := op_pack how (by omega) b hb hl raw 61 (by omega)
  have h0 : ¬ how = 0 := by omega
  unfold unL at h
  rw [if_neg (by omega), if_neg (by omega)] at h
  split at h
  · rename_i h3; exact absurd h h3
  · rename_i h3
    split at h
    · simp at h
    · rename_i h4
      have h3' : (opL how ((packL how b).1.take k) raw 61).2 = 0 := by omega
      have e1 : opL how ((packL how b).1.take k) raw 61 = ((opL how ((packL how b).1.take k) raw 61).1, 0) := by rw [← h3']
      obtain ⟨o, ho⟩ : ∃ o, o = (opL how ((packL how b).1.take k) raw 61).1 := ⟨_, rfl⟩
      rw [← ho] at e1 h4
      have e2 : ly (decide (how = 2)) raw 61 ((packL how b).1.take k) [] = (o, 0) := by
        unfold opL at e1; rw [if_neg h0] at e1; exact e1
      have e3 : ly (decide (how = 2)) raw 61 (packL how b).1 [] = (b, 0) := by
        unfold opL at hop; rw [if_neg h0] at hop; exact hop
      have e4 := ly_append _ _ _ (by omega) _ _ _ _ (Nat.le_refl _) e2 ((packL how b).1.drop k)
      rw [List.take_append_drop, e3] at e4
      have e5 := ly_strict _ _ _ (by omega) _ _ _ (fun hn => by
        have := congrArg List.length hn
        rw [List.length_drop, List.length_nil] at this
        omega) e4.symm
      omega

def cut_sh : List Sh := [.slice 1 (.int .u8), .int .i64, .int .i64]

set_option maxHeartbeats 1000000 in
theorem cuts_law : ∀ es, HasVs cut_sh es → Tri Try.prog [] 9 es [] yesE := by
  intro es h
  obtain ⟨e1, r1, rfl, h1, e2, r2, rfl, h2, e3, r3, rfl, h3, h4⟩ := h
  have h4 : r3 = [] := h4
  subst h4
  obtain ⟨b, rfl, hb, hl⟩ := HasV.bytes h1
  obtain ⟨how, rfl, hw1, hw2⟩ := HasV.i64 h2
  obtain ⟨cut, rfl, hc1, hc2⟩ := HasV.i64 h3
  clear h1 h2 h3
  refine Tri_of F9_ok fun I0 ρ0 w0 Q hρ hQ => ?_
  obtain ⟨A, hA⟩ : ∃ A, A = stdA := ⟨_, rfl⟩
  obtain ⟨N, c, hi, hN, hc⟩ := isB_open b
  rw [show EV.isl b.length none (bytesE b) = isB b from rfl, hi]
  with_reducible refine runS hA hd hQ 200 ?hk ?_
  case hk => exact trivial
  conv => arg 8; cbv
  try simp only [OK]
  refine ⟨goodF_of F11_ok, awake_ok.mono fun v h' hx => ?_⟩
  obtain ⟨hv, hh⟩ := hx
  subst hv; subst hh
  with_reducible refine runK hA hd hQ 200 ?hk ?_
  case hk => exact trivial
  conv => arg 8; cbv
  try simp only [OK]
  refine ⟨fun h1 => ?_, fun h1 => ?_⟩
  · with_reducible exfalso; (simp (disch := omega) only [hA, OK, s_le, s_inb, s_slb, s_room, s_mks, s_ne0, s_nn, s_eql, s_neq, s_lss, s_leq, s_gtr, s_geq, s_isz, s_bnot, s_beq, s_idx, s_addN, s_subN, s_mulN, s_tn, s_ofn, s_nmin, s_drp, s_tak, s_app, s_len, s_leB, s_add, s_sub, s_mul, s_wr64, s_wr8, bytesE_fold, bytesE_length, bytesE_drop, bytesE_take, bytesE_app, intsE_fold, intsE_length, decide_eq_true_eq, decide_eq_false_iff_not, Nat.mul_one, Nat.zero_add, Nat.add_zero, Bool.not_eq_true', List.length_take, List.length_drop, List.length_append, List.length_cons, List.length_nil, List.drop_zero, reduceCtorEq, not_true_eq_false, not_false_eq_true] at h1 <;> omega)
  with_reducible refine runK hA hd hQ 200 ?hk ?_
  case hk => exact trivial
  conv => arg 8; cbv
  try simp only [OK]
  refine ⟨fun h2 => ?_, fun h2 => ?_⟩ <;> simp (disch := omega) only [hA, OK, s_le, s_inb, s_slb, s_room, s_mks, s_ne0, s_nn, s_eql, s_neq, s_lss, s_leq, s_gtr, s_geq, s_isz, s_bnot, s_beq, s_idx, s_addN, s_subN, s_mulN, s_tn, s_ofn, s_nmin, s_drp, s_tak, s_app, s_len, s_leB, s_add, s_sub, s_mul, s_wr64, s_wr8, bytesE_fold, bytesE_length, bytesE_drop, bytesE_take, bytesE_app, intsE_fold, intsE_length, decide_eq_true_eq, decide_eq_false_iff_not, Nat.mul_one, Nat.zero_add, Nat.add_zero, Bool.not_eq_true', List.length_take, List.length_drop, List.length_append, List.length_cons, List.length_nil, List.drop_zero] at h2
  · with_reducible refine runK hA hd hQ 200 ?hk ?_
    case hk => exact trivial
    conv => arg 8; cbv
    try simp only [OK]
    exact ⟨_, rfl, .inl rfl⟩
  · with_reducible refine runK hA hd hQ 200 ?hk ?_
    case hk => exact trivial
    conv => arg 8; cbv
    try simp only [OK]
    refine ⟨fun h3 => ?_, fun h3 => ?_⟩ <;> simp (disch := omega) only [hA, OK, s_le, s_inb, s_slb, s_room, s_mks, s_ne0, s_nn, s_eql, s_neq, s_lss, s_leq, s_gtr, s_geq, s_isz, s_bnot, s_beq, s_idx, s_addN, s_subN, s_mulN, s_tn, s_ofn, s_nmin, s_drp, s_tak, s_app, s_len, s_leB, s_add, s_sub, s_mul, s_wr64, s_wr8, bytesE_fold, bytesE_length, bytesE_drop, bytesE_take, bytesE_app, intsE_fold, intsE_length, decide_eq_true_eq, decide_eq_false_iff_not, Nat.mul_one, Nat.zero_add, Nat.add_zero, Bool.not_eq_true', List.length_take, List.length_drop, List.length_append, List.length_cons, List.length_nil, List.drop_zero] at h3
    · with_reducible refine runK hA hd hQ 200 ?hk ?_
      case hk => exact trivial
      conv => arg 8; cbv
      try simp only [OK]
      exact ⟨_, rfl, .inl rfl⟩
    · with_reducible refine runK hA hd hQ 200 ?hk ?_
      case hk => exact trivial
      conv => arg 8; cbv
      try simp only [OK]
      refine ⟨fun h4 => ?_, fun h4 => ?_⟩ <;> simp (disch := omega) only [hA, OK, s_le, s_inb, s_slb, s_room, s_mks, s_ne0, s_nn, s_eql, s_neq, s_lss, s_leq, s_gtr, s_geq, s_isz, s_bnot, s_beq, s_idx, s_addN, s_subN, s_mulN, s_tn, s_ofn, s_nmin, s_drp, s_tak, s_app, s_len, s_leB, s_add, s_sub, s_mul, s_wr64, s_wr8, bytesE_fold, bytesE_length, bytesE_drop, bytesE_take, bytesE_app, intsE_fold, intsE_length, decide_eq_true_eq, decide_eq_false_iff_not, Nat.mul_one, Nat.zero_add, Nat.add_zero, Bool.not_eq_true', List.length_take, List.length_drop, List.length_append, List.length_cons, List.length_nil, List.drop_zero] at h4
      · with_reducible refine runK hA hd hQ 200 ?hk ?_
        case hk => exact trivial
        conv => arg 8; cbv
        try simp only [OK]
        exact ⟨_, rfl, .inl rfl⟩
      · have hl2 : b.length ≤ 65536 := by omega
        have tP := packP how b hb hl
        have hPz := pack_zero how (by omega) b hl2
        have hPa := pack_all how b hb
        have hPb := pack_bound how b hb
        have hce := cut_err how (by omega) b hb hl2
        obtain ⟨P, hP⟩ : ∃ P, P = (packL how b).1 := ⟨_, rfl⟩
        rw [hPz] at tP
        rw [← hP] at tP hPa hPb hce
        obtain ⟨pn, pc, hpi, hpn, hpc⟩ := isB_open P
        rw [hpi, hi] at tP
        with_reducible refine runK hA hd hQ 200 ?hk ?_
        case hk => exact trivial
        conv => arg 8; cbv
        try simp only [OK]
        refine ⟨goodF_of F17_ok, tP.mono fun v h' hx => ?_⟩
        obtain ⟨hv, hh⟩ := hx
        subst hv; subst hh
        with_reducible refine runK hA hd hQ 200 ?hk ?_
        case hk => exact trivial
        conv => arg 8; cbv
        try simp only [OK]
        refine ⟨fun h5 => ?_, fun h5 => ?_⟩
        · with_reducible exfalso; (simp (disch := omega) only [hA, OK, s_le, s_inb, s_slb, s_room, s_mks, s_ne0, s_nn, s_eql, s_neq, s_lss, s_leq, s_gtr, s_geq, s_isz, s_bnot, s_beq, s_idx, s_addN, s_subN, s_mulN, s_tn, s_ofn, s_nmin, s_drp, s_tak, s_app, s_len, s_leB, s_add, s_sub, s_mul, s_wr64, s_wr8, bytesE_fold, bytesE_length, bytesE_drop, bytesE_take, bytesE_app, intsE_fold, intsE_length, decide_eq_true_eq, decide_eq_false_iff_not, Nat.mul_one, Nat.zero_add, Nat.add_zero, Bool.not_eq_true', List.length_take, List.length_drop, List.length_append, List.length_cons, List.length_nil, List.drop_zero, reduceCtorEq, not_true_eq_false, not_false_eq_true] at h5 <;> omega)
        with_reducible refine runK hA hd hQ 200 ?hk ?_
        case hk => exact trivial
        conv => arg 8; cbv
        try simp only [OK]
        refine ⟨fun h6 => ?_, fun h6 => ?_⟩ <;> simp (disch := omega) only [hA, OK, s_le, s_inb, s_slb, s_room, s_mks, s_ne0, s_nn, s_eql, s_neq, s_lss, s_leq, s_gtr, s_geq, s_isz, s_bnot, s_beq, s_idx, s_addN, s_subN, s_mulN, s_tn, s_ofn, s_nmin, s_drp, s_tak, s_app, s_len, s_leB, s_add, s_sub, s_mul, s_wr64, s_wr8, bytesE_fold, bytesE_length, bytesE_drop, bytesE_take, bytesE_app, intsE_fold, intsE_length, decide_eq_true_eq, decide_eq_false_iff_not, Nat.mul_one, Nat.zero_add, Nat.add_zero, Bool.not_eq_true', List.length_take, List.length_drop, List.length_append, List.length_cons, List.length_nil, List.drop_zero] at h6
        · with_reducible refine runK hA hd hQ 200 ?hk ?_
          case hk => exact trivial
          conv => arg 8; cbv
          try simp only [OK]
          refine ⟨_, rfl, .inr ?_⟩
          show EV.sb (A.ic .eql 0 0) = _
          rw [hA, s_eql]; simp
        · with_reducible refine runK hA hd hQ 200 ?hk ?_
          case hk => exact trivial
          conv => arg 8; cbv
          try simp only [OK]
          refine ⟨fun h7 => ?_, fun h7 => ?_⟩ <;> simp (disch := omega) only [hA, OK, s_le, s_inb, s_slb, s_room, s_mks, s_ne0, s_nn, s_eql, s_neq, s_lss, s_leq, s_gtr, s_geq, s_isz, s_bnot, s_beq, s_idx, s_addN, s_subN, s_mulN, s_tn, s_ofn, s_nmin, s_drp, s_tak, s_app, s_len, s_leB, s_add, s_sub, s_mul, s_wr64, s_wr8, bytesE_fold, bytesE_length, bytesE_drop, bytesE_take, bytesE_app, intsE_fold, intsE_length, decide_eq_true_eq, decide_eq_false_iff_not, Nat.mul_one, Nat.zero_add, Nat.add_zero, Bool.not_eq_true', List.length_take, List.length_drop, List.length_append, List.length_cons, List.length_nil, List.drop_zero] at h7
          · with_reducible refine runK hA hd hQ 200 ?hk ?_
            case hk => exact trivial
            conv => arg 8; cbv
            try simp only [OK]
            refine ⟨_, rfl, .inr ?_⟩
            show EV.sb (A.ic .eql 0 0) = _
            rw [hA, s_eql]; simp
          · with_reducible refine runK hA hd hQ 200 ?hk ?_
            case hk => exact trivial
            conv => arg 8; cbv
            try simp only [OK]
            have hQl : (P.take cut.toNat).length = cut.toNat := by rw [List.length_take]; omega
            have hup : Up (.isl (A.sub (A.tn cut) (A.tn 0)) none (A.drp (A.mul (A.tn 0) 1) pc)) (isB (P.take cut.toNat)) := by
              have e1 : A.sub (A.tn cut) (A.tn 0) = cut.toNat := by rw [hA]; show cut.toNat - 0 = _; omega
              have e2 : A.drp (A.mul (A.tn 0) 1) pc = pc := by rw [hA]; rfl
              have e3 : isB (P.take cut.toNat) = .isl cut.toNat none (pc.take cut.toNat) := by rw [isB, hQl, hpc, bytesE_take]
              rw [e1, e2, e3]; exact Up.take _ _ _ _
            have tV := unpackP how (P.take cut.toNat) (hPa.take _) (by omega) (A.ofn N)
            have hne := hce cut.toNat (by omega) (A.ofn N) (by rw [hA, s_ofn, hN])
            have hnil := unL_err _ _ _ hne
            rw [hnil] at tV
            obtain ⟨uf, huf⟩ : ∃ uf, uf = (unL how (P.take cut.toNat) (A.ofn N)).2 := ⟨_, rfl⟩
            rw [← huf] at tV hne
            refine ⟨by simp (disch := omega) only [hA, OK, s_le, s_inb, s_slb, s_room, s_mks, s_ne0, s_nn, s_eql, s_neq, s_lss, s_leq, s_gtr, s_geq, s_isz, s_bnot, s_beq, s_idx, s_addN, s_subN, s_mulN, s_tn, s_ofn, s_nmin, s_drp, s_tak, s_app, s_len, s_leB, s_add, s_sub, s_mul, s_wr64, s_wr8, bytesE_fold, bytesE_length, bytesE_drop, bytesE_take, bytesE_app, intsE_fold, intsE_length, decide_eq_true_eq, decide_eq_false_iff_not, Nat.mul_one, Nat.zero_add, Nat.add_zero, Bool.not_eq_true', List.length_take, List.length_drop, List.length_append, List.length_cons, List.length_nil, List.drop_zero]; omega, goodF_of F14_ok, Tri.args (tV.mono fun v h' hx => ?_) fun w I ρ vs hr => ?_⟩
            · obtain ⟨hv, hh⟩ := hx
              subst hv; subst hh
              with_reducible refine runK hA hd hQ 200 ?hk ?_
              case hk => exact trivial
              conv => arg 8; cbv
              try simp only [OK]
              refine ⟨fun h8 => ?_, fun h8 => ?_⟩
              rotate_left
              · with_reducible exfalso; (simp (disch := omega) only [hA, OK, s_le, s_inb, s_slb, s_room, s_mks, s_ne0, s_nn, s_eql, s_neq, s_lss, s_leq, s_gtr, s_geq, s_isz, s_bnot, s_beq, s_idx, s_addN, s_subN, s_mulN, s_tn, s_ofn, s_nmin, s_drp, s_tak, s_app, s_len, s_leB, s_add, s_sub, s_mul, s_wr64, s_wr8, bytesE_fold, bytesE_length, bytesE_drop, bytesE_take, bytesE_app, intsE_fold, intsE_length, decide_eq_true_eq, decide_eq_false_iff_not, Nat.mul_one, Nat.zero_add, Nat.add_zero, Bool.not_eq_true', List.length_take, List.length_drop, List.length_append, List.length_cons, List.length_nil, List.drop_zero, reduceCtorEq, not_true_eq_false, not_false_eq_true] at h8 <;> omega)
              with_reducible refine runK hA hd hQ 200 ?hk ?_
              case hk => exact trivial
              conv => arg 8; cbv
              try simp only [OK]
              refine ⟨_, rfl, .inr ?_⟩
              show EV.sb (A.ic .eql (A.ofn 0) 0) = _
              rw [hA, s_eql]; simp [s_ofn]
            · match vs, hr with
              | [v1, v2, v3], hr => exact ⟨hr.1, hup _ _ _ _ hr.2.1, hr.2.2.1, trivial⟩

end Go.Proofs.Ytplibngmgebigaa.Press
