/- Pr33: PressKeeps, its law. No conditions beyond those written. -/
import Derived.Test.YtplibngmgebigaaPr31
-- emaT
set_option linter.unusedVariables false
set_option linter.unusedSimpArgs false
namespace Go.Proofs.Ytplibngmgebigaa.Press
open Go Go.Proofs.Ytplibngmgebigaa Go.Proofs.Ytplibngmgebigaa.Em

set_option maxRecDepth 100000 in
set_option maxHeartbeats 4000000 in
theorem keep9 {I0 : Imm} {ρ0 : Ren} {w0 : World} {Q : Exit → Act → World → Prop} (hρ : ρ0.length = 0) (hQ : EndsQ [] I0 ρ0 w0 Q (FinR F10.rs yesE)) (how raw : Int) (b ob : List Nat) (hb : AllB b) (hob : AllB ob)
    (hl : b.length ≤ 140737488351232) (hol : ob.length ≤ 140737488351232) (N : Nat) (c : List EV) (hN : N = b.length) (hc : c = bytesE b) (FN : Nat) (fc : List EV) (hFN : FN = N + 9)
    (hfc : fc = bytesE (b ++ [1, 2, 3, 4, 5, 6, 7, 8, 9])) (S0 : ByteArray) (hS0 : S0 = stdA.dec (fc.take FN))
    (r : List Nat) (hr : r = (packL how b).1) (e : Int) (he : e = (packL how b).2) (rn : Nat) (rc : List EV) (hrn : rn = r.length) (hrc : rc = bytesE r) (ON : Nat) (oc : List EV) (hON : ON = ob.length) (hoc : oc = bytesE ob) (ea eg : EV) (h : EH)
    (next : ∀ (t : List Nat) (ht : AllB t) (tn : Nat) (tc : List EV) (htn : tn = t.length) (htc : tc = bytesE t), OKs Try.prog [] I0 ρ0 w0 Q [.c (seqT 11 F10.body)] ⟨mkT 263 [(2, .ptr 0 0), (5, .isl FN none fc), (6, .lit (.string S0)), (7, .isl N none c), (8, .isl rn none rc), (9, .lit (.int .i64 e)), (14, .isl tn none tc), (16, .isl tn none tc), (10, ea), (12, eg)], (.blk [.lit (.int .i64 how), .isl N none c, .lit (.int .i64 raw)] :: h)⟩) :
    OKs Try.prog [] I0 ρ0 w0 Q [.c (seqT 9 F10.body)] ⟨mkT 263 [(1, .isl ON none oc), (2, .ptr 0 0), (5, .isl FN none fc), (6, .lit (.string S0)), (7, .isl N none c), (8, .isl rn none rc), (9, .lit (.int .i64 e)), (10, ea), (12, eg)], (.blk [.lit (.int .i64 how), .isl N none c, .lit (.int .i64 raw)] :: h)⟩ := by
  obtain ⟨A, hA⟩ : ∃ A, A = stdA := ⟨_, rfl⟩
  have tP := packP how ob hob hol
  have tR := packR how ob hob hol
  have hta := pack_all how ob hob
  obtain ⟨t, ht⟩ : ∃ t, t = (packL how ob).1 := ⟨_, rfl⟩
  obtain ⟨te, hte⟩ : ∃ te, te = (packL how ob).2 := ⟨_, rfl⟩
  obtain ⟨tn, tc, hti, htn, htc⟩ := isB_open t
  rw [← ht, ← hte, hti, show isB ob = .isl ON none oc by rw [hON, hoc]; rfl] at tP tR
  rw [← ht] at hta
  with_reducible refine runS hA hd hQ 60 ?hk ?_
  case hk => exact trivial
  conv => arg 8; cbv
  try simp only [OK]
  refine ⟨goodF_of F17_ok, (Tri.clean rfl rfl tP _).mono fun v h' hx => ?_⟩
  obtain ⟨hv, hh⟩ := hx
  subst hv; subst hh
  with_reducible refine runK hA hd hQ 60 ?hk ?_
  case hk => exact trivial
  conv => arg 8; cbv
  try simp only [OK]
  refine ⟨goodF_of F18_ok, (Tri.clean rfl rfl tR _).mono fun v h' hx => ?_⟩
  obtain ⟨hv, hh⟩ := hx
  subst hv; subst hh
  with_reducible refine runK hA hd hQ 6 ?hk ?_
  case hk => exact trivial
  conv => arg 8; cbv
  try simp only [OK]
  refine OKs.mask (msk 263 [2, 5, 6, 7, 8, 9, 10, 12, 14, 16]) ?_
  exact next t hta tn tc htn htc

set_option maxRecDepth 100000 in
set_option maxHeartbeats 4000000 in
theorem keep5 {I0 : Imm} {ρ0 : Ren} {w0 : World} {Q : Exit → Act → World → Prop} (hρ : ρ0.length = 0) (hQ : EndsQ [] I0 ρ0 w0 Q (FinR F10.rs yesE)) (how raw : Int) (b ob : List Nat) (hb : AllB b) (hob : AllB ob)
    (hl : b.length ≤ 140737488351232) (hol : ob.length ≤ 140737488351232) (N : Nat) (c : List EV) (hN : N = b.length) (hc : c = bytesE b) (FN : Nat) (fc : List EV) (hFN : FN = N + 9)
    (hfc : fc = bytesE (b ++ [1, 2, 3, 4, 5, 6, 7, 8, 9])) (S0 : ByteArray) (hS0 : S0 = stdA.dec (fc.take FN)) (ON : Nat) (oc : List EV) (hON : ON = ob.length) (hoc : oc = bytesE ob) :
    OKs Try.prog [] I0 ρ0 w0 Q [.c (seqT 5 F10.body)] ⟨mkT 263 [(1, .isl ON none oc), (2, .ptr 0 0), (5, .isl FN none fc), (6, .lit (.string S0)), (7, .isl N none c)], [.blk [.lit (.int .i64 how), .isl N none c, .lit (.int .i64 raw)]]⟩ := by
  obtain ⟨A, hA⟩ : ∃ A, A = stdA := ⟨_, rfl⟩
  obtain ⟨r, hr⟩ : ∃ r, r = (packL how b).1 := ⟨_, rfl⟩
  obtain ⟨e, he⟩ : ∃ e, e = (packL how b).2 := ⟨_, rfl⟩
  obtain ⟨rn, rc, hri, hrn, hrc⟩ := isB_open r
  have tR := packR how b hb hl
  have tP := packP_own how b hb hl
  rw [← hr, ← he, show isB b = .isl N none c by rw [hN, hc]; rfl] at tP tR
  rw [hri] at tR
  have he0 : A.ic .neq 0 0 = false := by rw [hA, s_neq]; rfl
  have sF : A.ss .neq (A.dec (A.tak FN fc)) S0 = false := by rw [hA, hS0, s_tak]; exact ss_neq_self _
  have bF : A.byt FN fc = true := by rw [hA, hfc]; exact byt_ok (hb.app nine_all) (by rw [hFN, hN]; simp)
  have bN : A.byt N c = true := by rw [hA, hc]; exact byt_ok hb (by omega)
  have bN0 : A.byt N (A.drp 0 c) = true := by rw [hA, s_drp, List.drop_zero, hc]; exact byt_ok hb (by omega)
  have sN : A.ss .neq (A.dec (A.tak N (A.drp 0 c))) (A.dec (A.tak N c)) = false := by rw [hA, s_drp, List.drop_zero]; exact ss_neq_self _
  have hra : AllB r := hr ▸ pack_all how b hb
  have hrl : rn ≤ 70000 := by rw [hrn, hr]; exact pack_small how b hb
  have bR : A.byt rn rc = true := by rw [hA, hrc]; exact byt_ok hra (by omega)
  have bR0 : A.byt rn (A.drp 0 rc) = true := by rw [hA, s_drp, List.drop_zero, hrc]; exact byt_ok hra (by omega)
  have sR : A.ss .neq (A.dec (A.tak rn (A.drp 0 rc))) (A.dec (A.tak rn rc)) = false := by rw [hA, s_drp, List.drop_zero]; exact ss_neq_self _
  have hee : A.ic .neq e e = false := by rw [hA, s_neq]; simp
  with_reducible refine runS hA hd hQ 60 ?hk ?_
  case hk => exact trivial
  conv => arg 8; cbv
  try simp only [OK]
  refine ⟨goodF_of F18_ok, (Tri.clean rfl rfl tR _).mono fun v h' hx => ?_⟩
  obtain ⟨hv, hh⟩ := hx
  subst hv; subst hh
  with_reducible refine runK hA hd hQ 60 ?hk ?_
  case hk => exact trivial
  conv => arg 8; cbv
  try simp only [OK]
  refine ⟨goodF_of F17_ok, (Tri.cleanO rfl rfl rfl tP).mono fun v h' hx2 => ?_⟩
  rcases hx2 with ⟨hr0, hv, hh2⟩ | ⟨hr0, hv, hh2⟩
  · subst hv; subst hh2
    with_reducible refine runK hA hd hQ 60 ?hk ?_
    case hk => exact trivial
    conv => arg 8; cbv
    try simp only [OK]
    refine ⟨goodF_of F17_ok, (Tri.cleanO rfl rfl rfl tP).mono fun v h' hx2 => ?_⟩
    rcases hx2 with ⟨hr1, hv, hh2⟩ | ⟨hr1, hv, hh2⟩
    rotate_left
    · exact absurd hr0 hr1
    subst hv; subst hh2
    have hrn0 : rn = 0 := by rw [hrn, hr0]; rfl
    have hrc0 : rc = [] := by rw [hrc, hr0]; rfl
    have sE : A.ss .neq ⟨#[]⟩ (A.dec (A.tak rn rc)) = false := by rw [hA, hrn0, hrc0]; exact ss_neq_self _
    with_reducible refine runK hA hd hQ 60 ?hk ?_
    case hk => exact trivial
    conv => arg 8; cbv
    try simp only [OK]
    refine ⟨bR, ?_⟩
    refine ⟨fun hbx => ?_, fun hbx => ?_⟩
    · with_reducible exfalso; exact Bool.noConfusion (hbx.symm.trans (sE))
    with_reducible refine runK hA hd hQ 60 ?hk ?_
    case hk => exact trivial
    conv => arg 8; cbv
    try simp only [OK]
    refine ⟨bR, ?_⟩
    refine ⟨fun hbx => ?_, fun hbx => ?_⟩
    · with_reducible exfalso; exact Bool.noConfusion (hbx.symm.trans (sE))
    with_reducible refine runK hA hd hQ 60 ?hk ?_
    case hk => exact trivial
    conv => arg 8; cbv
    try simp only [OK]
    refine ⟨fun hbx => ?_, fun hbx => ?_⟩
    · with_reducible exfalso; exact Bool.noConfusion (hbx.symm.trans (hee))
    with_reducible refine runK hA hd hQ 60 ?hk ?_
    case hk => exact trivial
    conv => arg 8; cbv
    try simp only [OK]
    refine ⟨bF, ?_⟩
    refine ⟨fun hbx => ?_, fun hbx => ?_⟩
    · with_reducible exfalso; exact Bool.noConfusion (hbx.symm.trans (sF))
    with_reducible refine runK hA hd hQ 1 ?hk ?_
    case hk => exact trivial
    conv => arg 8; cbv
    try simp only [OK]
    refine OKs.mask (msk 263 [1, 2, 5, 6, 7, 8, 9, 10, 12]) ?_
    exact keep9 hρ hQ how raw b ob hb hob hl hol N c hN hc FN fc hFN hfc S0 hS0 r hr e he rn rc hrn hrc ON oc hON hoc _ _ _ fun t ht tn tc htn htc => keep11A hρ hQ how raw b ob hb hob hl hol N c hN hc FN fc hFN hfc S0 hS0 r hr e he rn rc hrn hrc t ht tn tc htn htc hr0
  · rw [← hrn] at hv; rw [← hrc] at hh2; subst hv; subst hh2
    with_reducible refine runK hA hd hQ 60 ?hk ?_
    case hk => exact trivial
    conv => arg 8; cbv
    try simp only [OK]
    refine ⟨goodF_of F17_ok, (Tri.cleanO rfl rfl rfl tP).mono fun v h' hx2 => ?_⟩
    rcases hx2 with ⟨hr1, hv, hh2⟩ | ⟨hr1, hv, hh2⟩
    
    · exact absurd hr1 hr0
    rw [← hrn] at hv; rw [← hrc] at hh2; subst hv; subst hh2
    with_reducible refine runK hA hd hQ 60 ?hk ?_
    case hk => exact trivial
    conv => arg 8; cbv
    try simp only [OK]
    refine ⟨bR0, bR, ?_⟩
    refine ⟨fun hbx => ?_, fun hbx => ?_⟩
    · with_reducible exfalso; exact Bool.noConfusion (hbx.symm.trans (sR))
    with_reducible refine runK hA hd hQ 60 ?hk ?_
    case hk => exact trivial
    conv => arg 8; cbv
    try simp only [OK]
    refine ⟨bR0, bR, ?_⟩
    refine ⟨fun hbx => ?_, fun hbx => ?_⟩
    · with_reducible exfalso; exact Bool.noConfusion (hbx.symm.trans (sR))
    with_reducible refine runK hA hd hQ 60 ?hk ?_
    case hk => exact trivial
    conv => arg 8; cbv
    try simp only [OK]
    refine ⟨fun hbx => ?_, fun hbx => ?_⟩
    · with_reducible exfalso; exact Bool.noConfusion (hbx.symm.trans (hee))
    with_reducible refine runK hA hd hQ 60 ?hk ?_
    case hk => exact trivial
    conv => arg 8; cbv
    try simp only [OK]
    refine ⟨bF, ?_⟩
    refine ⟨fun hbx => ?_, fun hbx => ?_⟩
    · with_reducible exfalso; exact Bool.noConfusion (hbx.symm.trans (sF))
    with_reducible refine runK hA hd hQ 1 ?hk ?_
    case hk => exact trivial
    conv => arg 8; cbv
    try simp only [OK]
    refine OKs.mask (msk 263 [1, 2, 5, 6, 7, 8, 9, 10, 12]) ?_
    exact keep9 hρ hQ how raw b ob hb hob hl hol N c hN hc FN fc hFN hfc S0 hS0 r hr e he rn rc hrn hrc ON oc hON hoc _ _ _ fun t ht tn tc htn htc => keep11B hρ hQ how raw b ob hb hob hl hol N c hN hc FN fc hFN hfc S0 hS0 r hr e he rn rc hrn hrc t ht tn tc htn htc hr0
set_option maxRecDepth 100000 in
set_option maxHeartbeats 4000000 in
theorem keep3 {I0 : Imm} {ρ0 : Ren} {w0 : World} {Q : Exit → Act → World → Prop} (hρ : ρ0.length = 0) (hQ : EndsQ [] I0 ρ0 w0 Q (FinR F10.rs yesE)) (how raw : Int) (b ob : List Nat) (hb : AllB b) (hob : AllB ob)
    (hl : b.length ≤ 140737488351232) (hol : ob.length ≤ 140737488351232) (N : Nat) (c : List EV) (hN : N = b.length) (hc : c = bytesE b) (FN : Nat) (fc : List EV) (hFN : FN = N + 9)
    (hfc : fc = bytesE (b ++ [1, 2, 3, 4, 5, 6, 7, 8, 9])) (ON : Nat) (oc : List EV) (hON : ON = ob.length) (hoc : oc = bytesE ob) :
    OKs Try.prog [] I0 ρ0 w0 Q [.c (seqT 3 F10.body)] ⟨mkT 263 [(1, .isl ON none oc), (2, .ptr 0 0), (5, .isl FN none fc)], [.blk [.lit (.int .i64 how), .isl N none c, .lit (.int .i64 raw)]]⟩ := by
  obtain ⟨A, hA⟩ : ∃ A, A = stdA := ⟨_, rfl⟩
  have bF : A.byt FN fc = true := by rw [hA, hfc]; exact byt_ok (hb.app nine_all) (by rw [hFN, hN]; simp)
  have hup : Up (.isl (A.sub (A.tn (A.ofn N)) (A.tn 0)) none (A.drp (A.mul (A.tn 0) 1) fc)) (.isl N none c) := by
    have h1 : A.sub (A.tn (A.ofn N)) (A.tn 0) = N := by simp (disch := omega) only [hA, OK, emaT] <;> omega
    have h2 : A.drp (A.mul (A.tn 0) 1) fc = fc := by rw [hA]; rfl
    have h3 : c = fc.take N := by rw [hc, hfc, bytesE_take, hN, List.take_left]
    rw [h1, h2, h3]
    exact Up.take N N none fc
  with_reducible refine runS hA hd hQ 15 ?hk ?_
  case hk => exact trivial
  conv => arg 8; cbv
  try simp only [OK]
  refine ⟨bF, by simp (disch := omega) only [hA, OK, emaT] <;> omega, ?_⟩
  refine OKs.up 7 (.isl N none c) hup (OKs.mask (msk 263 [1, 2, 5, 6, 7]) ?_)
  exact keep5 hρ hQ how raw b ob hb hob hl hol N c hN hc FN fc hFN hfc _ (by rw [hA]; rfl) ON oc hON hoc

set_option maxRecDepth 100000 in
set_option maxHeartbeats 4000000 in
theorem keeps_law : ∀ es, HasVs keep_sh es → Tri Try.prog [] 10 es [] yesE := by
  intro es h
  obtain ⟨e1, r1, rfl, h1, e2, r2, rfl, h2, h3⟩ := h
  have h3 : r2 = [] := h3
  subst h3
  obtain ⟨cs, rfl, h1⟩ := h1
  obtain ⟨how, raw, b, rfl, hb, hl, hw, hrw⟩ := op_cells h1
  obtain ⟨ob, rfl, hob, hol⟩ := HasV.bytes h2
  clear h1 h2
  refine Tri_of F10_ok fun I0 ρ0 w0 Q hρ hQ => ?_
  obtain ⟨A, hA⟩ : ∃ A, A = stdA := ⟨_, rfl⟩
  obtain ⟨N, c, hi, hN, hc⟩ := isB_open b
  obtain ⟨ON, hON⟩ : ∃ n, n = ob.length := ⟨_, rfl⟩
  obtain ⟨oc, hoc⟩ : ∃ c, c = bytesE ob := ⟨_, rfl⟩
  rw [hi, ← hON, ← hoc]
  have hawk : A.bnot true = false := by rw [hA]; rfl
  have hfull : ∀ X, X = c → A.app (A.tak (A.mul (A.add 0 N) 1) (A.drp 0 X)) (A.tak (A.mul 9 1) (A.drp 0 [.lit (.int .u8 1), .lit (.int .u8 2), .lit (.int .u8 3), .lit (.int .u8 4), .lit (.int .u8 5), .lit (.int .u8 6), .lit (.int .u8 7), .lit (.int .u8 8), .lit (.int .u8 9)])) = bytesE (b ++ [1, 2, 3, 4, 5, 6, 7, 8, 9]) := fun X hX => by
    rw [hX, hA, s_app, s_tak, s_tak, s_drp, s_drp, s_mulN, s_mulN, s_addN, List.drop_zero, List.drop_zero, Nat.zero_add, Nat.mul_one, ← bytesE_app, hc, bytesE_take, hN, List.take_length]; rfl
  have f1 := hfull (A.setl [] (A.add 0 (A.mul 0 1)) (A.tak (A.mul N 1) c)) (by
    rw [hA, hc, hN]; simp [s_setl, s_app, s_tak, s_drp, s_mulN, s_addN, bytesE_take])
  have f2 := hfull (A.app (A.tak (A.mul 0 1) (A.drp 0 [])) (A.tak (A.mul N 1) c)) (by
    rw [hA, hc, hN]; simp [s_setl, s_app, s_tak, s_drp, s_mulN, s_addN, bytesE_take])
  have f3 : A.add (A.add 0 N) 9 = N + 9 := by rw [hA, s_addN, s_addN]; omega
  with_reducible refine runS hA hd hQ 60 ?hk ?_
  case hk => exact trivial
  conv => arg 8; cbv
  try simp only [OK]
  refine ⟨goodF_of F11_ok, (Tri.clean rfl rfl awake_ok _).mono fun v h' hx => ?_⟩
  obtain ⟨hv, hh⟩ := hx
  subst hv; subst hh
  with_reducible refine runK hA hd hQ 60 ?hk ?_
  case hk => exact trivial
  conv => arg 8; cbv
  try simp only [OK]
  refine ⟨fun hbx => ?_, fun hbx => ?_⟩
  · with_reducible exfalso; exact Bool.noConfusion (hbx.symm.trans (hawk))
  with_reducible refine runK hA hd hQ 60 ?hk ?_
  case hk => exact trivial
  conv => arg 8; cbv
  try simp only [OK]
  refine ⟨by simp (disch := omega) only [hA, OK, emaT , hc] <;> omega, by simp (disch := omega) only [hA, OK, emaT] <;> omega, by simp (disch := omega) only [hA, OK, emaT] <;> omega, by simp (disch := omega) only [hA, OK, emaT] <;> omega, fun h1 => ?_, fun h1 => ?_⟩ <;> simp (disch := omega) only [hA, OK, emaT] at h1
  · have hN0 : N = 0 := by omega
    have hb0 : b = [] := List.length_eq_zero_iff.1 (by omega)
    with_reducible refine runK hA hd hQ 60 ?hk ?_
    case hk => exact trivial
    conv => arg 8; cbv
    try simp only [OK]
    refine ⟨by simp (disch := omega) only [hA, OK, emaT] <;> decide, by (simp (disch := omega) only [hA, OK, emaT , s_setl, hc, hb0] <;> simp [hN0, bytesE_nil]), by simp (disch := omega) only [hA, OK, emaT] <;> omega, by simp (disch := omega) only [hA, OK, emaT] <;> omega, fun h2 => absurd h2 (by simp (disch := omega) only [hA, OK, emaT] <;> omega), fun h2 => ?_⟩
    with_reducible refine runK hA hd hQ 2 ?hk ?_
    case hk => exact trivial
    conv => arg 8; cbv
    try simp only [OK]
    refine OKs.mask (msk 263 [1, 2, 5]) (OKs.mv [0] [3] (by rw [hρ]; rfl) ⟨by simp, by simp [sizeH], fun i hi => ?_⟩ ?_)
    · simp at hi; subst hi
      refine ⟨_, rfl, ?_⟩
      exact (congrArg clL f1).trans (clL_bytes _)
    refine keep3 hρ hQ how raw b ob hb hob hl hol N c hN hc _ _ ?_ ?_ ON oc hON hoc
    · exact f3
    · exact f1
  · with_reducible refine runK hA hd hQ 4 ?hk ?_
    case hk => exact trivial
    conv => arg 8; cbv
    try simp only [OK]
    refine ⟨by simp (disch := omega) only [hA, OK, emaT] <;> decide, by (simp (disch := omega) only [hA, OK, emaT , hc] <;> omega), by simp (disch := omega) only [hA, OK, emaT] <;> omega, ?_⟩
    refine OKs.mask (msk 263 [1, 2, 5]) (OKs.mv [0] [4] (by rw [hρ]; rfl) ⟨by simp, by simp [sizeH], fun i hi => ?_⟩ ?_)
    · simp at hi; subst hi
      refine ⟨_, rfl, ?_⟩
      exact (congrArg clL f2).trans (clL_bytes _)
    refine keep3 hρ hQ how raw b ob hb hob hl hol N c hN hc _ _ ?_ ?_ ON oc hON hoc
    · exact f3
    · exact f2

end Go.Proofs.Ytplibngmgebigaa.Press
