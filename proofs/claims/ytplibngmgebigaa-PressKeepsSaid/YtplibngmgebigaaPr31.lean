/- Pr31: PressKeeps: what packs to nothing. No conditions beyond those written. -/
import Derived.Test.YtplibngmgebigaaPr29
-- emaT
set_option linter.unusedVariables false
set_option linter.unusedSimpArgs false
namespace Go.Proofs.Ytplibngmgebigaa.Press
open Go Go.Proofs.Ytplibngmgebigaa Go.Proofs.Ytplibngmgebigaa.Em

set_option maxRecDepth 100000 in
set_option maxHeartbeats 4000000 in
theorem keep19A {I0 : Imm} {ρ0 : Ren} {w0 : World} {Q : Exit → Act → World → Prop} (hρ : ρ0.length = 0) (hQ : EndsQ [] I0 ρ0 w0 Q (FinR F10.rs yesE)) (how raw : Int) (b ob : List Nat) (hb : AllB b) (hob : AllB ob)
    (hl : b.length ≤ 140737488351232) (hol : ob.length ≤ 140737488351232) (N : Nat) (c : List EV) (hN : N = b.length) (hc : c = bytesE b) (FN : Nat) (fc : List EV) (hFN : FN = N + 9)
    (hfc : fc = bytesE (b ++ [1, 2, 3, 4, 5, 6, 7, 8, 9])) (S0 : ByteArray) (hS0 : S0 = stdA.dec (fc.take FN))
    (r : List Nat) (hr : r = (packL how b).1) (e : Int) (he : e = (packL how b).2) (rn : Nat) (rc : List EV) (hrn : rn = r.length) (hrc : rc = bytesE r) (hr0 : r = []) (hb0 : b = []) :
    OKs Try.prog [] I0 ρ0 w0 Q [.c (seqT 19 F10.body)] ⟨mkT 263 [(2, .ptr 0 0), (5, .isl FN none fc), (6, .lit (.string S0)), (7, .isl N none c), (8, .isl rn none rc), (12, .lit (.slice none 0 0)), (21, .lit (.slice none 0 0)), (23, .lit (.slice none 0 0))], [.blk [.lit (.int .i64 how), .isl N none c, .lit (.int .i64 raw)]]⟩ := by
  obtain ⟨A, hA⟩ : ∃ A, A = stdA := ⟨_, rfl⟩
  have he0 : A.ic .neq 0 0 = false := by rw [hA, s_neq]; rfl
  have sF : A.ss .neq (A.dec (A.tak FN fc)) S0 = false := by rw [hA, hS0, s_tak]; exact ss_neq_self _
  have bF : A.byt FN fc = true := by rw [hA, hfc]; exact byt_ok (hb.app nine_all) (by rw [hFN, hN]; simp)
  have bN : A.byt N c = true := by rw [hA, hc]; exact byt_ok hb (by omega)
  have bN0 : A.byt N (A.drp 0 c) = true := by rw [hA, s_drp, List.drop_zero, hc]; exact byt_ok hb (by omega)
  have sN : A.ss .neq (A.dec (A.tak N (A.drp 0 c))) (A.dec (A.tak N c)) = false := by rw [hA, s_drp, List.drop_zero]; exact ss_neq_self _
  have hra : AllB r := hr ▸ pack_all how b hb
  have hrl : rn ≤ 70000 := by rw [hrn, hr]; exact pack_small how b hb
  have bR : A.byt rn rc = true := by rw [hA, hrc]; exact byt_ok hra (by omega)
  have bR0 : A.byt rn (A.drp 0 rc) = true := by rw [hA, s_drp, List.drop_zero, hrc]; exact byt_ok hra (by omega)
  have sR : A.ss .neq (A.dec (A.tak rn (A.drp 0 rc))) (A.dec (A.tak rn rc)) = false := by rw [hA, s_drp, List.drop_zero]; exact ss_neq_self _
  have hrn0 : rn = 0 := by rw [hrn, hr0]; rfl
  have hrc0 : rc = [] := by rw [hrc, hr0]; rfl
  have sE : A.ss .neq ⟨#[]⟩ (A.dec (A.tak rn rc)) = false := by rw [hA, hrn0, hrc0]; exact ss_neq_self _
  have hl0 : A.ic .lss 0 0 = false := by rw [hA, s_lss]; rfl
  have hN0 : N = 0 := by rw [hN, hb0]; rfl
  have hc0 : c = [] := by rw [hc, hb0]; rfl
  have sEN : A.ss .neq ⟨#[]⟩ (A.dec (A.tak N c)) = false := by rw [hA, hN0, hc0]; exact ss_neq_self _
  with_reducible refine runS hA hd hQ 60 ?hk ?_
  case hk => exact trivial
  conv => arg 8; cbv
  try simp only [OK]
  refine OKs.mask (msk 263 [2, 5, 6, 7, 8, 12, 21, 23, 189, 190]) ?_
  refine OKs.loop (fun s => s = ⟨mkT 263 [(2, .ptr 0 0), (5, .isl FN none fc), (6, .lit (.string S0)), (7, .isl N none c), (8, .isl rn none rc), (12, .lit (.slice none 0 0)), (21, .lit (.slice none 0 0)), (23, .lit (.slice none 0 0)), (189, .lit (.int .i64 0)), (190, .lit (.int .i64 0))], [.blk [.lit (.int .i64 how), .isl N none c, .lit (.int .i64 raw)]]⟩) (fun s => 0) (fun s hs ih => ?_) rfl
  subst hs
  with_reducible refine runS hA hd hQ 60 ?hk ?_
  case hk => exact trivial
  conv => arg 8; cbv
  try simp only [OK]
  refine ⟨fun hbx => ?_, fun hbx => ?_⟩
  · with_reducible exfalso; exact Bool.noConfusion (hbx.symm.trans (hl0))
  clear ih
  with_reducible refine runK hA hd hQ 1 ?hk ?_
  case hk => exact trivial
  conv => arg 8; cbv
  try simp only [OK]
  refine OKs.mask (msk 263 [2, 5, 6, 7, 8, 12, 21, 23]) ?_
  with_reducible refine runS hA hd hQ 60 ?hk ?_
  case hk => exact trivial
  conv => arg 8; cbv
  try simp only [OK]
  refine OKs.mask (msk 263 [2, 5, 6, 7, 8, 12, 23, 19, 26]) ?_
  refine OKs.loop (fun s => (∃ (x : Int), s = ⟨mkT 263 [(2, .ptr 0 0), (5, .isl FN none fc), (6, .lit (.string S0)), (7, .isl N none c), (8, .isl rn none rc), (12, .lit (.slice none 0 0)), (23, .lit (.slice none 0 0)), (19, .lit (.slice none 0 0)), (26, .lit (.int .i64 x))], [.blk [.lit (.int .i64 how), .isl N none c, .lit (.int .i64 raw)]]⟩ ∧ x = 0) ∨ (∃ (x : Int) (m : Nat) (gc : List EV), s = ⟨mkT 263 [(2, .ptr 0 0), (5, .isl FN none fc), (6, .lit (.string S0)), (7, .isl N none c), (8, .isl rn none rc), (12, .lit (.slice none 0 0)), (23, .lit (.slice none 0 0)), (19, .sl 1 1 0 m none), (26, .lit (.int .i64 x))], [.blk [.lit (.int .i64 how), .isl N none c, .lit (.int .i64 raw)], .blk gc]⟩ ∧ 0 ≤ x ∧ x ≤ 300 ∧ m = x.toNat ∧ gc.length = m)) (fun s => (300 - intN (getT s.t 26)).toNat) (fun s hs ih => ?_)
    (.inl ⟨0, rfl, rfl⟩)
  rcases hs with ⟨x, rfl, hx⟩ | ⟨x, m, gc, rfl, hx0, hx1, hm, hgc⟩
  · with_reducible refine runS hA hd hQ 60 ?hk ?_
    case hk => exact trivial
    conv => arg 8; cbv
    try simp only [OK]
    refine ⟨fun h1 => ?_, fun h1 => ?_⟩
    rotate_left
    · with_reducible exfalso; (simp (disch := omega) only [hA, OK, emaT, reduceCtorEq, not_true_eq_false, not_false_eq_true] at h1 <;> omega)
    with_reducible refine runK hA hd hQ 60 ?hk ?_
    case hk => exact trivial
    conv => arg 8; cbv
    try simp only [OK]
    have hm2 : (1 : Nat) = (A.ib .add .i64 x 1).toNat := by simp (disch := omega) only [hA, OK, emaT] <;> omega
    refine ⟨by simp (disch := omega) only [hA, OK, emaT] <;> decide, by simp (disch := omega) only [hA, OK, emaT] <;> omega, fun h2 => absurd h2 (by simp (disch := omega) only [hA, OK, emaT] <;> omega), fun h2 => ?_⟩
    with_reducible refine runK hA hd hQ 60 ?hk ?_
    case hk => exact trivial
    conv => arg 8; cbv
    try simp only [OK]
    refine OKs.mask (msk 263 [2, 5, 6, 7, 8, 12, 23, 19, 26]) (OKs.mv [0, 2] [] (by rw [hρ]; rfl) ⟨by simp, by simp [sizeH], by simp⟩ ?_)
    refine ih _ (.inr ⟨A.ib .add .i64 x 1, 1, _, rfl, ?_, ?_, hm2, ?_⟩) (show (300 - A.ib .add .i64 x 1).toNat < (300 - x).toNat from ?_)
    · simp (disch := omega) only [hA, OK, emaT] <;> omega
    · simp (disch := omega) only [hA, OK, emaT] <;> omega
    · rw [mvL_length]
      show (A.tak (A.mul 1 1) (A.drp 0 [.lit (.int .u8 238)])).length = 1
      rw [hA]; rfl
    · simp (disch := omega) only [hA, OK, emaT] <;> omega
  with_reducible refine runS hA hd hQ 60 ?hk ?_
  case hk => exact trivial
  conv => arg 8; cbv
  try simp only [OK]
  refine ⟨fun h1 => ?_, fun h1 => ?_⟩ <;> simp (disch := omega) only [hA, OK, emaT] at h1
  · with_reducible refine runK hA hd hQ 60 ?hk ?_
    case hk => exact trivial
    conv => arg 8; cbv
    try simp only [OK]
    have hm2 : A.add m 1 = (A.ib .add .i64 x 1).toNat := by simp (disch := omega) only [hA, OK, emaT] <;> omega
    refine ⟨by simp (disch := omega) only [hA, OK, emaT] <;> decide, by simp (disch := omega) only [hA, OK, emaT] <;> omega, by simp (disch := omega) only [hA, OK, emaT] <;> omega, ?_⟩
    refine OKs.mask (msk 263 [2, 5, 6, 7, 8, 12, 23, 19, 26]) (OKs.mv [0, 3] [] (by rw [hρ]; rfl) ⟨by simp, by simp [sizeH], by simp⟩ ?_)
    refine ih _ (.inr ⟨A.ib .add .i64 x 1, A.add m 1, _, rfl, ?_, ?_, hm2, ?_⟩) (show (300 - A.ib .add .i64 x 1).toNat < (300 - x).toNat from ?_)
    · simp (disch := omega) only [hA, OK, emaT] <;> omega
    · simp (disch := omega) only [hA, OK, emaT] <;> omega
    · rw [mvL_length]
      show (A.app (A.tak (A.mul m 1) (A.drp 0 gc)) (A.tak (A.mul 1 1) (A.drp 0 [.lit (.int .u8 238)]))).length = A.add m 1
      rw [hA, s_app, s_tak, s_tak, s_drp, s_drp, s_mulN, s_mulN, s_addN]; simp; omega
    · simp (disch := omega) only [hA, OK, emaT] <;> omega
  clear ih
  with_reducible refine runK hA hd hQ 1 ?hk ?_
  case hk => exact trivial
  conv => arg 8; cbv
  try simp only [OK]
  refine OKs.mask (msk 263 [2, 5, 6, 7, 8, 12, 23]) (OKs.mv [0] [] (by rw [hρ]; rfl) ⟨by simp, by simp [sizeH], by simp⟩ ?_)
  with_reducible refine runS hA hd hQ 100 ?hk ?_
  case hk => exact trivial
  conv => arg 8; cbv
  try simp only [OK]
  refine ⟨bN, ?_⟩
  refine ⟨fun hbx => ?_, fun hbx => ?_⟩
  · with_reducible exfalso; exact Bool.noConfusion (hbx.symm.trans (sEN))
  with_reducible refine runK hA hd hQ 100 ?hk ?_
  case hk => exact trivial
  conv => arg 8; cbv
  try simp only [OK]
  refine ⟨bR, ?_⟩
  refine ⟨fun hbx => ?_, fun hbx => ?_⟩
  · with_reducible exfalso; exact Bool.noConfusion (hbx.symm.trans (sE))
  with_reducible refine runK hA hd hQ 100 ?hk ?_
  case hk => exact trivial
  conv => arg 8; cbv
  try simp only [OK]
  refine ⟨bF, ?_⟩
  refine ⟨fun hbx => ?_, fun hbx => ?_⟩
  · with_reducible exfalso; exact Bool.noConfusion (hbx.symm.trans (sF))
  with_reducible refine runK hA hd hQ 100 ?hk ?_
  case hk => exact trivial
  conv => arg 8; cbv
  try simp only [OK]
  refine OKs.mask (msk 263 [2, 7, 12, 227, 228]) ?_
  refine OKs.loop (fun s => s = ⟨mkT 263 [(2, .ptr 0 0), (7, .isl N none c), (12, .lit (.slice none 0 0)), (227, .lit (.int .i64 0)), (228, .lit (.int .i64 0))], [.blk [.lit (.int .i64 how), .isl N none c, .lit (.int .i64 raw)]]⟩) (fun s => 0) (fun s hs ih => ?_) rfl
  subst hs
  with_reducible refine runS hA hd hQ 60 ?hk ?_
  case hk => exact trivial
  conv => arg 8; cbv
  try simp only [OK]
  refine ⟨fun hbx => ?_, fun hbx => ?_⟩
  · with_reducible exfalso; exact Bool.noConfusion (hbx.symm.trans (hl0))
  clear ih
  with_reducible refine runK hA hd hQ 1 ?hk ?_
  case hk => exact trivial
  conv => arg 8; cbv
  try simp only [OK]
  refine OKs.mask (msk 263 [2, 7, 12]) ?_
  refine OKs.up 12 (.isl 0 none []) (Up.nil []) ?_
  exact keep24 hρ hQ how raw N c [] AllB.nil (by simp) 0 [] rfl rfl

set_option maxRecDepth 100000 in
set_option maxHeartbeats 4000000 in
theorem keep14A {I0 : Imm} {ρ0 : Ren} {w0 : World} {Q : Exit → Act → World → Prop} (hρ : ρ0.length = 0) (hQ : EndsQ [] I0 ρ0 w0 Q (FinR F10.rs yesE)) (how raw : Int) (b ob : List Nat) (hb : AllB b) (hob : AllB ob)
    (hl : b.length ≤ 140737488351232) (hol : ob.length ≤ 140737488351232) (N : Nat) (c : List EV) (hN : N = b.length) (hc : c = bytesE b) (FN : Nat) (fc : List EV) (hFN : FN = N + 9)
    (hfc : fc = bytesE (b ++ [1, 2, 3, 4, 5, 6, 7, 8, 9])) (S0 : ByteArray) (hS0 : S0 = stdA.dec (fc.take FN))
    (r : List Nat) (hr : r = (packL how b).1) (e : Int) (he : e = (packL how b).2) (rn : Nat) (rc : List EV) (hrn : rn = r.length) (hrc : rc = bytesE r)
    (t : List Nat) (ht : AllB t) (tn : Nat) (tc : List EV) (htn : tn = t.length) (htc : tc = bytesE t) (hr0 : r = []) :
    OKs Try.prog [] I0 ρ0 w0 Q [.c (seqT 14 F10.body)] ⟨mkT 263 [(2, .ptr 0 0), (5, .isl FN none fc), (6, .lit (.string S0)), (7, .isl N none c), (8, .isl rn none rc), (9, .lit (.int .i64 e)), (14, .isl tn none tc), (16, .isl tn none tc), (12, .lit (.slice none 0 0))], [.blk [.lit (.int .i64 how), .isl N none c, .lit (.int .i64 raw)]]⟩ := by
  obtain ⟨A, hA⟩ : ∃ A, A = stdA := ⟨_, rfl⟩
  have he0 : A.ic .neq 0 0 = false := by rw [hA, s_neq]; rfl
  have sF : A.ss .neq (A.dec (A.tak FN fc)) S0 = false := by rw [hA, hS0, s_tak]; exact ss_neq_self _
  have bF : A.byt FN fc = true := by rw [hA, hfc]; exact byt_ok (hb.app nine_all) (by rw [hFN, hN]; simp)
  have bN : A.byt N c = true := by rw [hA, hc]; exact byt_ok hb (by omega)
  have bN0 : A.byt N (A.drp 0 c) = true := by rw [hA, s_drp, List.drop_zero, hc]; exact byt_ok hb (by omega)
  have sN : A.ss .neq (A.dec (A.tak N (A.drp 0 c))) (A.dec (A.tak N c)) = false := by rw [hA, s_drp, List.drop_zero]; exact ss_neq_self _
  have hra : AllB r := hr ▸ pack_all how b hb
  have hrl : rn ≤ 70000 := by rw [hrn, hr]; exact pack_small how b hb
  have bR : A.byt rn rc = true := by rw [hA, hrc]; exact byt_ok hra (by omega)
  have bR0 : A.byt rn (A.drp 0 rc) = true := by rw [hA, s_drp, List.drop_zero, hrc]; exact byt_ok hra (by omega)
  have sR : A.ss .neq (A.dec (A.tak rn (A.drp 0 rc))) (A.dec (A.tak rn rc)) = false := by rw [hA, s_drp, List.drop_zero]; exact ss_neq_self _
  have bT : A.byt tn tc = true := by rw [hA, htc]; exact byt_ok ht (by omega)
  have sT : A.ss .neq (A.dec (A.tak tn tc)) (A.dec (A.tak tn tc)) = false := by rw [hA]; exact ss_neq_self _
  have hrn0 : rn = 0 := by rw [hrn, hr0]; rfl
  have hrc0 : rc = [] := by rw [hrc, hr0]; rfl
  have sE : A.ss .neq ⟨#[]⟩ (A.dec (A.tak rn rc)) = false := by rw [hA, hrn0, hrc0]; exact ss_neq_self _
  have hl0 : A.ic .lss 0 0 = false := by rw [hA, s_lss]; rfl
  with_reducible refine runS hA hd hQ 100 ?hk ?_
  case hk => exact trivial
  conv => arg 8; cbv
  try simp only [OK]
  refine ⟨bR, ?_⟩
  refine ⟨fun hbx => ?_, fun hbx => ?_⟩
  · with_reducible exfalso; exact Bool.noConfusion (hbx.symm.trans (sE))
  with_reducible refine runK hA hd hQ 100 ?hk ?_
  case hk => exact trivial
  conv => arg 8; cbv
  try simp only [OK]
  refine ⟨bT, bT, ?_⟩
  refine ⟨fun hbx => ?_, fun hbx => ?_⟩
  · with_reducible exfalso; exact Bool.noConfusion (hbx.symm.trans (sT))
  with_reducible refine runK hA hd hQ 100 ?hk ?_
  case hk => exact trivial
  conv => arg 8; cbv
  try simp only [OK]
  refine ⟨bF, ?_⟩
  refine ⟨fun hbx => ?_, fun hbx => ?_⟩
  · with_reducible exfalso; exact Bool.noConfusion (hbx.symm.trans (sF))
  with_reducible refine runK hA hd hQ 100 ?hk ?_
  case hk => exact trivial
  conv => arg 8; cbv
  try simp only [OK]
  refine ⟨fun h1 => ?_, fun h1 => ?_⟩ <;> simp (disch := omega) only [hA, OK, emaT] at h1
  · with_reducible refine runK hA hd hQ 100 ?hk ?_
    case hk => exact trivial
    conv => arg 8; cbv
    try simp only [OK]
    exact ⟨_, rfl, .inl rfl⟩
  · have hg := pack_good how b (by omega)
    have hb0 : b = [] := Classical.byContradiction fun h => pack_ne how ⟨hg.1, hg.2.1⟩ b hb hg.2.2 h (hr ▸ hr0)
    have hN0 : N = 0 := by rw [hN, hb0]; rfl
    have hc0 : c = [] := by rw [hc, hb0]; rfl
    have sEN : A.ss .neq ⟨#[]⟩ (A.dec (A.tak N c)) = false := by rw [hA, hN0, hc0]; exact ss_neq_self _
    have tU := unpackP_own how [] AllB.nil (by simp) (A.ofn N)
    have hu := un_pack how ⟨hg.1, hg.2.1⟩ b hb hg.2.2 (A.ofn N) (by rw [hA, s_ofn, hN])
    rw [← hr, hr0, hb0] at hu
    rw [hu] at tU
    have tT := turns_ok how ⟨hg.1, hg.2.1⟩ b hb hg.2.2
    rw [← hr, show strE r = A.dec (A.tak rn rc) by rw [hA, hrn0, hrc0, hr0]; rfl, show isB b = .isl N none c by rw [hN, hc]; rfl] at tT
    with_reducible refine runK hA hd hQ 100 ?hk ?_
    case hk => exact trivial
    conv => arg 8; cbv
    try simp only [OK]
    refine ⟨goodF_of F14_ok, (Tri.lendO [] (by simp) (fun w I ρ vs hr => ?_) rfl rfl tU).mono fun v h' hx2 => ?_⟩
    · match vs, hr with
      | [v1, v2, v3], hr => exact ⟨hr.1, Up.nil [] _ _ _ _ hr.2.1, hr.2.2.1, trivial⟩
    rcases hx2 with ⟨_, hv, hh2⟩ | hx2
    rotate_left
    · exact absurd rfl hx2.1
    subst hv; subst hh2
    with_reducible refine runK hA hd hQ 100 ?hk ?_
    case hk => exact trivial
    conv => arg 8; cbv
    try simp only [OK]
    refine ⟨goodF_of F14_ok, (Tri.lendO [] (by simp) (fun w I ρ vs hr => ?_) rfl rfl tU).mono fun v h' hx2 => ?_⟩
    · match vs, hr with
      | [v1, v2, v3], hr => exact ⟨hr.1, Up.nil [] _ _ _ _ hr.2.1, hr.2.2.1, trivial⟩
    rcases hx2 with ⟨_, hv, hh2⟩ | hx2
    rotate_left
    · exact absurd rfl hx2.1
    subst hv; subst hh2
    with_reducible refine runK hA hd hQ 100 ?hk ?_
    case hk => exact trivial
    conv => arg 8; cbv
    try simp only [OK]
    refine ⟨fun hbx => ?_, fun hbx => ?_⟩
    · with_reducible exfalso; exact Bool.noConfusion (hbx.symm.trans (he0))
    with_reducible refine runK hA hd hQ 100 ?hk ?_
    case hk => exact trivial
    conv => arg 8; cbv
    try simp only [OK]
    refine ⟨bN, ?_⟩
    refine ⟨fun hbx => ?_, fun hbx => ?_⟩
    · with_reducible exfalso; exact Bool.noConfusion (hbx.symm.trans (sEN))
    with_reducible refine runK hA hd hQ 100 ?hk ?_
    case hk => exact trivial
    conv => arg 8; cbv
    try simp only [OK]
    refine ⟨bN, ?_⟩
    refine ⟨fun hbx => ?_, fun hbx => ?_⟩
    · with_reducible exfalso; exact Bool.noConfusion (hbx.symm.trans (sEN))
    with_reducible refine runK hA hd hQ 100 ?hk ?_
    case hk => exact trivial
    conv => arg 8; cbv
    try simp only [OK]
    refine ⟨bR, goodF_of F19_ok, (Tri.clean rfl rfl tT _).mono fun v h' hx => ?_⟩
    obtain ⟨hv, hh⟩ := hx
    subst hv; subst hh
    with_reducible refine runK hA hd hQ 5 ?hk ?_
    case hk => exact trivial
    conv => arg 8; cbv
    try simp only [OK]
    refine OKs.mask (msk 263 [2, 5, 6, 7, 8, 12, 21, 23]) ?_
    exact keep19A hρ hQ how raw b ob hb hob hl hol N c hN hc FN fc hFN hfc S0 hS0 r hr e he rn rc hrn hrc hr0 hb0

set_option maxRecDepth 100000 in
set_option maxHeartbeats 4000000 in
theorem keep11A {I0 : Imm} {ρ0 : Ren} {w0 : World} {Q : Exit → Act → World → Prop} (hρ : ρ0.length = 0) (hQ : EndsQ [] I0 ρ0 w0 Q (FinR F10.rs yesE)) (how raw : Int) (b ob : List Nat) (hb : AllB b) (hob : AllB ob)
    (hl : b.length ≤ 140737488351232) (hol : ob.length ≤ 140737488351232) (N : Nat) (c : List EV) (hN : N = b.length) (hc : c = bytesE b) (FN : Nat) (fc : List EV) (hFN : FN = N + 9)
    (hfc : fc = bytesE (b ++ [1, 2, 3, 4, 5, 6, 7, 8, 9])) (S0 : ByteArray) (hS0 : S0 = stdA.dec (fc.take FN))
    (r : List Nat) (hr : r = (packL how b).1) (e : Int) (he : e = (packL how b).2) (rn : Nat) (rc : List EV) (hrn : rn = r.length) (hrc : rc = bytesE r)
    (t : List Nat) (ht : AllB t) (tn : Nat) (tc : List EV) (htn : tn = t.length) (htc : tc = bytesE t) (hr0 : r = []) :
    OKs Try.prog [] I0 ρ0 w0 Q [.c (seqT 11 F10.body)] ⟨mkT 263 [(2, .ptr 0 0), (5, .isl FN none fc), (6, .lit (.string S0)), (7, .isl N none c), (8, .isl rn none rc), (9, .lit (.int .i64 e)), (14, .isl tn none tc), (16, .isl tn none tc), (10, .lit (.slice none 0 0)), (12, .lit (.slice none 0 0))], [.blk [.lit (.int .i64 how), .isl N none c, .lit (.int .i64 raw)]]⟩ := by
  obtain ⟨A, hA⟩ : ∃ A, A = stdA := ⟨_, rfl⟩
  have hrn0 : rn = 0 := by rw [hrn, hr0]; rfl
  have hrc0 : rc = [] := by rw [hrc, hr0]; rfl
  have sE : A.ss .neq ⟨#[]⟩ (A.dec (A.tak rn rc)) = false := by rw [hA, hrn0, hrc0]; exact ss_neq_self _
  have hl0 : A.ic .lss 0 0 = false := by rw [hA, s_lss]; rfl
  with_reducible refine runS hA hd hQ 60 ?hk ?_
  case hk => exact trivial
  conv => arg 8; cbv
  try simp only [OK]
  refine OKs.mask (msk 263 [2, 5, 6, 7, 8, 9, 14, 16, 10, 12, 106, 107]) ?_
  refine OKs.loop (fun s => s = ⟨mkT 263 [(2, .ptr 0 0), (5, .isl FN none fc), (6, .lit (.string S0)), (7, .isl N none c), (8, .isl rn none rc), (9, .lit (.int .i64 e)), (14, .isl tn none tc), (16, .isl tn none tc), (10, .lit (.slice none 0 0)), (12, .lit (.slice none 0 0)), (106, .lit (.int .i64 0)), (107, .lit (.int .i64 0))], [.blk [.lit (.int .i64 how), .isl N none c, .lit (.int .i64 raw)]]⟩) (fun s => 0) (fun s hs ih => ?_) rfl
  subst hs
  with_reducible refine runS hA hd hQ 60 ?hk ?_
  case hk => exact trivial
  conv => arg 8; cbv
  try simp only [OK]
  refine ⟨fun hbx => ?_, fun hbx => ?_⟩
  · with_reducible exfalso; exact Bool.noConfusion (hbx.symm.trans (hl0))
  clear ih
  with_reducible refine runK hA hd hQ 1 ?hk ?_
  case hk => exact trivial
  conv => arg 8; cbv
  try simp only [OK]
  refine OKs.mask (msk 263 [2, 5, 6, 7, 8, 9, 14, 16, 10, 12]) ?_
  with_reducible refine runS hA hd hQ 60 ?hk ?_
  case hk => exact trivial
  conv => arg 8; cbv
  try simp only [OK]
  refine OKs.mask (msk 263 [2, 5, 6, 7, 8, 9, 14, 16, 12, 19, 20]) ?_
  refine OKs.loop (fun s => (∃ (x : Int), s = ⟨mkT 263 [(2, .ptr 0 0), (5, .isl FN none fc), (6, .lit (.string S0)), (7, .isl N none c), (8, .isl rn none rc), (9, .lit (.int .i64 e)), (14, .isl tn none tc), (16, .isl tn none tc), (12, .lit (.slice none 0 0)), (19, .lit (.slice none 0 0)), (20, .lit (.int .i64 x))], [.blk [.lit (.int .i64 how), .isl N none c, .lit (.int .i64 raw)]]⟩ ∧ x = 0) ∨ (∃ (x : Int) (m : Nat) (gc : List EV), s = ⟨mkT 263 [(2, .ptr 0 0), (5, .isl FN none fc), (6, .lit (.string S0)), (7, .isl N none c), (8, .isl rn none rc), (9, .lit (.int .i64 e)), (14, .isl tn none tc), (16, .isl tn none tc), (12, .lit (.slice none 0 0)), (19, .sl 1 1 0 m none), (20, .lit (.int .i64 x))], [.blk [.lit (.int .i64 how), .isl N none c, .lit (.int .i64 raw)], .blk gc]⟩ ∧ 0 ≤ x ∧ x ≤ 300 ∧ m = x.toNat ∧ gc.length = m)) (fun s => (300 - intN (getT s.t 20)).toNat) (fun s hs ih => ?_)
    (.inl ⟨0, rfl, rfl⟩)
  rcases hs with ⟨x, rfl, hx⟩ | ⟨x, m, gc, rfl, hx0, hx1, hm, hgc⟩
  · with_reducible refine runS hA hd hQ 60 ?hk ?_
    case hk => exact trivial
    conv => arg 8; cbv
    try simp only [OK]
    refine ⟨fun h1 => ?_, fun h1 => ?_⟩
    rotate_left
    · with_reducible exfalso; (simp (disch := omega) only [hA, OK, emaT, reduceCtorEq, not_true_eq_false, not_false_eq_true] at h1 <;> omega)
    with_reducible refine runK hA hd hQ 60 ?hk ?_
    case hk => exact trivial
    conv => arg 8; cbv
    try simp only [OK]
    have hm2 : (1 : Nat) = (A.ib .add .i64 x 1).toNat := by simp (disch := omega) only [hA, OK, emaT] <;> omega
    refine ⟨by simp (disch := omega) only [hA, OK, emaT] <;> decide, by simp (disch := omega) only [hA, OK, emaT] <;> omega, fun h2 => absurd h2 (by simp (disch := omega) only [hA, OK, emaT] <;> omega), fun h2 => ?_⟩
    with_reducible refine runK hA hd hQ 60 ?hk ?_
    case hk => exact trivial
    conv => arg 8; cbv
    try simp only [OK]
    refine OKs.mask (msk 263 [2, 5, 6, 7, 8, 9, 14, 16, 12, 19, 20]) (OKs.mv [0, 2] [] (by rw [hρ]; rfl) ⟨by simp, by simp [sizeH], by simp⟩ ?_)
    refine ih _ (.inr ⟨A.ib .add .i64 x 1, 1, _, rfl, ?_, ?_, hm2, ?_⟩) (show (300 - A.ib .add .i64 x 1).toNat < (300 - x).toNat from ?_)
    · simp (disch := omega) only [hA, OK, emaT] <;> omega
    · simp (disch := omega) only [hA, OK, emaT] <;> omega
    · rw [mvL_length]
      show (A.tak (A.mul 1 1) (A.drp 0 [.lit (.int .u8 238)])).length = 1
      rw [hA]; rfl
    · simp (disch := omega) only [hA, OK, emaT] <;> omega
  with_reducible refine runS hA hd hQ 60 ?hk ?_
  case hk => exact trivial
  conv => arg 8; cbv
  try simp only [OK]
  refine ⟨fun h1 => ?_, fun h1 => ?_⟩ <;> simp (disch := omega) only [hA, OK, emaT] at h1
  · with_reducible refine runK hA hd hQ 60 ?hk ?_
    case hk => exact trivial
    conv => arg 8; cbv
    try simp only [OK]
    have hm2 : A.add m 1 = (A.ib .add .i64 x 1).toNat := by simp (disch := omega) only [hA, OK, emaT] <;> omega
    refine ⟨by simp (disch := omega) only [hA, OK, emaT] <;> decide, by simp (disch := omega) only [hA, OK, emaT] <;> omega, by simp (disch := omega) only [hA, OK, emaT] <;> omega, ?_⟩
    refine OKs.mask (msk 263 [2, 5, 6, 7, 8, 9, 14, 16, 12, 19, 20]) (OKs.mv [0, 3] [] (by rw [hρ]; rfl) ⟨by simp, by simp [sizeH], by simp⟩ ?_)
    refine ih _ (.inr ⟨A.ib .add .i64 x 1, A.add m 1, _, rfl, ?_, ?_, hm2, ?_⟩) (show (300 - A.ib .add .i64 x 1).toNat < (300 - x).toNat from ?_)
    · simp (disch := omega) only [hA, OK, emaT] <;> omega
    · simp (disch := omega) only [hA, OK, emaT] <;> omega
    · rw [mvL_length]
      show (A.app (A.tak (A.mul m 1) (A.drp 0 gc)) (A.tak (A.mul 1 1) (A.drp 0 [.lit (.int .u8 238)]))).length = A.add m 1
      rw [hA, s_app, s_tak, s_tak, s_drp, s_drp, s_mulN, s_mulN, s_addN]; simp; omega
    · simp (disch := omega) only [hA, OK, emaT] <;> omega
  clear ih
  with_reducible refine runK hA hd hQ 1 ?hk ?_
  case hk => exact trivial
  conv => arg 8; cbv
  try simp only [OK]
  refine OKs.mask (msk 263 [2, 5, 6, 7, 8, 9, 14, 16, 12]) (OKs.mv [0] [] (by rw [hρ]; rfl) ⟨by simp, by simp [sizeH], by simp⟩ ?_)
  exact keep14A hρ hQ how raw b ob hb hob hl hol N c hN hc FN fc hFN hfc S0 hS0 r hr e he rn rc hrn hrc t ht tn tc htn htc hr0


set_option maxRecDepth 100000 in
set_option maxHeartbeats 4000000 in
theorem keep22B {I0 : Imm} {ρ0 : Ren} {w0 : World} {Q : Exit → Act → World → Prop} (hρ : ρ0.length = 0) (hQ : EndsQ [] I0 ρ0 w0 Q (FinR F10.rs yesE)) (how raw : Int) (b ob : List Nat) (hb : AllB b) (hob : AllB ob)
    (hl : b.length ≤ 140737488351232) (hol : ob.length ≤ 140737488351232) (N : Nat) (c : List EV) (hN : N = b.length) (hc : c = bytesE b) (FN : Nat) (fc : List EV) (hFN : FN = N + 9)
    (hfc : fc = bytesE (b ++ [1, 2, 3, 4, 5, 6, 7, 8, 9])) (S0 : ByteArray) (hS0 : S0 = stdA.dec (fc.take FN))
    (r : List Nat) (hr : r = (packL how b).1) (e : Int) (he : e = (packL how b).2) (rn : Nat) (rc : List EV) (hrn : rn = r.length) (hrc : rc = bytesE r) (q1 q2 : List EV) (hq1 : q1 = bytesE r) (hq2 : q2 = bytesE b) :
    OKs Try.prog [] I0 ρ0 w0 Q [.c (seqT 22 F10.body)] ⟨mkT 263 [(2, .ptr 0 0), (5, .isl FN none fc), (6, .lit (.string S0)), (7, .isl N none c), (8, .isl rn none rc), (12, .sl 1 1 0 rn none), (23, .sl 1 2 0 N none)], [.blk [.lit (.int .i64 how), .isl N none c, .lit (.int .i64 raw)], .blk q1, .blk q2]⟩ := by
  obtain ⟨A, hA⟩ : ∃ A, A = stdA := ⟨_, rfl⟩
  have he0 : A.ic .neq 0 0 = false := by rw [hA, s_neq]; rfl
  have sF : A.ss .neq (A.dec (A.tak FN fc)) S0 = false := by rw [hA, hS0, s_tak]; exact ss_neq_self _
  have bF : A.byt FN fc = true := by rw [hA, hfc]; exact byt_ok (hb.app nine_all) (by rw [hFN, hN]; simp)
  have bN : A.byt N c = true := by rw [hA, hc]; exact byt_ok hb (by omega)
  have bN0 : A.byt N (A.drp 0 c) = true := by rw [hA, s_drp, List.drop_zero, hc]; exact byt_ok hb (by omega)
  have sN : A.ss .neq (A.dec (A.tak N (A.drp 0 c))) (A.dec (A.tak N c)) = false := by rw [hA, s_drp, List.drop_zero]; exact ss_neq_self _
  have hra : AllB r := hr ▸ pack_all how b hb
  have hrl : rn ≤ 70000 := by rw [hrn, hr]; exact pack_small how b hb
  have bR : A.byt rn rc = true := by rw [hA, hrc]; exact byt_ok hra (by omega)
  have bR0 : A.byt rn (A.drp 0 rc) = true := by rw [hA, s_drp, List.drop_zero, hrc]; exact byt_ok hra (by omega)
  have sR : A.ss .neq (A.dec (A.tak rn (A.drp 0 rc))) (A.dec (A.tak rn rc)) = false := by rw [hA, s_drp, List.drop_zero]; exact ss_neq_self _
  rw [show q1 = rc by rw [hq1, hrc], show q2 = c by rw [hq2, hc]]
  with_reducible refine runS hA hd hQ 100 ?hk ?_
  case hk => exact trivial
  conv => arg 8; cbv
  try simp only [OK]
  refine ⟨bN0, bN, ?_⟩
  refine ⟨fun hbx => ?_, fun hbx => ?_⟩
  · with_reducible exfalso; exact Bool.noConfusion (hbx.symm.trans (sN))
  with_reducible refine runK hA hd hQ 100 ?hk ?_
  case hk => exact trivial
  conv => arg 8; cbv
  try simp only [OK]
  refine ⟨bR0, bR, ?_⟩
  refine ⟨fun hbx => ?_, fun hbx => ?_⟩
  · with_reducible exfalso; exact Bool.noConfusion (hbx.symm.trans (sR))
  with_reducible refine runK hA hd hQ 100 ?hk ?_
  case hk => exact trivial
  conv => arg 8; cbv
  try simp only [OK]
  refine ⟨bF, ?_⟩
  refine ⟨fun hbx => ?_, fun hbx => ?_⟩
  · with_reducible exfalso; exact Bool.noConfusion (hbx.symm.trans (sF))
  with_reducible refine runK hA hd hQ 100 ?hk ?_
  case hk => exact trivial
  conv => arg 8; cbv
  try simp only [OK]
  refine OKs.mask (msk 263 [2, 7, 12, 227, 228]) ?_
  refine OKs.loop (fun s => ∃ (k : Int) (zc : List EV) (l : List Nat), s = ⟨mkT 263 [(2, .ptr 0 0), (7, .isl N none c), (12, .sl 1 1 0 rn none), (227, .lit (.int .i64 (A.ofn rn))), (228, .lit (.int .i64 k))], [.blk [.lit (.int .i64 how), .isl N none c, .lit (.int .i64 raw)], .blk zc, .blk c]⟩ ∧ 0 ≤ k ∧ k ≤ rn ∧ zc = bytesE l ∧ l.length = rn ∧ AllB l) (fun s => (rn - intN (getT s.t 228)).toNat) (fun s hs ih => ?_)
    ⟨0, rc, r, rfl, by omega, by omega, hrc, hrn.symm, hra⟩
  obtain ⟨k, zc, l, rfl, hk0, hk1, hzc, hzl, hza⟩ := hs
  with_reducible refine runS hA hd hQ 60 ?hk ?_
  case hk => exact trivial
  conv => arg 8; cbv
  try simp only [OK]
  refine ⟨fun h1 => ?_, fun h1 => ?_⟩ <;> simp (disch := omega) only [hA, OK, emaT] at h1
  · with_reducible refine runK hA hd hQ 60 ?hk ?_
    case hk => exact trivial
    conv => arg 8; cbv
    try simp only [OK]
    refine ⟨by simp (disch := omega) only [hA, OK, emaT] <;> omega, by (simp (disch := omega) only [hA, OK, emaT , hzc] <;> omega), ?_⟩
    refine OKs.mask (msk 263 [2, 7, 12, 227, 228]) ?_
    refine ih _ ⟨A.ib .add .i64 k 1, _, l.set k.toNat 0, rfl, ?_, ?_, ?_, by rw [List.length_set]; exact hzl, AllB.set0 hza _⟩ (show (rn - A.ib .add .i64 k 1).toNat < (rn - k).toNat from ?_)
    · simp (disch := omega) only [hA, OK, emaT] <;> omega
    · simp (disch := omega) only [hA, OK, emaT] <;> omega
    · show A.setl zc (A.idx 0 k 1) [.lit (.int .u8 0)] = _
      rw [hzc, hA, s_idx, show 0 + k.toNat * 1 = k.toNat by omega]; exact set_bytes l _ (by omega)
    · simp (disch := omega) only [hA, OK, emaT] <;> omega
  clear ih
  with_reducible refine runK hA hd hQ 1 ?hk ?_
  case hk => exact trivial
  conv => arg 8; cbv
  try simp only [OK]
  refine OKs.mask (msk 263 [2, 7, 12]) (OKs.mv [0] [1] (by rw [hρ]; rfl) ⟨by simp, by simp [sizeH], fun i hi => ?_⟩ ?_)
  · simp at hi; subst hi; exact ⟨_, rfl, by rw [hzc]; exact clL_bytes _⟩
  exact keep24 hρ hQ how raw N c l hza (by omega) rn zc hzl.symm hzc

set_option maxRecDepth 100000 in
set_option maxHeartbeats 4000000 in
theorem keep19B {I0 : Imm} {ρ0 : Ren} {w0 : World} {Q : Exit → Act → World → Prop} (hρ : ρ0.length = 0) (hQ : EndsQ [] I0 ρ0 w0 Q (FinR F10.rs yesE)) (how raw : Int) (b ob : List Nat) (hb : AllB b) (hob : AllB ob)
    (hl : b.length ≤ 140737488351232) (hol : ob.length ≤ 140737488351232) (N : Nat) (c : List EV) (hN : N = b.length) (hc : c = bytesE b) (FN : Nat) (fc : List EV) (hFN : FN = N + 9)
    (hfc : fc = bytesE (b ++ [1, 2, 3, 4, 5, 6, 7, 8, 9])) (S0 : ByteArray) (hS0 : S0 = stdA.dec (fc.take FN))
    (r : List Nat) (hr : r = (packL how b).1) (e : Int) (he : e = (packL how b).2) (rn : Nat) (rc : List EV) (hrn : rn = r.length) (hrc : rc = bytesE r) (hl2 : N ≤ 65536) :
    OKs Try.prog [] I0 ρ0 w0 Q [.c (seqT 19 F10.body)] ⟨mkT 263 [(2, .ptr 0 0), (5, .isl FN none fc), (6, .lit (.string S0)), (7, .isl N none c), (8, .isl rn none rc), (12, .sl 1 1 0 rn none), (21, .sl 1 2 0 N none), (23, .sl 1 3 0 N none)], [.blk [.lit (.int .i64 how), .isl N none c, .lit (.int .i64 raw)], .blk rc, .blk c, .blk c]⟩ := by
  obtain ⟨A, hA⟩ : ∃ A, A = stdA := ⟨_, rfl⟩
  with_reducible refine runS hA hd hQ 60 ?hk ?_
  case hk => exact trivial
  conv => arg 8; cbv
  try simp only [OK]
  refine OKs.mask (msk 263 [2, 5, 6, 7, 8, 12, 21, 23, 189, 190]) ?_
  refine OKs.loop (fun s => ∃ (k : Int) (ac : List EV) (l : List Int), s = ⟨mkT 263 [(2, .ptr 0 0), (5, .isl FN none fc), (6, .lit (.string S0)), (7, .isl N none c), (8, .isl rn none rc), (12, .sl 1 1 0 rn none), (21, .sl 1 2 0 N none), (23, .sl 1 3 0 N none), (189, .lit (.int .i64 (A.ofn N))), (190, .lit (.int .i64 k))], [.blk [.lit (.int .i64 how), .isl N none c, .lit (.int .i64 raw)], .blk rc, .blk ac, .blk c]⟩ ∧ 0 ≤ k ∧ k ≤ N ∧ ac = uE l ∧ l.length = N) (fun s => (N - intN (getT s.t 190)).toNat) (fun s hs ih => ?_)
    ⟨0, c, _, rfl, by omega, by omega, by rw [hc]; exact bytes_u b, by rw [List.length_map]; omega⟩
  obtain ⟨k, ac, l, rfl, hk0, hk1, hac, hal⟩ := hs
  with_reducible refine runS hA hd hQ 60 ?hk ?_
  case hk => exact trivial
  conv => arg 8; cbv
  try simp only [OK]
  refine ⟨fun h1 => ?_, fun h1 => ?_⟩ <;> simp (disch := omega) only [hA, OK, emaT] at h1
  · with_reducible refine runK hA hd hQ 60 ?hk ?_
    case hk => exact trivial
    conv => arg 8; cbv
    try simp only [OK]
    obtain ⟨z, hz⟩ : ∃ z, z = l.getD k.toNat 0 := ⟨_, rfl⟩
    refine ⟨by simp (disch := omega) only [hA, OK, emaT] <;> omega, [.lit (.int .u8 z)], _, rfl, by (simp (disch := omega) only [hA, OK, emaT] <;> (rw [hac, hz]; exact look_u l _ (by omega))), rfl, ?_⟩
    with_reducible refine runK hA hd hQ 60 ?hk ?_
    case hk => exact trivial
    conv => arg 8; cbv
    try simp only [OK]
    refine ⟨by simp (disch := omega) only [hA, OK, emaT] <;> omega, by (simp (disch := omega) only [hA, OK, emaT , hac, uE_len] <;> omega), ?_⟩
    refine OKs.mask (msk 263 [2, 5, 6, 7, 8, 12, 21, 23, 189, 190]) ?_
    refine ih _ ⟨A.ib .add .i64 k 1, _, l.set k.toNat (A.ib .xor .u8 z 85), rfl, ?_, ?_, ?_, by rw [List.length_set]; exact hal⟩ (show (N - A.ib .add .i64 k 1).toNat < (N - k).toNat from ?_)
    · simp (disch := omega) only [hA, OK, emaT] <;> omega
    · simp (disch := omega) only [hA, OK, emaT] <;> omega
    · show A.setl ac (A.idx 0 k 1) [.lit (.int .u8 (A.ib .xor .u8 z 85))] = _
      rw [hac, hA, s_idx, show 0 + k.toNat * 1 = k.toNat by omega]; exact set_u l _ _ (by omega)
    · simp (disch := omega) only [hA, OK, emaT] <;> omega
  clear ih
  with_reducible refine runK hA hd hQ 1 ?hk ?_
  case hk => exact trivial
  conv => arg 8; cbv
  try simp only [OK]
  refine OKs.mask (msk 263 [2, 5, 6, 7, 8, 12, 21, 23]) ?_
  with_reducible refine runS hA hd hQ 60 ?hk ?_
  case hk => exact trivial
  conv => arg 8; cbv
  try simp only [OK]
  refine OKs.mask (msk 263 [2, 5, 6, 7, 8, 12, 23, 19, 26]) ?_
  refine OKs.loop (fun s => ∃ (x : Int) (m : Nat) (gc q1 q2 : List EV), s = ⟨mkT 263 [(2, .ptr 0 0), (5, .isl FN none fc), (6, .lit (.string S0)), (7, .isl N none c), (8, .isl rn none rc), (12, .sl 1 1 0 rn none), (23, .sl 1 3 0 N none), (19, .sl 1 2 0 m none), (26, .lit (.int .i64 x))], [.blk [.lit (.int .i64 how), .isl N none c, .lit (.int .i64 raw)], .blk q1, .blk gc, .blk q2]⟩ ∧ 0 ≤ x ∧ x ≤ 300 ∧ m = N + x.toNat ∧ gc.length = m ∧ q1 = bytesE r ∧ q2 = bytesE b) (fun s => (300 - intN (getT s.t 26)).toNat) (fun s hs ih => ?_)
    ⟨0, N, ac, _, _, rfl, by omega, by omega, by simp, by rw [hac, uE_len]; exact hal, hrc, hc⟩
  clear hac
  obtain ⟨x, m, gc, q1, q2, rfl, hx0, hx1, hm, hgc, hq1, hq2⟩ := hs
  with_reducible refine runS hA hd hQ 60 ?hk ?_
  case hk => exact trivial
  conv => arg 8; cbv
  try simp only [OK]
  refine ⟨fun h1 => ?_, fun h1 => ?_⟩ <;> simp (disch := omega) only [hA, OK, emaT] at h1
  · with_reducible refine runK hA hd hQ 60 ?hk ?_
    case hk => exact trivial
    conv => arg 8; cbv
    try simp only [OK]
    have hm2 : A.add m 1 = N + (A.ib .add .i64 x 1).toNat := by simp (disch := omega) only [hA, OK, emaT] <;> omega
    refine ⟨by simp (disch := omega) only [hA, OK, emaT] <;> decide, by simp (disch := omega) only [hA, OK, emaT] <;> omega, by simp (disch := omega) only [hA, OK, emaT] <;> omega, ?_⟩
    refine OKs.mask (msk 263 [2, 5, 6, 7, 8, 12, 23, 19, 26]) (OKs.mv [0, 1, 5, 3] [] (by rw [hρ]; rfl) ⟨by simp, by simp [sizeH], by simp⟩ ?_)
    refine ih _ ⟨A.ib .add .i64 x 1, A.add m 1, _, _, _, rfl, ?_, ?_, hm2, ?_, (by rw [hq1]; exact mvL_bytes _ _ _), (by rw [hq2]; exact mvL_bytes _ _ _)⟩ (show (300 - A.ib .add .i64 x 1).toNat < (300 - x).toNat from ?_)
    · simp (disch := omega) only [hA, OK, emaT] <;> omega
    · simp (disch := omega) only [hA, OK, emaT] <;> omega
    · rw [mvL_length]
      show (A.app (A.tak (A.mul m 1) (A.drp 0 gc)) (A.tak (A.mul 1 1) (A.drp 0 [.lit (.int .u8 238)]))).length = A.add m 1
      rw [hA, s_app, s_tak, s_tak, s_drp, s_drp, s_mulN, s_mulN, s_addN]; simp; omega
    · simp (disch := omega) only [hA, OK, emaT] <;> omega
  clear ih
  with_reducible refine runK hA hd hQ 1 ?hk ?_
  case hk => exact trivial
  conv => arg 8; cbv
  try simp only [OK]
  refine OKs.mask (msk 263 [2, 5, 6, 7, 8, 12, 23]) (OKs.mv [0, 1, 3] [] (by rw [hρ]; rfl) ⟨by simp, by simp [sizeH], by simp⟩ ?_)
  exact keep22B hρ hQ how raw b ob hb hob hl hol N c hN hc FN fc hFN hfc S0 hS0 r hr e he rn rc hrn hrc _ _ (by rw [hq1]; exact mvL_bytes _ _ _) (by rw [hq2]; exact mvL_bytes _ _ _)

set_option maxRecDepth 100000 in
set_option maxHeartbeats 4000000 in
theorem keep14B {I0 : Imm} {ρ0 : Ren} {w0 : World} {Q : Exit → Act → World → Prop} (hρ : ρ0.length = 0) (hQ : EndsQ [] I0 ρ0 w0 Q (FinR F10.rs yesE)) (how raw : Int) (b ob : List Nat) (hb : AllB b) (hob : AllB ob)
    (hl : b.length ≤ 140737488351232) (hol : ob.length ≤ 140737488351232) (N : Nat) (c : List EV) (hN : N = b.length) (hc : c = bytesE b) (FN : Nat) (fc : List EV) (hFN : FN = N + 9)
    (hfc : fc = bytesE (b ++ [1, 2, 3, 4, 5, 6, 7, 8, 9])) (S0 : ByteArray) (hS0 : S0 = stdA.dec (fc.take FN))
    (r : List Nat) (hr : r = (packL how b).1) (e : Int) (he : e = (packL how b).2) (rn : Nat) (rc : List EV) (hrn : rn = r.length) (hrc : rc = bytesE r)
    (t : List Nat) (ht : AllB t) (tn : Nat) (tc : List EV) (htn : tn = t.length) (htc : tc = bytesE t) (hr0 : r ≠ []) (q1 : List EV) (hq1 : q1 = bytesE r) :
    OKs Try.prog [] I0 ρ0 w0 Q [.c (seqT 14 F10.body)] ⟨mkT 263 [(2, .ptr 0 0), (5, .isl FN none fc), (6, .lit (.string S0)), (7, .isl N none c), (8, .isl rn none rc), (9, .lit (.int .i64 e)), (14, .isl tn none tc), (16, .isl tn none tc), (12, .sl 1 1 0 rn none)], [.blk [.lit (.int .i64 how), .isl N none c, .lit (.int .i64 raw)], .blk q1]⟩ := by
  obtain ⟨A, hA⟩ : ∃ A, A = stdA := ⟨_, rfl⟩
  have he0 : A.ic .neq 0 0 = false := by rw [hA, s_neq]; rfl
  have sF : A.ss .neq (A.dec (A.tak FN fc)) S0 = false := by rw [hA, hS0, s_tak]; exact ss_neq_self _
  have bF : A.byt FN fc = true := by rw [hA, hfc]; exact byt_ok (hb.app nine_all) (by rw [hFN, hN]; simp)
  have bN : A.byt N c = true := by rw [hA, hc]; exact byt_ok hb (by omega)
  have bN0 : A.byt N (A.drp 0 c) = true := by rw [hA, s_drp, List.drop_zero, hc]; exact byt_ok hb (by omega)
  have sN : A.ss .neq (A.dec (A.tak N (A.drp 0 c))) (A.dec (A.tak N c)) = false := by rw [hA, s_drp, List.drop_zero]; exact ss_neq_self _
  have hra : AllB r := hr ▸ pack_all how b hb
  have hrl : rn ≤ 70000 := by rw [hrn, hr]; exact pack_small how b hb
  have bR : A.byt rn rc = true := by rw [hA, hrc]; exact byt_ok hra (by omega)
  have bR0 : A.byt rn (A.drp 0 rc) = true := by rw [hA, s_drp, List.drop_zero, hrc]; exact byt_ok hra (by omega)
  have sR : A.ss .neq (A.dec (A.tak rn (A.drp 0 rc))) (A.dec (A.tak rn rc)) = false := by rw [hA, s_drp, List.drop_zero]; exact ss_neq_self _
  have bT : A.byt tn tc = true := by rw [hA, htc]; exact byt_ok ht (by omega)
  have sT : A.ss .neq (A.dec (A.tak tn tc)) (A.dec (A.tak tn tc)) = false := by rw [hA]; exact ss_neq_self _
  rw [show q1 = rc by rw [hq1, hrc]]
  have he00 : e = 0 := by rw [he]; exact pack_bad how b (hr ▸ hr0)
  have hg := pack_good how b (he ▸ he00)
  have hbne : b ≠ [] := fun h => hr0 (by rw [hr, h, pack_nil])
  have heN : A.ic .neq e 0 = false := by rw [he00]; exact he0
  have tU := unpackP_own how r hra (by omega) (A.ofn N)
  rw [show unL how r (A.ofn N) = (b, 0) by rw [hr]; exact un_pack how ⟨hg.1, hg.2.1⟩ b hb hg.2.2 _ (by rw [hA, s_ofn, hN])] at tU
  have tT := turns_ok how ⟨hg.1, hg.2.1⟩ b hb hg.2.2
  rw [← hr, show strE r = A.dec (A.tak rn rc) by rw [hA, s_tak, hrc, hrn, bytesE_take, List.take_length, dec_bytes], show isB b = .isl N none c by rw [hN, hc]; rfl] at tT
  with_reducible refine runS hA hd hQ 100 ?hk ?_
  case hk => exact trivial
  conv => arg 8; cbv
  try simp only [OK]
  refine ⟨bR0, bR, ?_⟩
  refine ⟨fun hbx => ?_, fun hbx => ?_⟩
  · with_reducible exfalso; exact Bool.noConfusion (hbx.symm.trans (sR))
  with_reducible refine runK hA hd hQ 100 ?hk ?_
  case hk => exact trivial
  conv => arg 8; cbv
  try simp only [OK]
  refine ⟨bT, bT, ?_⟩
  refine ⟨fun hbx => ?_, fun hbx => ?_⟩
  · with_reducible exfalso; exact Bool.noConfusion (hbx.symm.trans (sT))
  with_reducible refine runK hA hd hQ 100 ?hk ?_
  case hk => exact trivial
  conv => arg 8; cbv
  try simp only [OK]
  refine ⟨bF, ?_⟩
  refine ⟨fun hbx => ?_, fun hbx => ?_⟩
  · with_reducible exfalso; exact Bool.noConfusion (hbx.symm.trans (sF))
  with_reducible refine runK hA hd hQ 100 ?hk ?_
  case hk => exact trivial
  conv => arg 8; cbv
  try simp only [OK]
  refine ⟨fun hbx => ?_, fun hbx => ?_⟩
  · with_reducible exfalso; exact Bool.noConfusion (hbx.symm.trans (heN))
  with_reducible refine runK hA hd hQ 100 ?hk ?_
  case hk => exact trivial
  conv => arg 8; cbv
  try simp only [OK]
  refine ⟨goodF_of F14_ok, (Tri.lendO [1] (fun id hid => ?_) (fun w I ρ vs hr => ?_) rfl rfl tU).mono fun v h' hx2 => ?_⟩
  · simp at hid; subst hid
    exact ⟨_, rfl, by rw [hrc]; exact clL_bytes _⟩
  · match vs, hr with
    | [v1, v2, v3], hr =>
      have h2 : Rep w I ρ (.isl rn none (rc.drop 0)) v2 := hr.2.1
      rw [List.drop_zero, hrn, hrc] at h2
      exact ⟨hr.1, h2, hr.2.2.1, trivial⟩
  rcases hx2 with hx2 | ⟨_, hv, hh2⟩
  · exact absurd hx2.1 hbne
  rw [show (b, (0 : Int)).1.length = N from hN.symm] at hv; rw [show bytesE (b, (0 : Int)).1 = c from hc.symm] at hh2
  subst hv; subst hh2
  with_reducible refine runK hA hd hQ 100 ?hk ?_
  case hk => exact trivial
  conv => arg 8; cbv
  try simp only [OK]
  refine ⟨goodF_of F14_ok, (Tri.lendO [1] (fun id hid => ?_) (fun w I ρ vs hr => ?_) rfl rfl tU).mono fun v h' hx2 => ?_⟩
  · simp at hid; subst hid
    exact ⟨_, rfl, by rw [hrc]; exact clL_bytes _⟩
  · match vs, hr with
    | [v1, v2, v3], hr =>
      have h2 : Rep w I ρ (.isl rn none (rc.drop 0)) v2 := hr.2.1
      rw [List.drop_zero, hrn, hrc] at h2
      exact ⟨hr.1, h2, hr.2.2.1, trivial⟩
  rcases hx2 with hx2 | ⟨_, hv, hh2⟩
  · exact absurd hx2.1 hbne
  rw [show (b, (0 : Int)).1.length = N from hN.symm] at hv; rw [show bytesE (b, (0 : Int)).1 = c from hc.symm] at hh2
  subst hv; subst hh2
  with_reducible refine runK hA hd hQ 100 ?hk ?_
  case hk => exact trivial
  conv => arg 8; cbv
  try simp only [OK]
  refine ⟨fun hbx => ?_, fun hbx => ?_⟩
  · with_reducible exfalso; exact Bool.noConfusion (hbx.symm.trans (he0))
  with_reducible refine runK hA hd hQ 100 ?hk ?_
  case hk => exact trivial
  conv => arg 8; cbv
  try simp only [OK]
  refine ⟨bN0, bN, ?_⟩
  refine ⟨fun hbx => ?_, fun hbx => ?_⟩
  · with_reducible exfalso; exact Bool.noConfusion (hbx.symm.trans (sN))
  with_reducible refine runK hA hd hQ 100 ?hk ?_
  case hk => exact trivial
  conv => arg 8; cbv
  try simp only [OK]
  refine ⟨bN0, bN, ?_⟩
  refine ⟨fun hbx => ?_, fun hbx => ?_⟩
  · with_reducible exfalso; exact Bool.noConfusion (hbx.symm.trans (sN))
  with_reducible refine runK hA hd hQ 100 ?hk ?_
  case hk => exact trivial
  conv => arg 8; cbv
  try simp only [OK]
  refine ⟨bR, goodF_of F19_ok, (Tri.clean rfl rfl tT _).mono fun v h' hx => ?_⟩
  obtain ⟨hv, hh⟩ := hx
  subst hv; subst hh
  with_reducible refine runK hA hd hQ 5 ?hk ?_
  case hk => exact trivial
  conv => arg 8; cbv
  try simp only [OK]
  refine OKs.mask (msk 263 [2, 5, 6, 7, 8, 12, 21, 23]) ?_
  exact keep19B hρ hQ how raw b ob hb hob hl hol N c hN hc FN fc hFN hfc S0 hS0 r hr e he rn rc hrn hrc (by omega)

set_option maxRecDepth 100000 in
set_option maxHeartbeats 4000000 in
theorem keep11B {I0 : Imm} {ρ0 : Ren} {w0 : World} {Q : Exit → Act → World → Prop} (hρ : ρ0.length = 0) (hQ : EndsQ [] I0 ρ0 w0 Q (FinR F10.rs yesE)) (how raw : Int) (b ob : List Nat) (hb : AllB b) (hob : AllB ob)
    (hl : b.length ≤ 140737488351232) (hol : ob.length ≤ 140737488351232) (N : Nat) (c : List EV) (hN : N = b.length) (hc : c = bytesE b) (FN : Nat) (fc : List EV) (hFN : FN = N + 9)
    (hfc : fc = bytesE (b ++ [1, 2, 3, 4, 5, 6, 7, 8, 9])) (S0 : ByteArray) (hS0 : S0 = stdA.dec (fc.take FN))
    (r : List Nat) (hr : r = (packL how b).1) (e : Int) (he : e = (packL how b).2) (rn : Nat) (rc : List EV) (hrn : rn = r.length) (hrc : rc = bytesE r)
    (t : List Nat) (ht : AllB t) (tn : Nat) (tc : List EV) (htn : tn = t.length) (htc : tc = bytesE t) (hr0 : r ≠ []) :
    OKs Try.prog [] I0 ρ0 w0 Q [.c (seqT 11 F10.body)] ⟨mkT 263 [(2, .ptr 0 0), (5, .isl FN none fc), (6, .lit (.string S0)), (7, .isl N none c), (8, .isl rn none rc), (9, .lit (.int .i64 e)), (14, .isl tn none tc), (16, .isl tn none tc), (10, .sl 1 1 0 rn none), (12, .sl 1 2 0 rn none)], [.blk [.lit (.int .i64 how), .isl N none c, .lit (.int .i64 raw)], .blk rc, .blk rc]⟩ := by
  obtain ⟨A, hA⟩ : ∃ A, A = stdA := ⟨_, rfl⟩
  have hrl : rn ≤ 70000 := by rw [hrn, hr]; exact pack_small how b hb
  with_reducible refine runS hA hd hQ 60 ?hk ?_
  case hk => exact trivial
  conv => arg 8; cbv
  try simp only [OK]
  refine OKs.mask (msk 263 [2, 5, 6, 7, 8, 9, 14, 16, 10, 12, 106, 107]) ?_
  refine OKs.loop (fun s => ∃ (k : Int) (ac : List EV) (l : List Int), s = ⟨mkT 263 [(2, .ptr 0 0), (5, .isl FN none fc), (6, .lit (.string S0)), (7, .isl N none c), (8, .isl rn none rc), (9, .lit (.int .i64 e)), (14, .isl tn none tc), (16, .isl tn none tc), (10, .sl 1 1 0 rn none), (12, .sl 1 2 0 rn none), (106, .lit (.int .i64 (A.ofn rn))), (107, .lit (.int .i64 k))], [.blk [.lit (.int .i64 how), .isl N none c, .lit (.int .i64 raw)], .blk ac, .blk rc]⟩ ∧ 0 ≤ k ∧ k ≤ rn ∧ ac = uE l ∧ l.length = rn) (fun s => (rn - intN (getT s.t 107)).toNat) (fun s hs ih => ?_)
    ⟨0, rc, _, rfl, by omega, by omega, by rw [hrc]; exact bytes_u r, by rw [List.length_map]; omega⟩
  obtain ⟨k, ac, l, rfl, hk0, hk1, hac, hal⟩ := hs
  with_reducible refine runS hA hd hQ 60 ?hk ?_
  case hk => exact trivial
  conv => arg 8; cbv
  try simp only [OK]
  refine ⟨fun h1 => ?_, fun h1 => ?_⟩ <;> simp (disch := omega) only [hA, OK, emaT] at h1
  · with_reducible refine runK hA hd hQ 60 ?hk ?_
    case hk => exact trivial
    conv => arg 8; cbv
    try simp only [OK]
    obtain ⟨z, hz⟩ : ∃ z, z = l.getD k.toNat 0 := ⟨_, rfl⟩
    refine ⟨by simp (disch := omega) only [hA, OK, emaT] <;> omega, [.lit (.int .u8 z)], _, rfl, by (simp (disch := omega) only [hA, OK, emaT] <;> (rw [hac, hz]; exact look_u l _ (by omega))), rfl, ?_⟩
    with_reducible refine runK hA hd hQ 60 ?hk ?_
    case hk => exact trivial
    conv => arg 8; cbv
    try simp only [OK]
    refine ⟨by simp (disch := omega) only [hA, OK, emaT] <;> omega, by (simp (disch := omega) only [hA, OK, emaT , hac, uE_len] <;> omega), ?_⟩
    refine OKs.mask (msk 263 [2, 5, 6, 7, 8, 9, 14, 16, 10, 12, 106, 107]) ?_
    refine ih _ ⟨A.ib .add .i64 k 1, _, l.set k.toNat (A.ib .xor .u8 z 85), rfl, ?_, ?_, ?_, by rw [List.length_set]; exact hal⟩ (show (rn - A.ib .add .i64 k 1).toNat < (rn - k).toNat from ?_)
    · simp (disch := omega) only [hA, OK, emaT] <;> omega
    · simp (disch := omega) only [hA, OK, emaT] <;> omega
    · show A.setl ac (A.idx 0 k 1) [.lit (.int .u8 (A.ib .xor .u8 z 85))] = _
      rw [hac, hA, s_idx, show 0 + k.toNat * 1 = k.toNat by omega]; exact set_u l _ _ (by omega)
    · simp (disch := omega) only [hA, OK, emaT] <;> omega
  clear ih
  with_reducible refine runK hA hd hQ 1 ?hk ?_
  case hk => exact trivial
  conv => arg 8; cbv
  try simp only [OK]
  refine OKs.mask (msk 263 [2, 5, 6, 7, 8, 9, 14, 16, 10, 12]) ?_
  with_reducible refine runS hA hd hQ 60 ?hk ?_
  case hk => exact trivial
  conv => arg 8; cbv
  try simp only [OK]
  refine OKs.mask (msk 263 [2, 5, 6, 7, 8, 9, 14, 16, 12, 19, 20]) ?_
  refine OKs.loop (fun s => ∃ (x : Int) (m : Nat) (gc q1 : List EV), s = ⟨mkT 263 [(2, .ptr 0 0), (5, .isl FN none fc), (6, .lit (.string S0)), (7, .isl N none c), (8, .isl rn none rc), (9, .lit (.int .i64 e)), (14, .isl tn none tc), (16, .isl tn none tc), (12, .sl 1 2 0 rn none), (19, .sl 1 1 0 m none), (20, .lit (.int .i64 x))], [.blk [.lit (.int .i64 how), .isl N none c, .lit (.int .i64 raw)], .blk gc, .blk q1]⟩ ∧ 0 ≤ x ∧ x ≤ 300 ∧ m = rn + x.toNat ∧ gc.length = m ∧ q1 = bytesE r) (fun s => (300 - intN (getT s.t 20)).toNat) (fun s hs ih => ?_)
    ⟨0, rn, ac, _, rfl, by omega, by omega, by simp, by rw [hac, uE_len]; exact hal, hrc⟩
  clear hac
  obtain ⟨x, m, gc, q1, rfl, hx0, hx1, hm, hgc, hq1⟩ := hs
  with_reducible refine runS hA hd hQ 60 ?hk ?_
  case hk => exact trivial
  conv => arg 8; cbv
  try simp only [OK]
  refine ⟨fun h1 => ?_, fun h1 => ?_⟩ <;> simp (disch := omega) only [hA, OK, emaT] at h1
  · with_reducible refine runK hA hd hQ 60 ?hk ?_
    case hk => exact trivial
    conv => arg 8; cbv
    try simp only [OK]
    have hm2 : A.add m 1 = rn + (A.ib .add .i64 x 1).toNat := by simp (disch := omega) only [hA, OK, emaT] <;> omega
    refine ⟨by simp (disch := omega) only [hA, OK, emaT] <;> decide, by simp (disch := omega) only [hA, OK, emaT] <;> omega, by simp (disch := omega) only [hA, OK, emaT] <;> omega, ?_⟩
    refine OKs.mask (msk 263 [2, 5, 6, 7, 8, 9, 14, 16, 12, 19, 20]) (OKs.mv [0, 4, 2] [] (by rw [hρ]; rfl) ⟨by simp, by simp [sizeH], by simp⟩ ?_)
    refine ih _ ⟨A.ib .add .i64 x 1, A.add m 1, _, _, rfl, ?_, ?_, hm2, ?_, (by rw [hq1]; exact mvL_bytes _ _ _)⟩ (show (300 - A.ib .add .i64 x 1).toNat < (300 - x).toNat from ?_)
    · simp (disch := omega) only [hA, OK, emaT] <;> omega
    · simp (disch := omega) only [hA, OK, emaT] <;> omega
    · rw [mvL_length]
      show (A.app (A.tak (A.mul m 1) (A.drp 0 gc)) (A.tak (A.mul 1 1) (A.drp 0 [.lit (.int .u8 238)]))).length = A.add m 1
      rw [hA, s_app, s_tak, s_tak, s_drp, s_drp, s_mulN, s_mulN, s_addN]; simp; omega
    · simp (disch := omega) only [hA, OK, emaT] <;> omega
  clear ih
  with_reducible refine runK hA hd hQ 1 ?hk ?_
  case hk => exact trivial
  conv => arg 8; cbv
  try simp only [OK]
  refine OKs.mask (msk 263 [2, 5, 6, 7, 8, 9, 14, 16, 12]) (OKs.mv [0, 2] [] (by rw [hρ]; rfl) ⟨by simp, by simp [sizeH], by simp⟩ ?_)
  exact keep14B hρ hQ how raw b ob hb hob hl hol N c hN hc FN fc hFN hfc S0 hS0 r hr e he rn rc hrn hrc t ht tn tc htn htc hr0 _ (by rw [hq1]; exact mvL_bytes _ _ _)

end Go.Proofs.Ytplibngmgebigaa.Press
