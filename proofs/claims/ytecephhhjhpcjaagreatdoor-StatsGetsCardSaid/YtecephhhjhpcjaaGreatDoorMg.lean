/- YtecephhhjhpcjaaGreatDoorMg: the texts Sg6, Sg7, Sg8, Sg9, Sh1, Sh2, brought together. No conditions. -/
import Derived.Test.YtecephhhjhpcjaaGreatDoorMf
section
set_option linter.unusedVariables false
set_option linter.unusedSimpArgs false
-- emaX: s_bat
namespace Go.Proofs.YtecephhhjhpcjaaGreatDoor.Stats
open Go Go.Proofs.YtecephhhjhpcjaaGreatDoor Go.Proofs.YtecephhhjhpcjaaGreatDoor.Em
theorem wr64_range (n : Int) : i64r (stdA.wr .i64 n) := by
  unfold i64r
  show -9223372036854775808 ≤ IntKind.i64.wrap n ∧ IntKind.i64.wrap n ≤ 9223372036854775807
  simp only [IntKind.wrap, IntKind.signed, IntKind.bits]
  simp
  split <;> omega
theorem vp0_ok : vp0.ok := ⟨⟨by show (-9223372036854775808 : Int) ≤ 0; omega, by show (0 : Int) ≤ 9223372036854775807; omega⟩, Nat.zero_le _, Nat.zero_le _⟩
theorem rdC_bad {s : Rd} {N : Nat} {c : List EV} {b : Bool} (h : rdC s = [.isl N none c, .lit (.bool b)]) : s.2 = b := by
  simp only [rdC, List.cons.injEq, EV.lit.injEq, Value.bool.injEq] at h; exact h.2.1
theorem strE_size (l : List Nat) : (strE l).size = l.length := by
  show (l.map UInt8.ofNat).toArray.size = _
  simp
abbrev TkOk (tk : Rd → Nat → List Nat × Rd) : Prop := ∀ s n, okR s → AllB (tk s n).1 ∧ (tk s n).1.length = n ∧ okR (tk s n).2
theorem bdG_vp {tk : Rd → Nat → List Nat × Rd} (htk : TkOk tk) {k : Int} {s : Rd} (h : okR s) : (bdG tk k s).1.ok := by
  unfold bdG
  split
  · have h1 := htk s 1 h
    have h2 := htk (tk s 1).2 (leV (tk s 1).1) h1.2.2
    have h3 := leV1 h1.1 h1.2.1
    exact ⟨vp0_ok.1, by simp only [strE_size]; omega, by simp⟩
  · exact ⟨wr64_range _, Nat.zero_le _, by simp⟩
theorem itG_sok {tk : Rd → Nat → List Nat × Rd} (htk : TkOk tk) {k : Int} {s : Rd} (h : okR s) : (itG tk k s).1.ok ∧ noL (itG tk k s).1 := by
  have h1 := htk s 4 h
  have h2 := htk _ 4 h1.2.2
  have h3 := htk _ 1 h2.2.2
  have r4 : ∀ l : List Nat, AllB l → l.length = 4 → i64r (leV l : Nat) := fun l ha hl => by
    have := leV_lt l ha
    rw [hl] at this
    have h3 : (256 : Nat) ^ 4 = 4294967296 := by decide
    exact ⟨by omega, by omega⟩
  unfold itG
  simp only
  split
  · exact ⟨⟨r4 _ h1.1 h1.2.1, r4 _ h2.1 h2.2.1, bdG_vp htk h3.2.2, bdG_vp htk (bdG_ok htk h3.2.2)⟩, fun h => by cases h⟩
  · exact ⟨⟨r4 _ h1.1 h1.2.1, r4 _ h2.1 h2.2.1, vp0_ok, vp0_ok⟩, fun _ => ⟨rfl, rfl⟩⟩
theorem okSs_snoc : ∀ {l : List StP} {s : StP}, okSs l → s.ok → okSs (l ++ [s])
  | [], s, _, h => ⟨h, trivial⟩
  | x :: l, s, h, h2 => ⟨h.1, okSs_snoc h.2 h2⟩
theorem rdG_sok {tk : Rd → Nat → List Nat × Rd} (htk : TkOk tk) {fs B} (hB : okR (B, false)) : ∀ i, okSs (rdG tk fs B i).1 ∧ ∀ s ∈ (rdG tk fs B i).1, noL s
  | 0 => ⟨trivial, fun s hs => by cases hs⟩
  | i + 1 => by
    obtain ⟨h1, h2⟩ := rdG_sok htk hB i
    obtain ⟨h3, h4⟩ := itG_sok htk (k := ck (fs.getD i fld0)) (rdG_ok htk hB (fs := fs) i)
    refine ⟨okSs_snoc h1 h3, fun s hs => ?_⟩
    rcases List.mem_append.1 hs with hs | hs
    · exact h2 s hs
    · simp at hs; subst hs; exact h4
open Classical in
noncomputable def getP (fs : List Fld) (ns : List Nt) (B : List Nat) : List StP × Int :=
  if ¬ mayS fs ns then ([], 5) else
  let r := rdG tkP fs B fs.length
  if r.2.2 = true ∨ fitE fs ns r.1 ≠ 0 ∨ putN fs r.1 r.1.length ≠ B then ([], 8) else (r.1, 0)
theorem itG_yes {tk : Rd → Nat → List Nat × Rd} {K : Int} {s : Rd} {R1 R2 R3 : List Nat × Rd} (h1 : R1 = tk s 4) (h2 : R2 = tk R1.2 4) (h3 : R3 = tk R2.2 1) (hx : leV R3.1 = 1) :
    itG tk K s = (⟨(leV R1.1 : Nat), (leV R2.1 : Nat), true, (bdG tk K R3.2).1, (bdG tk K (bdG tk K R3.2).2).1⟩, leV R3.1, (bdG tk K (bdG tk K R3.2).2).2) := by
  subst h1; subst h2; subst h3
  unfold itG
  simp only
  rw [if_pos hx]
theorem itG_no {tk : Rd → Nat → List Nat × Rd} {K : Int} {s : Rd} {R1 R2 R3 : List Nat × Rd} (h1 : R1 = tk s 4) (h2 : R2 = tk R1.2 4) (h3 : R3 = tk R2.2 1) (hx : leV R3.1 ≠ 1) :
    itG tk K s = (⟨(leV R1.1 : Nat), (leV R2.1 : Nat), false, vp0, vp0⟩, leV R3.1, R3.2) := by
  subst h1; subst h2; subst h3
  unfold itG
  simp only
  rw [if_neg hx]
theorem rsC_yes (z1 z2 x1 x2 : Int) (t1 t2 : ByteArray) {b : Bool} (hb : b = true) : [EV.lit (.int .i64 z1), .lit (.int .i64 z2), .sb b, .lit (.bool false), .lit (.int .i64 x1), .lit (.string t1), .isl 0 none [], .lit (.bool false), .lit (.int .i64 x2), .lit (.string t2), .isl 0 none []] = rsC ⟨z1, z2, true, ⟨false, x1, t1, 0, []⟩, ⟨false, x2, t2, 0, []⟩⟩ := by subst hb; rfl
theorem rsC_no (z1 z2 : Int) {b : Bool} (hb : b = false) : [EV.lit (.int .i64 z1), .lit (.int .i64 z2), .sb b, .lit (.bool false), .lit (.int .i64 0), .lit (.string ⟨#[]⟩), .lit (.slice none 0 0), .lit (.bool false), .lit (.int .i64 0), .lit (.string ⟨#[]⟩), .lit (.slice none 0 0)] = rsC ⟨z1, z2, false, vp0, vp0⟩ := by subst hb; rfl
theorem app_rs {l : List StP} {M : Nat} {e x : List EV} {s : StP} (hM : M = l.length) (he : e = rsCs l) (hx : x = rsC s) :
    stdA.app (stdA.tak (stdA.mul M 11) (stdA.drp 0 e)) (stdA.tak (stdA.mul 1 11) (stdA.drp 0 x)) = rsCs (l ++ [s]) := by
  subst hM; subst he; subst hx
  rw [rsCs_app]
  simp only [s_app, s_tak, s_mulN, s_drp, List.drop_zero, rsCs, List.append_nil]
  rw [List.take_of_length_le (by rw [rsCs_len]; omega), List.take_of_length_le (by rw [rsC_len]; omega)]
theorem one_rs {x : List EV} {s : StP} (hx : x = rsC s) : stdA.tak (stdA.mul 1 11) (stdA.drp 0 x) = rsCs [s] := by
  subst hx
  simp only [s_tak, s_mulN, s_drp, List.drop_zero, rsCs, List.append_nil]
  rw [List.take_of_length_le (by rw [rsC_len]; omega)]
set_option maxRecDepth 100000 in
set_option maxHeartbeats 16000000 in
theorem get_pre (fs : List Fld) (ns : List Nt) (hfs : fs.length ≤ 140737488351232) (hns : ns.length ≤ 140737488351232) (hok : okFs fs) (hnt : ∀ x ∈ ns, x.1.size ≤ 140737488351232 ∧ x.2.size ≤ 140737488351232) (B : List Nat) (hB : okR (B, false)) :
    Tri Tryz.prog gs 12 [.agg [.isl fs.length none (cellsFs fs), .isl ns.length none (cellsNts ns)], isB B] [] fun v h' => ∃ n c, v = .tup [.isl n none c, .lit (.int .i64 (getP fs ns B).2)] ∧ n = (getP fs ns B).1.length ∧ c = cellsSs (getP fs ns B).1 := by
  refine Tri.up (R := fun v h' => ∃ ov n c, v = .tup [ov, .lit (.int .i64 (getP fs ns B).2)] ∧ Up ov (.isl n none c) ∧ n = (getP fs ns B).1.length ∧ c = cellsSs (getP fs ns B).1) ?_ fun v h' ⟨ov, n, c, e1, e2, e3, e4⟩ => ⟨_, ⟨n, c, rfl, e3, e4⟩, by rw [e1]; exact Up.tup2 e2 (Up.refl _)⟩
  refine Tri_of F12_ok fun I0 ρ0 w0 Q hρ hQ => ?_
  obtain ⟨A, hA⟩ : ∃ A, A = stdA := ⟨_, rfl⟩
  have hck := check_ok fs ns hfs hns hok hnt
  obtain ⟨G0, hG0⟩ : ∃ G0, G0 = getP fs ns B := ⟨_, rfl⟩
  rw [← hG0] at hQ
  have hfg := fs_get fs
  obtain ⟨bn, bc, hbi, hbn, hbc⟩ := isB_open B
  obtain ⟨fn, hfn⟩ : ∃ n, n = fs.length := ⟨_, rfl⟩
  obtain ⟨fc, hfc⟩ : ∃ n, n = cellsFs fs := ⟨_, rfl⟩
  obtain ⟨nn, hnn⟩ : ∃ n, n = ns.length := ⟨_, rfl⟩
  obtain ⟨nc, hnc⟩ : ∃ n, n = cellsNts ns := ⟨_, rfl⟩
  rw [← hfn, ← hfc, ← hnn, ← hnc] at hck
  rw [← hfn, ← hfc, ← hnn, ← hnc, hbi]
  with_reducible refine runS hA hd hQ 200 ?hk ?_
  case hk => exact trivial
  conv => arg 9; cbv
  try simp only [OK]
  repeat' first | (with_reducible refine OKK.loop ?_) | (with_reducible refine OKK.again ?_) | ((with_reducible refine ⟨fun hbr => ?_, fun hbr => ?_⟩) <;> (try simp (disch := omega) only [hA, OK, emaU, Int.reduceToNat, s_bat, reduceCtorEq] at hbr) <;> (try (with_reducible exfalso; omega))) | ((with_reducible refine runK hA hd hQ 200 ?hk ?_); (case hk => exact trivial); (conv => arg 9; cbv); (try simp only [OK])) | ((with_reducible refine need_of ?hn ?_); (case hn => ((simp (disch := omega) only [hA, OK, emaU, Int.reduceToNat, s_bat]) <;> omega))) | fail
  refine CallOK.of (goodF_of F31_ok) (Tri.mono (hck _) fun v hh hx => ?_)
  obtain ⟨⟨e, at', pn, pc, hv, he⟩, hh'⟩ := hx
  subst hv; subst hh'
  with_reducible refine runK hA hd hQ 1 ?hk ?_
  case hk => exact trivial
  conv => arg 9; cbv
  try simp only [OK]
  repeat' first | (with_reducible refine OKK.loop ?_) | (with_reducible refine OKK.again ?_) | ((with_reducible refine ⟨fun hbr => ?_, fun hbr => ?_⟩) <;> (try simp (disch := omega) only [hA, OK, emaU, Int.reduceToNat, s_bat, reduceCtorEq] at hbr) <;> (try (with_reducible exfalso; omega))) | ((with_reducible refine runK hA hd hQ 200 ?hk ?_); (case hk => exact trivial); (conv => arg 9; cbv); (try simp only [OK])) | ((with_reducible refine need_of ?hn ?_); (case hn => ((simp (disch := omega) only [hA, OK, emaU, Int.reduceToNat, s_bat]) <;> omega))) | fail
  · have h5 : G0 = ([], 5) := by rw [hG0]; unfold getP; rw [if_pos fun hm => hbr (he.2 hm)]
    exact ⟨_, rfl, .lit (.slice none 0 0), 0, [], by rw [h5]; rfl, Up.nil _, by rw [h5]; rfl, by rw [h5]; rfl⟩
  have hms : mayS fs ns := he.1 (by omega)
  have hall := mayS_all hms
  have hfl : fs.length ≤ 32 := hms.1
  have hG1 : (rdG tkP fs B fs.length).2.2 = true ∨ fitE fs ns (rdG tkP fs B fs.length).1 ≠ 0 ∨ putN fs (rdG tkP fs B fs.length).1 (rdG tkP fs B fs.length).1.length ≠ B → G0 = ([], 8) := fun h => by
    rw [hG0]; unfold getP; rw [if_neg (not_not_intro hms)]; exact if_pos h
  have hG2 : ¬ ((rdG tkP fs B fs.length).2.2 = true ∨ fitE fs ns (rdG tkP fs B fs.length).1 ≠ 0 ∨ putN fs (rdG tkP fs B fs.length).1 (rdG tkP fs B fs.length).1.length ≠ B) → G0 = ((rdG tkP fs B fs.length).1, 0) := fun h => by
    rw [hG0]; unfold getP; rw [if_neg (not_not_intro hms)]; exact if_neg h
  clear hG0
  refine OKs.mask (msk 78 [1, 2, 6, 7, 22, 23, 24]) ?_
  refine OKs.loopN (fun m st => ∃ (i : Int) (N : Nat) (c : List EV) (bd : Bool) (M : Nat) (e : List EV), ((i = 0 ∧ st = ⟨mkT 78 [(1, .isl bn none bc), (2, .ptr 0 0), (6, .ptr 1 0), (7, .lit (.slice none 0 0)), (22, .isl fn none fc), (23, .lit (.int .i64 (A.ofn fn))), (24, .lit (.int .i64 i))], [.blk [.isl fn none fc, .isl nn none nc], .blk [.isl N none c, .lit (.bool bd)]]⟩) ∨
      (1 ≤ i ∧ st = ⟨mkT 78 [(1, .isl bn none bc), (2, .ptr 0 0), (6, .ptr 1 0), (7, .sl 11 2 0 M none), (22, .isl fn none fc), (23, .lit (.int .i64 (A.ofn fn))), (24, .lit (.int .i64 i))], [.blk [.isl fn none fc, .isl nn none nc], .blk [.isl N none c, .lit (.bool bd)], .blk e]⟩)) ∧ m = (fn - i).toNat ∧ 0 ≤ i ∧ i ≤ fn ∧
      rdC (rdG tkP fs B i.toNat).2 = [.isl N none c, .lit (.bool bd)] ∧ M = (rdG tkP fs B i.toNat).1.length ∧ e = rsCs (rdG tkP fs B i.toNat).1)
    (fun m st hs' ih => ?_) ⟨0, bn, bc, false, 0, [], .inl ⟨rfl, rfl⟩, rfl, by omega, by omega, by rw [← hbi]; rfl, rfl, rfl⟩
  obtain ⟨i, N, c, bd, M, e', hst, hm, hi1, hi2, hrd, hM, he'⟩ := hs'
  obtain ⟨f, hf⟩ : ∃ f, f = fs.getD i.toNat fld0 := ⟨_, rfl⟩
  have hpl := fun h : i < fn => plain_ck f (by rw [hf]; exact allFs_get fs _ hall (by omega))
  have hLf : i < fn → List.take 7 (List.drop (A.idx 0 i 7) fc) = cellsF f := fun h => by rw [hA, s_idx, Nat.zero_add, hfc, hfg i.toNat (by omega), ← hf]
  have hnext : rdG tkP fs B (i.toNat + 1) = ((rdG tkP fs B i.toNat).1 ++ [(itG tkP (ck f) (rdG tkP fs B i.toNat).2).1], (itG tkP (ck f) (rdG tkP fs B i.toNat).2).2.2) := by rw [rdG, ← hf]
  have hrl := rdG_len tkP fs B i.toNat
  have hro := rdG_ok (fun s n h => tkP_ok h n) (fs := fs) hB i.toNat
  rw [cellsF_eq] at hLf hpl
  generalize cellsFs f.kids = kc, f.kids.length = kn, f.nm = nm, f.nul = nul, f.kind = k, f.width = w, f.id = id, f.idx = x at hLf hpl
  generalize ck f = K at hpl hnext
  have hlast : ¬ i < fn → i.toNat = fs.length := fun h => by omega
  obtain ⟨S0, hS0⟩ : ∃ S0, S0 = rdG tkP fs B i.toNat := ⟨_, rfl⟩
  rw [← hS0] at hrd hM he' hnext hrl hro
  have hel : e'.length = M * 11 := by rw [he', rsCs_len, hM]; omega
  have hS00 : i = 0 → S0.1 = [] := fun h => List.length_eq_zero_iff.1 (by omega)
  clear hf
  rcases hst with ⟨hi0, rfl⟩ | ⟨hi0, rfl⟩
  all_goals
    with_reducible refine runS hA hd hQ 200 ?hk ?_
    case hk => exact trivial
    conv => arg 9; cbv
    try simp only [OK]
    refine ⟨fun hbr => ?_, fun hbr => ?_⟩ <;> simp (disch := omega) only [hA, OK, emaU, Int.reduceToNat, s_bat] at hbr
  rotate_left 1
  · with_reducible refine runK hA hd hQ 1 ?hk ?_
    case hk => exact trivial
    conv => arg 9; cbv
    try simp only [OK]
    repeat' first | (with_reducible refine OKK.loop ?_) | (with_reducible refine OKK.again ?_) | (with_reducible refine OKK.stopS (some 58) ?_) | (with_reducible refine OKK.stopO (some 58) ?_) | ((with_reducible refine ⟨fun hbr => ?_, fun hbr => ?_⟩) <;> (try simp (disch := omega) only [hA, OK, emaU, Int.reduceToNat, s_bat, reduceCtorEq] at hbr) <;> (try (with_reducible exfalso; omega))) | ((with_reducible refine runK hA hd hQ 1 ?hk ?_); (case hk => exact trivial); (conv => arg 9; cbv); (try simp only [OK])) | ((with_reducible refine need_of ?hn ?_); (case hn => ((simp (disch := omega) only [hA, OK, emaU, Int.reduceToNat, s_bat]) <;> omega))) | fail
    have hS1 : S0 = rdG tkP fs B fs.length := by rw [hS0, hlast (by omega)]
    have hsok := rdG_sok (fun s n h => tkP_ok h n) (fs := fs) hB i.toNat
    rw [← hS0] at hsok
    obtain ⟨L, hLL⟩ : ∃ L, L = S0.1 := ⟨_, rfl⟩
    have hbd := rdC_bad hrd
    rw [← hS1] at hG1 hG2
    rw [← hLL] at hM he' hsok hG1 hG2 hrl
    rw [hbd] at hG1 hG2
    have hput := put_ok fs ns L hfs hns hok hnt (by omega) hsok.1
    obtain ⟨C, hC⟩ : ∃ C, C = cellsSs L := ⟨_, rfl⟩
    obtain ⟨E, hE⟩ : ∃ E, E = fitE fs ns L := ⟨_, rfl⟩
    have hpB : E = 0 → putB fs ns L = putN fs L L.length := fun h => by unfold putB; rw [if_pos (by omega)]
    have heq := equalB_ok (putB fs ns L) B (by
      unfold putB
      split
      · rename_i h0
        have := putN_len fs L L.length (fitE_inv h0).2.2
        omega
      · simp)
    rw [hbi] at heq
    rw [← hM, ← hC, ← hE, ← hfn, ← hfc, ← hnn, ← hnc] at hput
    rw [← hE] at hG1 hG2
    generalize putB fs ns L = PB at hput heq hpB
    obtain ⟨pn2, pc2, hpi, _, _⟩ := isB_open PB
    rw [hpi] at hput heq
    clear hS1 hS0 hnext
    refine OKs.mask (msk 78 [1, 2, 6, 7]) ?_
    refine OKs.up 7 (.isl M none C) ?_ ?_
    · rw [show M = 0 by omega]; exact Up.nil _
    with_reducible refine runS hA hd hQ 200 ?hk ?_
    case hk => exact trivial
    conv => arg 9; cbv
    try simp only [OK]
    repeat' first | (with_reducible refine OKK.loop ?_) | (with_reducible refine OKK.again ?_) | ((with_reducible refine ⟨fun hbr => ?_, fun hbr => ?_⟩) <;> (try simp (disch := omega) only [hA, OK, emaU, Int.reduceToNat, s_bat, reduceCtorEq] at hbr) <;> (try (with_reducible exfalso; omega))) | ((with_reducible refine runK hA hd hQ 200 ?hk ?_); (case hk => exact trivial); (conv => arg 9; cbv); (try simp only [OK])) | ((with_reducible refine need_of ?hn ?_); (case hn => ((simp (disch := omega) only [hA, OK, emaU, Int.reduceToNat, s_bat]) <;> omega))) | fail
    refine CallOK.of (goodF_of F10_ok) (Tri.mono (hput _) fun v hh hx => ?_)
    obtain ⟨hv, hh'⟩ := hx
    subst hv; subst hh'
    with_reducible refine runK hA hd hQ 1 ?hk ?_
    case hk => exact trivial
    conv => arg 9; cbv
    try simp only [OK]
    cases bd
    all_goals
      repeat' first | (with_reducible refine OKK.loop ?_) | (with_reducible refine OKK.again ?_) | ((with_reducible refine ⟨fun hbr => ?_, fun hbr => ?_⟩) <;> (try simp (disch := omega) only [hA, OK, emaU, Int.reduceToNat, s_bat, reduceCtorEq] at hbr) <;> (try (with_reducible exfalso; omega))) | ((with_reducible refine runK hA hd hQ 200 ?hk ?_); (case hk => exact trivial); (conv => arg 9; cbv); (try simp only [OK])) | ((with_reducible refine need_of ?hn ?_); (case hn => ((simp (disch := omega) only [hA, OK, emaU, Int.reduceToNat, s_bat]) <;> omega))) | (refine CallOK.of (goodF_of F34_ok) (Tri.mono (heq _) fun v hh hx => ?_); (obtain ⟨⟨b, hv, hb⟩, he⟩ := hx; subst hv; subst he; cases b <;> simp (disch := omega) only [hA, OK, emaU, Int.reduceToNat, s_bat, Bool.false_eq_true, true_iff, false_iff, eq_self, reduceCtorEq] at hb) <;> (try (with_reducible exfalso; omega))) | fail
    all_goals first
      | (have h8 := hG1 (.inl rfl); exact ⟨_, rfl, .lit (.slice none 0 0), 0, [], by rw [h8]; rfl, Up.nil _, by rw [h8]; rfl, by rw [h8]; rfl⟩)
      | (have h8 := hG1 (.inr (.inl (by assumption))); exact ⟨_, rfl, .lit (.slice none 0 0), 0, [], by rw [h8]; rfl, Up.nil _, by rw [h8]; rfl, by rw [h8]; rfl⟩)
      | (have h8 := hG1 (.inr (.inr (by rw [← hpB (by omega)]; assumption))); exact ⟨_, rfl, .lit (.slice none 0 0), 0, [], by rw [h8]; rfl, Up.nil _, by rw [h8]; rfl, by rw [h8]; rfl⟩)
      | (have h0 := hG2 (fun h => h.elim (fun h => nomatch h) fun h => h.elim (fun h => h (by omega)) fun h => h (by rw [← hpB (by omega)]; assumption)); exact ⟨_, rfl, .isl M none C, M, C, by rw [h0]; rfl, Up.refl _, by rw [h0]; exact hM, by rw [h0]; exact hC⟩)
  rotate_left 1
  · with_reducible refine runK hA hd hQ 1 ?hk ?_
    case hk => exact trivial
    conv => arg 9; cbv
    try simp only [OK]
    repeat' first | (with_reducible refine OKK.loop ?_) | (with_reducible refine OKK.again ?_) | (with_reducible refine OKK.stopS (some 58) ?_) | (with_reducible refine OKK.stopO (some 58) ?_) | ((with_reducible refine ⟨fun hbr => ?_, fun hbr => ?_⟩) <;> (try simp (disch := omega) only [hA, OK, emaU, Int.reduceToNat, s_bat, reduceCtorEq] at hbr) <;> (try (with_reducible exfalso; omega))) | ((with_reducible refine runK hA hd hQ 1 ?hk ?_); (case hk => exact trivial); (conv => arg 9; cbv); (try simp only [OK])) | ((with_reducible refine need_of ?hn ?_); (case hn => ((simp (disch := omega) only [hA, OK, emaU, Int.reduceToNat, s_bat]) <;> omega))) | fail
    have hS1 : S0 = rdG tkP fs B fs.length := by rw [hS0, hlast (by omega)]
    have hsok := rdG_sok (fun s n h => tkP_ok h n) (fs := fs) hB i.toNat
    rw [← hS0] at hsok
    obtain ⟨L, hLL⟩ : ∃ L, L = S0.1 := ⟨_, rfl⟩
    have hbd := rdC_bad hrd
    rw [← hS1] at hG1 hG2
    rw [← hLL] at hM he' hsok hG1 hG2 hrl
    rw [hbd] at hG1 hG2
    have hput := put_ok fs ns L hfs hns hok hnt (by omega) hsok.1
    obtain ⟨C, hC⟩ : ∃ C, C = cellsSs L := ⟨_, rfl⟩
    obtain ⟨E, hE⟩ : ∃ E, E = fitE fs ns L := ⟨_, rfl⟩
    have hpB : E = 0 → putB fs ns L = putN fs L L.length := fun h => by unfold putB; rw [if_pos (by omega)]
    have heq := equalB_ok (putB fs ns L) B (by
      unfold putB
      split
      · rename_i h0
        have := putN_len fs L L.length (fitE_inv h0).2.2
        omega
      · simp)
    rw [hbi] at heq
    rw [← hM, ← hC, ← hE, ← hfn, ← hfc, ← hnn, ← hnc] at hput
    rw [← hE] at hG1 hG2
    generalize putB fs ns L = PB at hput heq hpB
    obtain ⟨pn2, pc2, hpi, _, _⟩ := isB_open PB
    rw [hpi] at hput heq
    clear hS1 hS0 hnext
    refine OKs.mask (msk 78 [1, 2, 6, 7]) ?_
    refine OKs.mv [0, 1] [2] (by rw [hρ]; rfl) ⟨by decide, by simp [sizeH], fun id hid => by simp at hid; subst hid; exact ⟨_, rfl, by rw [he']; exact clRs _⟩⟩ ?_
    refine OKs.up 7 (.isl M none C) ?_ ?_
    · show Up (.isl M none (List.drop 0 e')) _
      rw [hC, List.drop_zero, he']; exact Up.isl (rsCs_up hsok.2)
    with_reducible refine runS hA hd hQ 200 ?hk ?_
    case hk => exact trivial
    conv => arg 9; cbv
    try simp only [OK]
    repeat' first | (with_reducible refine OKK.loop ?_) | (with_reducible refine OKK.again ?_) | ((with_reducible refine ⟨fun hbr => ?_, fun hbr => ?_⟩) <;> (try simp (disch := omega) only [hA, OK, emaU, Int.reduceToNat, s_bat, reduceCtorEq] at hbr) <;> (try (with_reducible exfalso; omega))) | ((with_reducible refine runK hA hd hQ 200 ?hk ?_); (case hk => exact trivial); (conv => arg 9; cbv); (try simp only [OK])) | ((with_reducible refine need_of ?hn ?_); (case hn => ((simp (disch := omega) only [hA, OK, emaU, Int.reduceToNat, s_bat]) <;> omega))) | fail
    refine CallOK.of (goodF_of F10_ok) (Tri.mono (hput _) fun v hh hx => ?_)
    obtain ⟨hv, hh'⟩ := hx
    subst hv; subst hh'
    with_reducible refine runK hA hd hQ 1 ?hk ?_
    case hk => exact trivial
    conv => arg 9; cbv
    try simp only [OK]
    cases bd
    all_goals
      repeat' first | (with_reducible refine OKK.loop ?_) | (with_reducible refine OKK.again ?_) | ((with_reducible refine ⟨fun hbr => ?_, fun hbr => ?_⟩) <;> (try simp (disch := omega) only [hA, OK, emaU, Int.reduceToNat, s_bat, reduceCtorEq] at hbr) <;> (try (with_reducible exfalso; omega))) | ((with_reducible refine runK hA hd hQ 200 ?hk ?_); (case hk => exact trivial); (conv => arg 9; cbv); (try simp only [OK])) | ((with_reducible refine need_of ?hn ?_); (case hn => ((simp (disch := omega) only [hA, OK, emaU, Int.reduceToNat, s_bat]) <;> omega))) | (refine CallOK.of (goodF_of F34_ok) (Tri.mono (heq _) fun v hh hx => ?_); (obtain ⟨⟨b, hv, hb⟩, he⟩ := hx; subst hv; subst he; cases b <;> simp (disch := omega) only [hA, OK, emaU, Int.reduceToNat, s_bat, Bool.false_eq_true, true_iff, false_iff, eq_self, reduceCtorEq] at hb) <;> (try (with_reducible exfalso; omega))) | fail
    all_goals first
      | (have h8 := hG1 (.inl rfl); exact ⟨_, rfl, .lit (.slice none 0 0), 0, [], by rw [h8]; rfl, Up.nil _, by rw [h8]; rfl, by rw [h8]; rfl⟩)
      | (have h8 := hG1 (.inr (.inl (by assumption))); exact ⟨_, rfl, .lit (.slice none 0 0), 0, [], by rw [h8]; rfl, Up.nil _, by rw [h8]; rfl, by rw [h8]; rfl⟩)
      | (have h8 := hG1 (.inr (.inr (by rw [← hpB (by omega)]; assumption))); exact ⟨_, rfl, .lit (.slice none 0 0), 0, [], by rw [h8]; rfl, Up.nil _, by rw [h8]; rfl, by rw [h8]; rfl⟩)
      | (have h0 := hG2 (fun h => h.elim (fun h => nomatch h) fun h => h.elim (fun h => h (by omega)) fun h => h (by rw [← hpB (by omega)]; assumption)); exact ⟨_, rfl, .isl M none C, M, C, by rw [h0]; rfl, Up.refl _, by rw [h0]; exact hM, by rw [h0]; exact hC⟩)
  all_goals
    with_reducible refine runK hA hd hQ 1 ?hk ?_
    case hk => exact trivial
    conv => arg 9; cbv
    try simp only [OK]
    repeat' first | (with_reducible refine OKK.loop ?_) | (with_reducible refine OKK.again ?_) | ((with_reducible refine ⟨fun hbr => ?_, fun hbr => ?_⟩) <;> (try simp (disch := omega) only [hA, OK, emaU, Int.reduceToNat, s_bat, reduceCtorEq] at hbr) <;> (try (with_reducible exfalso; omega))) | ((with_reducible refine runK hA hd hQ 200 ?hk ?_); (case hk => exact trivial); (conv => arg 9; cbv); (try simp only [OK])) | ((with_reducible refine need_of ?hn ?_); (case hn => ((simp (disch := omega) only [hA, OK, emaU, Int.reduceToNat, s_bat]) <;> omega))) | ((refine ⟨_, _, ?l1, (hLf (by omega)), rfl, ?_⟩); (case l1 => exact rfl)) | fail
    obtain ⟨R1, hR1⟩ : ∃ R, R = tkP S0.2 4 := ⟨_, rfl⟩
    have k1 := tkP_ok hro 4
    rw [← hR1] at k1
    have k1l := k1.2.1
    obtain ⟨R2, hR2⟩ : ∃ R, R = tkP R1.2 4 := ⟨_, rfl⟩
    have k2 := tkP_ok k1.2.2 4
    rw [← hR2] at k2
    have k2l := k2.2.1
    obtain ⟨R3, hR3⟩ : ∃ R, R = tkP R2.2 1 := ⟨_, rfl⟩
    have k3 := tkP_ok k2.2.2 1
    rw [← hR3] at k3
    have k3l := k3.2.1
    refine CallOK.of (goodF_of F32_ok) (Tri.mono (rnum_at hro 4 (by omega) rfl hrd) fun v hh hx => ?_)
    obtain ⟨z1, N1, c1, d1, hv, hh', hz1, hr1⟩ := hx
    subst hv; subst hh'
    rw [← hR1, wr64_small _ k1.1 (by omega)] at hz1
    rw [← hR1] at hr1
    with_reducible refine runK hA hd hQ 1 ?hk ?_
    case hk => exact trivial
    conv => arg 9; cbv
    try simp only [OK]
    repeat' first | (with_reducible refine OKK.loop ?_) | (with_reducible refine OKK.again ?_) | ((with_reducible refine ⟨fun hbr => ?_, fun hbr => ?_⟩) <;> (try simp (disch := omega) only [hA, OK, emaU, Int.reduceToNat, s_bat, reduceCtorEq] at hbr) <;> (try (with_reducible exfalso; omega))) | ((with_reducible refine runK hA hd hQ 200 ?hk ?_); (case hk => exact trivial); (conv => arg 9; cbv); (try simp only [OK])) | ((with_reducible refine need_of ?hn ?_); (case hn => ((simp (disch := omega) only [hA, OK, emaU, Int.reduceToNat, s_bat]) <;> omega))) | fail
    refine CallOK.of (goodF_of F32_ok) (Tri.mono (rnum_at k1.2.2 4 (by omega) rfl hr1) fun v hh hx => ?_)
    obtain ⟨z2, N2, c2, d2, hv, hh', hz2, hr2⟩ := hx
    subst hv; subst hh'
    rw [← hR2, wr64_small _ k2.1 (by omega)] at hz2
    rw [← hR2] at hr2
    with_reducible refine runK hA hd hQ 1 ?hk ?_
    case hk => exact trivial
    conv => arg 9; cbv
    try simp only [OK]
    repeat' first | (with_reducible refine OKK.loop ?_) | (with_reducible refine OKK.again ?_) | ((with_reducible refine ⟨fun hbr => ?_, fun hbr => ?_⟩) <;> (try simp (disch := omega) only [hA, OK, emaU, Int.reduceToNat, s_bat, reduceCtorEq] at hbr) <;> (try (with_reducible exfalso; omega))) | ((with_reducible refine runK hA hd hQ 200 ?hk ?_); (case hk => exact trivial); (conv => arg 9; cbv); (try simp only [OK])) | ((with_reducible refine need_of ?hn ?_); (case hn => ((simp (disch := omega) only [hA, OK, emaU, Int.reduceToNat, s_bat]) <;> omega))) | fail
    refine CallOK.of (goodF_of F32_ok) (Tri.mono (rnum_at k2.2.2 1 (by omega) rfl hr2) fun v hh hx => ?_)
    obtain ⟨z3, N3, c3, d3, hv, hh', hz3, hr3⟩ := hx
    subst hv; subst hh'
    rw [← hR3, wr64_small _ k3.1 (by omega)] at hz3
    rw [← hR3] at hr3
    with_reducible refine runK hA hd hQ 1 ?hk ?_
    case hk => exact trivial
    conv => arg 9; cbv
    try simp only [OK]
    repeat' first | (with_reducible refine OKK.loop ?_) | (with_reducible refine OKK.again ?_) | ((with_reducible refine ⟨fun hbr => ?_, fun hbr => ?_⟩) <;> (try simp (disch := omega) only [hA, OK, emaU, Int.reduceToNat, s_bat, reduceCtorEq] at hbr) <;> (try (with_reducible exfalso; omega))) | ((with_reducible refine runK hA hd hQ 200 ?hk ?_); (case hk => exact trivial); (conv => arg 9; cbv); (try simp only [OK])) | ((with_reducible refine need_of ?hn ?_); (case hn => ((simp (disch := omega) only [hA, OK, emaU, Int.reduceToNat, s_bat]) <;> omega))) | fail
    · refine CallOK.of (goodF_of F17_ok) (Tri.mono (hpl (by omega) _) fun v hh hx => ?_)
      obtain ⟨⟨_, _, kk, _, _, _, _, _, hv, hkk⟩, hh'⟩ := hx
      subst hv; subst hh'
      have hx1 : leV R3.1 = 1 := by omega
      have hq : A.ic .eql z3 1 = true := by rw [hA, s_eql]; exact decide_eq_true (by omega)
      have hit := itG_yes (K := K) hR1 hR2 hR3 hx1
      rw [← hkk] at hit hnext
      rw [← hz1, ← hz2] at hit
      with_reducible refine runK hA hd hQ 1 ?hk ?_
      case hk => exact trivial
      conv => arg 9; cbv
      try simp only [OK]
      repeat' first | (with_reducible refine OKK.loop ?_) | (with_reducible refine OKK.again ?_) | ((with_reducible refine ⟨fun hbr => ?_, fun hbr => ?_⟩) <;> (try simp (disch := omega) only [hA, OK, emaU, Int.reduceToNat, s_bat, reduceCtorEq] at hbr) <;> (try (with_reducible exfalso; omega))) | ((with_reducible refine runK hA hd hQ 200 ?hk ?_); (case hk => exact trivial); (conv => arg 9; cbv); (try simp only [OK])) | ((with_reducible refine need_of ?hn ?_); (case hn => ((simp (disch := omega) only [hA, OK, emaU, Int.reduceToNat, s_bat]) <;> omega))) | fail
      refine CallOK.of (goodF_of F33_ok) (Tri.mono (bound_at k3.2.2 kk rfl hr3) fun v hh hx => ?_)
      obtain ⟨x1, t1, N4, c4, d4, hv, hh', hb4, hr4⟩ := hx
      subst hv; subst hh'
      with_reducible refine runK hA hd hQ 1 ?hk ?_
      case hk => exact trivial
      conv => arg 9; cbv
      try simp only [OK]
      repeat' first | (with_reducible refine OKK.loop ?_) | (with_reducible refine OKK.again ?_) | ((with_reducible refine ⟨fun hbr => ?_, fun hbr => ?_⟩) <;> (try simp (disch := omega) only [hA, OK, emaU, Int.reduceToNat, s_bat, reduceCtorEq] at hbr) <;> (try (with_reducible exfalso; omega))) | ((with_reducible refine runK hA hd hQ 200 ?hk ?_); (case hk => exact trivial); (conv => arg 9; cbv); (try simp only [OK])) | ((with_reducible refine need_of ?hn ?_); (case hn => ((simp (disch := omega) only [hA, OK, emaU, Int.reduceToNat, s_bat]) <;> omega))) | fail
      refine CallOK.of (goodF_of F33_ok) (Tri.mono (bound_at (bdG_ok (fun s n h => tkP_ok h n) k3.2.2) kk rfl hr4) fun v hh hx => ?_)
      obtain ⟨x2, t2, N5, c5, d5, hv, hh', hb5, hr5⟩ := hx
      subst hv; subst hh'
      with_reducible refine runK hA hd hQ 1 ?hk ?_
      case hk => exact trivial
      conv => arg 9; cbv
      try simp only [OK]
      repeat' first | (with_reducible refine OKK.loop ?_) | (with_reducible refine OKK.again ?_) | ((with_reducible refine ⟨fun hbr => ?_, fun hbr => ?_⟩) <;> (try simp (disch := omega) only [hA, OK, emaU, Int.reduceToNat, s_bat, reduceCtorEq] at hbr) <;> (try (with_reducible exfalso; omega))) | ((with_reducible refine runK hA hd hQ 200 ?hk ?_); (case hk => exact trivial); (conv => arg 9; cbv); (try simp only [OK])) | ((with_reducible refine need_of ?hn ?_); (case hn => ((simp (disch := omega) only [hA, OK, emaU, Int.reduceToNat, s_bat]) <;> omega))) | fail
      have hi' : (A.ib .add .i64 i 1).toNat = i.toNat + 1 := by simp (disch := omega) only [hA, OK, emaU, Int.reduceToNat, s_bat] <;> omega
      first
        | refine OKs.mask (msk 78 [1, 2, 6, 7, 22, 23, 24]) (OKs.mv [0, 1, 5] [] (by rw [hρ]; rfl) ⟨by decide, by simp [sizeH], by simp⟩ (ih _ _ ⟨_, _, _, _, _, _, .inr ⟨?_, rfl⟩, rfl, ?_, ?_, ?_, ?_, ?_⟩ ?_))
        | refine OKs.mask (msk 78 [1, 2, 6, 7, 22, 23, 24]) (OKs.mv [0, 1, 6] [] (by rw [hρ]; rfl) ⟨by decide, by simp [sizeH], by simp⟩ (ih _ _ ⟨_, _, _, _, _, _, .inr ⟨?_, rfl⟩, rfl, ?_, ?_, ?_, ?_, ?_⟩ ?_))
      · simp (disch := omega) only [hA, OK, emaU, Int.reduceToNat, s_bat] <;> omega
      · simp (disch := omega) only [hA, OK, emaU, Int.reduceToNat, s_bat] <;> omega
      · simp (disch := omega) only [hA, OK, emaU, Int.reduceToNat, s_bat] <;> omega
      · show rdC (rdG tkP fs B (A.ib .add .i64 i 1).toNat).2 = _
        rw [hi', hnext, hit]; exact hr5
      · show _ = (rdG tkP fs B (A.ib .add .i64 i 1).toNat).1.length
        rw [hi', hnext, List.length_append, ← hM]
        first
          | (rw [hA]; rfl)
          | (rw [show M = 0 by omega]; rfl)
      · show _ = rsCs (rdG tkP fs B (A.ib .add .i64 i 1).toNat).1
        rw [hi', hnext, hit, hb5, hb4]
        subst hA
        first
          | exact (congrArg (mvL _ _) (app_rs hM he' (rsC_yes _ _ _ _ _ _ hq))).trans (mvL_cl _ _ _ (clRs _))
          | (rw [hS00 hi0, List.nil_append]; exact (congrArg (mvL _ _) (one_rs (rsC_yes _ _ _ _ _ _ hq))).trans (mvL_cl _ _ _ (clRs _)))
      · simp (disch := omega) only [hA, OK, emaU, Int.reduceToNat, s_bat] <;> omega
    · have hx1 : leV R3.1 ≠ 1 := by omega
      have hq : A.ic .eql z3 1 = false := by rw [hA, s_eql]; exact decide_eq_false (by omega)
      have hit := itG_no (K := K) hR1 hR2 hR3 hx1
      rw [← hz1, ← hz2] at hit
      have hi' : (A.ib .add .i64 i 1).toNat = i.toNat + 1 := by simp (disch := omega) only [hA, OK, emaU, Int.reduceToNat, s_bat] <;> omega
      first
        | refine OKs.mask (msk 78 [1, 2, 6, 7, 22, 23, 24]) (OKs.mv [0, 1, 5] [] (by rw [hρ]; rfl) ⟨by decide, by simp [sizeH], by simp⟩ (ih _ _ ⟨_, _, _, _, _, _, .inr ⟨?_, rfl⟩, rfl, ?_, ?_, ?_, ?_, ?_⟩ ?_))
        | refine OKs.mask (msk 78 [1, 2, 6, 7, 22, 23, 24]) (OKs.mv [0, 1, 6] [] (by rw [hρ]; rfl) ⟨by decide, by simp [sizeH], by simp⟩ (ih _ _ ⟨_, _, _, _, _, _, .inr ⟨?_, rfl⟩, rfl, ?_, ?_, ?_, ?_, ?_⟩ ?_))
      · simp (disch := omega) only [hA, OK, emaU, Int.reduceToNat, s_bat] <;> omega
      · simp (disch := omega) only [hA, OK, emaU, Int.reduceToNat, s_bat] <;> omega
      · simp (disch := omega) only [hA, OK, emaU, Int.reduceToNat, s_bat] <;> omega
      · show rdC (rdG tkP fs B (A.ib .add .i64 i 1).toNat).2 = _
        rw [hi', hnext, hit]; exact hr3
      · show _ = (rdG tkP fs B (A.ib .add .i64 i 1).toNat).1.length
        rw [hi', hnext, List.length_append, ← hM]
        first
          | (rw [hA]; rfl)
          | (rw [show M = 0 by omega]; rfl)
      · show _ = rsCs (rdG tkP fs B (A.ib .add .i64 i 1).toNat).1
        rw [hi', hnext, hit]
        subst hA
        first
          | exact (congrArg (mvL _ _) (app_rs hM he' (rsC_no _ _ hq))).trans (mvL_cl _ _ _ (clRs _))
          | (rw [hS00 hi0, List.nil_append]; exact (congrArg (mvL _ _) (one_rs (rsC_no _ _ hq))).trans (mvL_cl _ _ _ (clRs _)))
      · simp (disch := omega) only [hA, OK, emaU, Int.reduceToNat, s_bat] <;> omega
end Go.Proofs.YtecephhhjhpcjaaGreatDoor.Stats
end
section
set_option linter.unusedVariables false
set_option linter.unusedSimpArgs false
-- emaX: s_bat
namespace Go.Proofs.YtecephhhjhpcjaaGreatDoor.Stats
open Go Go.Proofs.YtecephhhjhpcjaaGreatDoor Go.Proofs.YtecephhhjhpcjaaGreatDoor.Em
def goodR (fs : List Fld) (B : List Nat) (i : Nat) : Prop :=
  (rdG tkR fs B (i + 1)).2.2 = false ∧ hasG tkR fs B i ≤ 1 ∧ ((itG tkR (ck (fs.getD i fld0)) (rdG tkR fs B i).2).1).may (ck (fs.getD i fld0))
open Classical in
noncomputable def getR (fs : List Fld) (ns : List Nt) (B : List Nat) : List StP × Int :=
  if ¬ mayS fs ns then ([], 5) else
  if (∀ i, i < fs.length → goodR fs B i) ∧ (rdG tkR fs B fs.length).2.1 = [] then ((rdG tkR fs B fs.length).1, 0) else ([], 8)
theorem Up.aggL {l m : List EV} (h : UpLs l m) : Up (.agg l) (.agg m) := by
  have hl : ∀ {l m : List EV}, UpLs l m → l.length = m.length := by
    intro l
    induction l with
    | nil => intro m h; cases m with
      | nil => rfl
      | cons => exact h.elim
    | cons x l ih => intro m h; cases m with
      | nil => exact h.elim
      | cons y m => simp [ih h.2]
  refine Up.agg (hl h) fun j x y hx hy => ?_
  obtain ⟨u, k1, k2⟩ := h.get j y hy
  rw [hx] at k1; cases k1; exact k2
theorem rs_up_yes (z1 z2 x1 x2 : Int) (t1 t2 : ByteArray) {b : Bool} (hb : b = true) : Up (.agg [EV.lit (.int .i64 z1), .lit (.int .i64 z2), .sb b, .lit (.bool false), .lit (.int .i64 x1), .lit (.string t1), .isl 0 none [], .lit (.bool false), .lit (.int .i64 x2), .lit (.string t2), .isl 0 none []]) (.agg (StP.cells ⟨z1, z2, true, ⟨false, x1, t1, 0, []⟩, ⟨false, x2, t2, 0, []⟩⟩)) := by
  rw [rsC_yes _ _ _ _ _ _ hb]; exact Up.aggL (rsC_up fun h => by cases h)
theorem rs_up_no (z1 z2 : Int) {b : Bool} (hb : b = false) : Up (.agg [EV.lit (.int .i64 z1), .lit (.int .i64 z2), .sb b, .lit (.bool false), .lit (.int .i64 0), .lit (.string ⟨#[]⟩), .lit (.slice none 0 0), .lit (.bool false), .lit (.int .i64 0), .lit (.string ⟨#[]⟩), .lit (.slice none 0 0)]) (.agg (StP.cells ⟨z1, z2, false, vp0, vp0⟩)) := by
  rw [rsC_no _ _ hb]; exact Up.aggL (rsC_up fun _ => ⟨rfl, rfl⟩)
set_option maxRecDepth 100000 in
set_option maxHeartbeats 16000000 in
theorem getR_pre (fs : List Fld) (ns : List Nt) (hfs : fs.length ≤ 140737488351232) (hns : ns.length ≤ 140737488351232) (hok : okFs fs) (hnt : ∀ x ∈ ns, x.1.size ≤ 140737488351232 ∧ x.2.size ≤ 140737488351232) (B : List Nat) (hB : okR (B, false)) :
    Tri Tryz.prog gs 13 [.agg [.isl fs.length none (cellsFs fs), .isl ns.length none (cellsNts ns)], isB B] [] fun v h' => ∃ n c, v = .tup [.isl n none c, .lit (.int .i64 (getR fs ns B).2)] ∧ n = (getR fs ns B).1.length ∧ c = cellsSs (getR fs ns B).1 := by
  refine Tri.up (R := fun v h' => ∃ ov n c, v = .tup [ov, .lit (.int .i64 (getR fs ns B).2)] ∧ Up ov (.isl n none c) ∧ n = (getR fs ns B).1.length ∧ c = cellsSs (getR fs ns B).1) ?_ fun v h' ⟨ov, n, c, e1, e2, e3, e4⟩ => ⟨_, ⟨n, c, rfl, e3, e4⟩, by rw [e1]; exact Up.tup2 e2 (Up.refl _)⟩
  refine Tri_of F13_ok fun I0 ρ0 w0 Q hρ hQ => ?_
  obtain ⟨A, hA⟩ : ∃ A, A = stdA := ⟨_, rfl⟩
  have hck := checkR_ok fs ns hfs hns hok hnt
  obtain ⟨G0, hG0⟩ : ∃ G0, G0 = getR fs ns B := ⟨_, rfl⟩
  rw [← hG0] at hQ
  have hfg := fs_get fs
  obtain ⟨bn, bc, hbi, hbn, hbc⟩ := isB_open B
  obtain ⟨fn, hfn⟩ : ∃ n, n = fs.length := ⟨_, rfl⟩
  obtain ⟨fc, hfc⟩ : ∃ n, n = cellsFs fs := ⟨_, rfl⟩
  obtain ⟨nn, hnn⟩ : ∃ n, n = ns.length := ⟨_, rfl⟩
  obtain ⟨nc, hnc⟩ : ∃ n, n = cellsNts ns := ⟨_, rfl⟩
  rw [← hfn, ← hfc, ← hnn, ← hnc] at hck
  rw [← hfn, ← hfc, ← hnn, ← hnc, hbi]
  with_reducible refine runS hA hd hQ 200 ?hk ?_
  case hk => exact trivial
  conv => arg 9; cbv
  try simp only [OK]
  repeat' first | (with_reducible refine OKK.loop ?_) | (with_reducible refine OKK.again ?_) | ((with_reducible refine ⟨fun hbr => ?_, fun hbr => ?_⟩) <;> (try simp (disch := omega) only [hA, OK, emaU, Int.reduceToNat, s_bat, reduceCtorEq] at hbr) <;> (try (with_reducible exfalso; omega))) | ((with_reducible refine runK hA hd hQ 200 ?hk ?_); (case hk => exact trivial); (conv => arg 9; cbv); (try simp only [OK])) | ((with_reducible refine need_of ?hn ?_); (case hn => ((simp (disch := omega) only [hA, OK, emaU, Int.reduceToNat, s_bat]) <;> omega))) | fail
  refine CallOK.of (goodF_of F28_ok) (Tri.mono (hck _) fun v hh hx => ?_)
  obtain ⟨⟨e, at', pn, pc, hv, he⟩, hh'⟩ := hx
  subst hv; subst hh'
  with_reducible refine runK hA hd hQ 1 ?hk ?_
  case hk => exact trivial
  conv => arg 9; cbv
  try simp only [OK]
  repeat' first | (with_reducible refine OKK.loop ?_) | (with_reducible refine OKK.again ?_) | ((with_reducible refine ⟨fun hbr => ?_, fun hbr => ?_⟩) <;> (try simp (disch := omega) only [hA, OK, emaU, Int.reduceToNat, s_bat, reduceCtorEq] at hbr) <;> (try (with_reducible exfalso; omega))) | ((with_reducible refine runK hA hd hQ 200 ?hk ?_); (case hk => exact trivial); (conv => arg 9; cbv); (try simp only [OK])) | ((with_reducible refine need_of ?hn ?_); (case hn => ((simp (disch := omega) only [hA, OK, emaU, Int.reduceToNat, s_bat]) <;> omega))) | fail
  · have h5 : G0 = ([], 5) := by rw [hG0]; unfold getR; rw [if_pos fun hm => hbr (he.2 hm)]
    exact ⟨_, rfl, .lit (.slice none 0 0), 0, [], by rw [h5]; rfl, Up.nil _, by rw [h5]; rfl, by rw [h5]; rfl⟩
  have hms : mayS fs ns := he.1 (by omega)
  have hall := mayS_all hms
  have hfl : fs.length ≤ 32 := hms.1
  have hbadR : ∀ i, i < fs.length → ¬ goodR fs B i → G0 = ([], 8) := fun i hi h => by
    rw [hG0]; unfold getR; rw [if_neg (not_not_intro hms)]; exact if_neg fun hh => h (hh.1 i hi)
  have hrest : (rdG tkR fs B fs.length).2.1 ≠ [] → G0 = ([], 8) := fun h => by
    rw [hG0]; unfold getR; rw [if_neg (not_not_intro hms)]; exact if_neg fun hh => h hh.2
  have hfine : (∀ i, i < fs.length → goodR fs B i) → (rdG tkR fs B fs.length).2.1 = [] → G0 = ((rdG tkR fs B fs.length).1, 0) := fun h1 h2 => by
    rw [hG0]; unfold getR; rw [if_neg (not_not_intro hms)]; exact if_pos ⟨h1, h2⟩
  clear hG0
  refine OKs.up 8 (.sl 11 3 0 0 none) (Up.scap _ _ _ _ _) ?_
  refine OKs.mask (msk 89 [2, 7, 8, 9]) (OKs.mv [0, 2, 3] [] (by rw [hρ]; rfl) ⟨by decide, by simp [sizeH], by simp⟩ ?_)
  refine OKs.loopN (fun m st => ∃ (i : Int) (N : Nat) (c : List EV) (M : Nat) (e : List EV), st = ⟨mkT 89 [(2, .ptr 0 0), (7, .ptr 1 0), (8, .sl 11 2 0 M none), (9, .lit (.int .i64 i))], [.blk [.isl fn none fc, .isl nn none nc], .blk [.isl N none c, .lit (.bool false)], .blk e]⟩ ∧ m = (fn - i).toNat ∧ 0 ≤ i ∧ i ≤ fn ∧
      rdC (rdG tkR fs B i.toNat).2 = [.isl N none c, .lit (.bool false)] ∧ M = (rdG tkR fs B i.toNat).1.length ∧ e = rsCs (rdG tkR fs B i.toNat).1 ∧ ∀ j, j < i.toNat → goodR fs B j)
    (fun m st hs' ih => ?_) ⟨0, bn, bc, 0, [], rfl, rfl, by omega, by omega, by rw [← hbi]; rfl, rfl, rfl, fun j hj => absurd hj (by simp)⟩
  obtain ⟨i, N, c, M, e', rfl, hm, hi1, hi2, hrd, hM, he', hgood⟩ := hs'
  obtain ⟨f, hf⟩ : ∃ f, f = fs.getD i.toNat fld0 := ⟨_, rfl⟩
  have hfa : i < fn → allF f := fun h => by rw [hf]; exact allFs_get fs _ hall (by omega)
  have hkd := fun h : i < fn => kindOf_ck f (hfa h)
  have hisS := fun (h : i < fn) (s : StP) (hs : s.ok) => isR_ck f (hfa h) s hs
  have hLf : i < fn → List.take 7 (List.drop (A.idx 0 i 7) fc) = cellsF f := fun h => by rw [hA, s_idx, Nat.zero_add, hfc, hfg i.toNat (by omega), ← hf]
  have hnext : rdG tkR fs B (i.toNat + 1) = ((rdG tkR fs B i.toNat).1 ++ [(itG tkR (ck f) (rdG tkR fs B i.toNat).2).1], (itG tkR (ck f) (rdG tkR fs B i.toNat).2).2.2) := by rw [rdG, ← hf]
  have hgd : goodR fs B i.toNat ↔ ((itG tkR (ck f) (rdG tkR fs B i.toNat).2).2.2.2 = false ∧ (itG tkR (ck f) (rdG tkR fs B i.toNat).2).2.1 ≤ 1 ∧ ((itG tkR (ck f) (rdG tkR fs B i.toNat).2).1).may (ck f)) := by unfold goodR hasG; rw [hnext, ← hf]
  have hrl := rdG_len tkR fs B i.toNat
  have hro := rdG_ok (fun s n h => tkR_ok h n) (fs := fs) hB i.toNat
  rw [cellsF_eq] at hLf hkd hisS
  generalize cellsFs f.kids = kc, f.kids.length = kn, f.nm = nm, f.nul = nul, f.kind = k, f.width = w, f.id = id, f.idx = x at hLf hkd hisS
  generalize ck f = K at hkd hisS hnext hgd
  have hlast : ¬ i < fn → i.toNat = fs.length := fun h => by omega
  obtain ⟨S0, hS0⟩ : ∃ S0, S0 = rdG tkR fs B i.toNat := ⟨_, rfl⟩
  rw [← hS0] at hrd hM he' hnext hrl hro hgd
  have hel : e'.length = M * 11 := by rw [he', rsCs_len, hM]; omega
  have hbad2 : i < fn → ¬ goodR fs B i.toNat → G0 = ([], 8) := fun h => hbadR _ (by omega)
  have hsk := fun h : okR S0.2 => itG_sok (fun s n h => tkR_ok h n) (k := K) h
  clear hf hfa hbadR
  with_reducible refine runS hA hd hQ 200 ?hk ?_
  case hk => exact trivial
  conv => arg 9; cbv
  try simp only [OK]
  refine ⟨fun hbr => ?_, fun hbr => ?_⟩ <;> simp (disch := omega) only [hA, OK, emaU, Int.reduceToNat, s_bat] at hbr
  rotate_left 1
  · with_reducible refine runK hA hd hQ 1 ?hk ?_
    case hk => exact trivial
    conv => arg 9; cbv
    try simp only [OK]
    repeat' first | (with_reducible refine OKK.loop ?_) | (with_reducible refine OKK.again ?_) | (with_reducible refine OKK.stopS (some 82) ?_) | (with_reducible refine OKK.stopO (some 82) ?_) | ((with_reducible refine ⟨fun hbr => ?_, fun hbr => ?_⟩) <;> (try simp (disch := omega) only [hA, OK, emaU, Int.reduceToNat, s_bat, reduceCtorEq] at hbr) <;> (try (with_reducible exfalso; omega))) | ((with_reducible refine runK hA hd hQ 1 ?hk ?_); (case hk => exact trivial); (conv => arg 9; cbv); (try simp only [OK])) | ((with_reducible refine need_of ?hn ?_); (case hn => ((simp (disch := omega) only [hA, OK, emaU, Int.reduceToNat, s_bat]) <;> omega))) | fail
    have hS1 : S0 = rdG tkR fs B fs.length := by rw [hS0, hlast (by omega)]
    have hsok := rdG_sok (fun s n h => tkR_ok h n) (fs := fs) hB i.toNat
    rw [← hS0] at hsok
    obtain ⟨L, hLL⟩ : ∃ L, L = S0.1 := ⟨_, rfl⟩
    rw [← hS1] at hrest hfine
    rw [← hLL] at hM he' hsok hfine hrl
    have hN : N = S0.2.1.length := by
      have h1 := hrd
      simp only [rdC, isB, List.cons.injEq, EV.isl.injEq] at h1
      exact h1.1.1.symm
    obtain ⟨C, hC⟩ : ∃ C, C = cellsSs L := ⟨_, rfl⟩
    clear hS1 hS0 hnext
    refine OKs.mask (msk 89 [7, 8]) ?_
    refine OKs.mv [0, 1] [2] (by rw [hρ]; rfl) ⟨by decide, by simp [sizeH], fun id hid => by simp at hid; subst hid; exact ⟨_, rfl, by rw [he']; exact clRs _⟩⟩ ?_
    refine OKs.up 8 (.isl M none C) ?_ ?_
    · show Up (.isl M none (List.drop 0 e')) _
      rw [hC, List.drop_zero, he']; exact Up.isl (rsCs_up hsok.2)
    have hNl : N ≤ 140737488351232 := by rw [hN]; exact hro.2
    with_reducible refine runS hA hd hQ 200 ?hk ?_
    case hk => exact trivial
    conv => arg 9; cbv
    try simp only [OK]
    repeat' first | (with_reducible refine OKK.loop ?_) | (with_reducible refine OKK.again ?_) | ((with_reducible refine ⟨fun hbr => ?_, fun hbr => ?_⟩) <;> (try simp (disch := omega) only [hA, OK, emaU, Int.reduceToNat, s_bat, reduceCtorEq] at hbr) <;> (try (with_reducible exfalso; omega))) | ((with_reducible refine runK hA hd hQ 200 ?hk ?_); (case hk => exact trivial); (conv => arg 9; cbv); (try simp only [OK])) | ((with_reducible refine need_of ?hn ?_); (case hn => ((simp (disch := omega) only [hA, OK, emaU, Int.reduceToNat, s_bat]) <;> omega))) | fail
    · have h8 := hrest (fun h => by rw [h] at hN; simp at hN; omega)
      exact ⟨_, rfl, .lit (.slice none 0 0), 0, [], by rw [h8]; rfl, Up.nil _, by rw [h8]; rfl, by rw [h8]; rfl⟩
    · have h0 := hfine (fun j hj => hgood j (by omega)) (List.length_eq_zero_iff.1 (by omega))
      exact ⟨_, rfl, .isl M none C, M, C, by rw [h0]; rfl, Up.refl _, by rw [h0]; exact hM, by rw [h0]; exact hC⟩
  with_reducible refine runK hA hd hQ 1 ?hk ?_
  case hk => exact trivial
  conv => arg 9; cbv
  try simp only [OK]
  repeat' first | (with_reducible refine OKK.loop ?_) | (with_reducible refine OKK.again ?_) | ((with_reducible refine ⟨fun hbr => ?_, fun hbr => ?_⟩) <;> (try simp (disch := omega) only [hA, OK, emaU, Int.reduceToNat, s_bat, reduceCtorEq] at hbr) <;> (try (with_reducible exfalso; omega))) | ((with_reducible refine runK hA hd hQ 200 ?hk ?_); (case hk => exact trivial); (conv => arg 9; cbv); (try simp only [OK])) | ((with_reducible refine need_of ?hn ?_); (case hn => ((simp (disch := omega) only [hA, OK, emaU, Int.reduceToNat, s_bat]) <;> omega))) | fail
  obtain ⟨R1, hR1⟩ : ∃ R, R = tkR S0.2 4 := ⟨_, rfl⟩
  have k1 := tkR_ok hro 4
  rw [← hR1] at k1
  have k1l := k1.2.1
  obtain ⟨R2, hR2⟩ : ∃ R, R = tkR R1.2 4 := ⟨_, rfl⟩
  have k2 := tkR_ok k1.2.2 4
  rw [← hR2] at k2
  have k2l := k2.2.1
  obtain ⟨R3, hR3⟩ : ∃ R, R = tkR R2.2 1 := ⟨_, rfl⟩
  have k3 := tkR_ok k2.2.2 1
  rw [← hR3] at k3
  have k3l := k3.2.1
  refine CallOK.of (goodF_of F35_ok) (Tri.mono (rnumR_at hro 4 (by omega) (by omega) rfl hrd) fun v hh hx => ?_)
  obtain ⟨z1, N1, c1, d1, hv, hh', hz1, hr1⟩ := hx
  subst hv; subst hh'
  rw [← hR1] at hz1 hr1
  with_reducible refine runK hA hd hQ 1 ?hk ?_
  case hk => exact trivial
  conv => arg 9; cbv
  try simp only [OK]
  repeat' first | (with_reducible refine OKK.loop ?_) | (with_reducible refine OKK.again ?_) | ((with_reducible refine ⟨fun hbr => ?_, fun hbr => ?_⟩) <;> (try simp (disch := omega) only [hA, OK, emaU, Int.reduceToNat, s_bat, reduceCtorEq] at hbr) <;> (try (with_reducible exfalso; omega))) | ((with_reducible refine runK hA hd hQ 200 ?hk ?_); (case hk => exact trivial); (conv => arg 9; cbv); (try simp only [OK])) | ((with_reducible refine need_of ?hn ?_); (case hn => ((simp (disch := omega) only [hA, OK, emaU, Int.reduceToNat, s_bat]) <;> omega))) | fail
  refine CallOK.of (goodF_of F35_ok) (Tri.mono (rnumR_at k1.2.2 4 (by omega) (by omega) rfl hr1) fun v hh hx => ?_)
  obtain ⟨z2, N2, c2, d2, hv, hh', hz2, hr2⟩ := hx
  subst hv; subst hh'
  rw [← hR2] at hz2 hr2
  with_reducible refine runK hA hd hQ 1 ?hk ?_
  case hk => exact trivial
  conv => arg 9; cbv
  try simp only [OK]
  repeat' first | (with_reducible refine OKK.loop ?_) | (with_reducible refine OKK.again ?_) | ((with_reducible refine ⟨fun hbr => ?_, fun hbr => ?_⟩) <;> (try simp (disch := omega) only [hA, OK, emaU, Int.reduceToNat, s_bat, reduceCtorEq] at hbr) <;> (try (with_reducible exfalso; omega))) | ((with_reducible refine runK hA hd hQ 200 ?hk ?_); (case hk => exact trivial); (conv => arg 9; cbv); (try simp only [OK])) | ((with_reducible refine need_of ?hn ?_); (case hn => ((simp (disch := omega) only [hA, OK, emaU, Int.reduceToNat, s_bat]) <;> omega))) | fail
  refine CallOK.of (goodF_of F35_ok) (Tri.mono (rnumR_at k2.2.2 1 (by omega) (by omega) rfl hr2) fun v hh hx => ?_)
  obtain ⟨z3, N3, c3, d3, hv, hh', hz3, hr3⟩ := hx
  subst hv; subst hh'
  rw [← hR3] at hz3 hr3
  have hw1 : A.wr .i64 z1 = (leV R1.1 : Nat) := by rw [hA, hz1]; exact wr64_small _ k1.1 (by omega)
  have hw2 : A.wr .i64 z2 = (leV R2.1 : Nat) := by rw [hA, hz2]; exact wr64_small _ k2.1 (by omega)
  have hsk2 := hsk hro
  with_reducible refine runK hA hd hQ 1 ?hk ?_
  case hk => exact trivial
  conv => arg 9; cbv
  try simp only [OK]
  repeat' first | (with_reducible refine OKK.loop ?_) | (with_reducible refine OKK.again ?_) | (with_reducible refine OKK.stopS (some 59) ?_) | (with_reducible refine OKK.stopO (some 59) ?_) | ((with_reducible refine ⟨fun hbr => ?_, fun hbr => ?_⟩) <;> (try simp (disch := omega) only [hA, OK, emaU, Int.reduceToNat, s_bat, reduceCtorEq] at hbr) <;> (try (with_reducible exfalso; omega))) | ((with_reducible refine runK hA hd hQ 200 ?hk ?_); (case hk => exact trivial); (conv => arg 9; cbv); (try simp only [OK])) | ((with_reducible refine need_of ?hn ?_); (case hn => ((simp (disch := omega) only [hA, OK, emaU, Int.reduceToNat, s_bat]) <;> omega))) | ((refine ⟨_, _, ?l1, (hLf (by omega)), rfl, ?_⟩); (case l1 => exact rfl)) | fail
  · refine CallOK.of (goodF_of F21_ok) (Tri.mono (hkd (by omega) _) fun v hh hx => ?_)
    obtain ⟨⟨kk, hv, hkk⟩, hh'⟩ := hx
    subst hv; subst hh'
    have hx1 : leV R3.1 = 1 := by omega
    have hq : A.ic .eql z3 1 = true := by rw [hA, s_eql]; exact decide_eq_true (by omega)
    have hit := itG_yes (K := K) hR1 hR2 hR3 hx1
    rw [← hkk] at hit hnext hgd hsk2 hisS
    rw [← hw1, ← hw2] at hit
    with_reducible refine runK hA hd hQ 1 ?hk ?_
    case hk => exact trivial
    conv => arg 9; cbv
    try simp only [OK]
    repeat' first | (with_reducible refine OKK.loop ?_) | (with_reducible refine OKK.again ?_) | ((with_reducible refine ⟨fun hbr => ?_, fun hbr => ?_⟩) <;> (try simp (disch := omega) only [hA, OK, emaU, Int.reduceToNat, s_bat, reduceCtorEq] at hbr) <;> (try (with_reducible exfalso; omega))) | ((with_reducible refine runK hA hd hQ 200 ?hk ?_); (case hk => exact trivial); (conv => arg 9; cbv); (try simp only [OK])) | ((with_reducible refine need_of ?hn ?_); (case hn => ((simp (disch := omega) only [hA, OK, emaU, Int.reduceToNat, s_bat]) <;> omega))) | fail
    refine CallOK.of (goodF_of F36_ok) (Tri.mono (limit_at k3.2.2 kk rfl hr3) fun v hh hx => ?_)
    obtain ⟨x1, t1, N4, c4, d4, hv, hh', hb4, hr4⟩ := hx
    subst hv; subst hh'
    with_reducible refine runK hA hd hQ 1 ?hk ?_
    case hk => exact trivial
    conv => arg 9; cbv
    try simp only [OK]
    repeat' first | (with_reducible refine OKK.loop ?_) | (with_reducible refine OKK.again ?_) | ((with_reducible refine ⟨fun hbr => ?_, fun hbr => ?_⟩) <;> (try simp (disch := omega) only [hA, OK, emaU, Int.reduceToNat, s_bat, reduceCtorEq] at hbr) <;> (try (with_reducible exfalso; omega))) | ((with_reducible refine runK hA hd hQ 200 ?hk ?_); (case hk => exact trivial); (conv => arg 9; cbv); (try simp only [OK])) | ((with_reducible refine need_of ?hn ?_); (case hn => ((simp (disch := omega) only [hA, OK, emaU, Int.reduceToNat, s_bat]) <;> omega))) | fail
    refine CallOK.of (goodF_of F36_ok) (Tri.mono (limit_at (bdG_ok (fun s n h => tkR_ok h n) k3.2.2) kk rfl hr4) fun v hh hx => ?_)
    obtain ⟨x2, t2, N5, c5, d5, hv, hh', hb5, hr5⟩ := hx
    subst hv; subst hh'
    rw [hb5, hb4] at hit
    rw [hit] at hsk2 hgd hnext
    simp only at hgd hsk2 hnext
    with_reducible refine runK hA hd hQ 1 ?hk ?_
    case hk => exact trivial
    conv => arg 9; cbv
    try simp only [OK]
    repeat' first | (with_reducible refine OKK.loop ?_) | (with_reducible refine OKK.again ?_) | ((with_reducible refine ⟨fun hbr => ?_, fun hbr => ?_⟩) <;> (try simp (disch := omega) only [hA, OK, emaU, Int.reduceToNat, s_bat, reduceCtorEq] at hbr) <;> (try (with_reducible exfalso; omega))) | ((with_reducible refine runK hA hd hQ 200 ?hk ?_); (case hk => exact trivial); (conv => arg 9; cbv); (try simp only [OK])) | ((with_reducible refine need_of ?hn ?_); (case hn => ((simp (disch := omega) only [hA, OK, emaU, Int.reduceToNat, s_bat]) <;> omega))) | ((refine ⟨_, _, ?l1, (hLf (by omega)), rfl, ?_⟩); (case l1 => exact rfl)) | fail
    refine CallOK.of (goodF_of F20_ok) (Tri.mono (Tri.args (hisS (by omega) _ hsk2.1 _) (UpL.cons (Up.refl _) (UpL.cons (rs_up_yes _ _ _ _ _ _ hq) UpL.nil))) fun v hh hx => ?_)
    obtain ⟨⟨b, hv, hb⟩, hh'⟩ := hx
    subst hv; subst hh'
    have hfl5 := rdC_bad hr5
    with_reducible refine runK hA hd hQ 1 ?hk ?_
    case hk => exact trivial
    conv => arg 9; cbv
    try simp only [OK]
    cases d5 <;> cases b
    all_goals
      repeat' first | (with_reducible refine OKK.loop ?_) | (with_reducible refine OKK.again ?_) | ((with_reducible refine ⟨fun hbr => ?_, fun hbr => ?_⟩) <;> (try simp (disch := omega) only [hA, OK, emaU, Int.reduceToNat, s_bat, reduceCtorEq] at hbr) <;> (try (with_reducible exfalso; omega))) | ((with_reducible refine runK hA hd hQ 200 ?hk ?_); (case hk => exact trivial); (conv => arg 9; cbv); (try simp only [OK])) | ((with_reducible refine need_of ?hn ?_); (case hn => ((simp (disch := omega) only [hA, OK, emaU, Int.reduceToNat, s_bat]) <;> omega))) | fail
    all_goals try (
      have h8 := hbad2 (by omega) (fun h => by
        have h2 := hgd.1 h
        first
          | exact Bool.noConfusion (hfl5.symm.trans h2.1)
          | exact Bool.noConfusion (hb.2 h2.2.2)
          | (have h3 := h2.2.1; omega))
      exact ⟨_, rfl, .lit (.slice none 0 0), 0, [], by rw [h8]; rfl, Up.nil _, by rw [h8]; rfl, by rw [h8]; rfl⟩)
    ·
      have hi' : (A.ib .add .i64 i 1).toNat = i.toNat + 1 := by simp (disch := omega) only [hA, OK, emaU, Int.reduceToNat, s_bat] <;> omega
      refine OKs.mask (msk 89 [2, 7, 8, 9]) (OKs.mv [0, 1, 5] [] (by rw [hρ]; rfl) ⟨by decide, by simp [sizeH], by simp⟩ (ih _ _ ⟨_, _, _, _, _, rfl, rfl, ?_, ?_, ?_, ?_, ?_, ?_⟩ ?_))
      · simp (disch := omega) only [hA, OK, emaU, Int.reduceToNat, s_bat] <;> omega
      · simp (disch := omega) only [hA, OK, emaU, Int.reduceToNat, s_bat] <;> omega
      · show rdC (rdG tkR fs B (A.ib .add .i64 i 1).toNat).2 = _
        rw [hi', hnext]; exact hr5
      · show _ = (rdG tkR fs B (A.ib .add .i64 i 1).toNat).1.length
        rw [hi', hnext, List.length_append, ← hM, hA]; rfl
      · show _ = rsCs (rdG tkR fs B (A.ib .add .i64 i 1).toNat).1
        rw [hi', hnext]
        subst hA
        exact (congrArg (mvL _ _) (app_rs hM he' (rsC_yes _ _ _ _ _ _ hq))).trans (mvL_cl _ _ _ (clRs _))
      · show ∀ j, j < (A.ib .add .i64 i 1).toNat → goodR fs B j
        rw [show A.ib .add .i64 i 1 = i + 1 by simp (disch := omega) only [hA, OK, emaU, Int.reduceToNat, s_bat] <;> omega]
        exact allP_step hi1 hgood (hgd.2 ⟨hfl5, by omega, hb.1 rfl⟩)
      · simp (disch := omega) only [hA, OK, emaU, Int.reduceToNat, s_bat] <;> omega
  · have hx1 : leV R3.1 ≠ 1 := by omega
    have hq : A.ic .eql z3 1 = false := by rw [hA, s_eql]; exact decide_eq_false (by omega)
    have hit := itG_no (K := K) hR1 hR2 hR3 hx1
    rw [← hw1, ← hw2] at hit
    rw [hit] at hsk2 hgd hnext
    simp only at hgd hsk2 hnext
    refine CallOK.of (goodF_of F20_ok) (Tri.mono (Tri.args (hisS (by omega) _ hsk2.1 _) (UpL.cons (Up.refl _) (UpL.cons (rs_up_no _ _ hq) UpL.nil))) fun v hh hx => ?_)
    obtain ⟨⟨b, hv, hb⟩, hh'⟩ := hx
    subst hv; subst hh'
    have hfl5 := rdC_bad hr3
    with_reducible refine runK hA hd hQ 1 ?hk ?_
    case hk => exact trivial
    conv => arg 9; cbv
    try simp only [OK]
    cases d3 <;> cases b
    all_goals
      repeat' first | (with_reducible refine OKK.loop ?_) | (with_reducible refine OKK.again ?_) | ((with_reducible refine ⟨fun hbr => ?_, fun hbr => ?_⟩) <;> (try simp (disch := omega) only [hA, OK, emaU, Int.reduceToNat, s_bat, reduceCtorEq] at hbr) <;> (try (with_reducible exfalso; omega))) | ((with_reducible refine runK hA hd hQ 200 ?hk ?_); (case hk => exact trivial); (conv => arg 9; cbv); (try simp only [OK])) | ((with_reducible refine need_of ?hn ?_); (case hn => ((simp (disch := omega) only [hA, OK, emaU, Int.reduceToNat, s_bat]) <;> omega))) | fail
    all_goals try (
      have h8 := hbad2 (by omega) (fun h => by
        have h2 := hgd.1 h
        first
          | exact Bool.noConfusion (hfl5.symm.trans h2.1)
          | exact Bool.noConfusion (hb.2 h2.2.2)
          | (have h3 := h2.2.1; omega))
      exact ⟨_, rfl, .lit (.slice none 0 0), 0, [], by rw [h8]; rfl, Up.nil _, by rw [h8]; rfl, by rw [h8]; rfl⟩)
    ·
      have hi' : (A.ib .add .i64 i 1).toNat = i.toNat + 1 := by simp (disch := omega) only [hA, OK, emaU, Int.reduceToNat, s_bat] <;> omega
      refine OKs.mask (msk 89 [2, 7, 8, 9]) (OKs.mv [0, 1, 5] [] (by rw [hρ]; rfl) ⟨by decide, by simp [sizeH], by simp⟩ (ih _ _ ⟨_, _, _, _, _, rfl, rfl, ?_, ?_, ?_, ?_, ?_, ?_⟩ ?_))
      · simp (disch := omega) only [hA, OK, emaU, Int.reduceToNat, s_bat] <;> omega
      · simp (disch := omega) only [hA, OK, emaU, Int.reduceToNat, s_bat] <;> omega
      · show rdC (rdG tkR fs B (A.ib .add .i64 i 1).toNat).2 = _
        rw [hi', hnext]; exact hr3
      · show _ = (rdG tkR fs B (A.ib .add .i64 i 1).toNat).1.length
        rw [hi', hnext, List.length_append, ← hM, hA]; rfl
      · show _ = rsCs (rdG tkR fs B (A.ib .add .i64 i 1).toNat).1
        rw [hi', hnext]
        subst hA
        exact (congrArg (mvL _ _) (app_rs hM he' (rsC_no _ _ hq))).trans (mvL_cl _ _ _ (clRs _))
      · show ∀ j, j < (A.ib .add .i64 i 1).toNat → goodR fs B j
        rw [show A.ib .add .i64 i 1 = i + 1 by simp (disch := omega) only [hA, OK, emaU, Int.reduceToNat, s_bat] <;> omega]
        exact allP_step hi1 hgood (hgd.2 ⟨hfl5, by omega, hb.1 rfl⟩)
      · simp (disch := omega) only [hA, OK, emaU, Int.reduceToNat, s_bat] <;> omega
end Go.Proofs.YtecephhhjhpcjaaGreatDoor.Stats
end
section
set_option linter.unusedVariables false
set_option linter.unusedSimpArgs false
namespace Go.Proofs.YtecephhhjhpcjaaGreatDoor.Stats
open Go Go.Proofs.YtecephhhjhpcjaaGreatDoor Go.Proofs.YtecephhhjhpcjaaGreatDoor.Em
theorem leB_wr64 (n : Int) (w : Nat) (hw : w ≤ 8) : leB (stdA.wr .i64 n) w = leB n w := by
  obtain ⟨k, hk⟩ : ∃ k : Int, stdA.wr .i64 n = n + 18446744073709551616 * k := by
    show ∃ k, IntKind.i64.wrap n = _
    simp only [IntKind.wrap, IntKind.signed, IntKind.bits]
    simp
    split
    · exact ⟨-(n / 18446744073709551616) - 1, by omega⟩
    · exact ⟨-(n / 18446744073709551616), by omega⟩
  rw [hk]
  have h4 : (18446744073709551616 : Int) * k = 256 ^ w * (256 ^ (8 - w) * k) := by
    rw [← Int.mul_assoc, ← Int.pow_add, show w + (8 - w) = 8 by omega]; rfl
  rw [h4, leB_mod]
def raw1 (k : Int) (x : Nat) (s : StP) : List Nat := leB s.rows 4 ++ leB s.nulls 4 ++ (x :: (if x = 1 then bndB k s.l ++ bndB k s.m else []))
theorem bd_good {k : Int} {s : Rd} (h : (bdG tkR k s).2.2 = false) : bdG tkP k s = bdG tkR k s ∧ s.2 = false := by
  unfold bdG at h ⊢
  split at h
  · rename_i hk
    rw [if_pos hk]
    obtain ⟨a1, a2, _⟩ := tk_good (n := leV (tkR s 1).1) (s := (tkR s 1).2) h
    obtain ⟨b1, b2, _⟩ := tk_good (s := s) (n := 1) a2
    rw [b1, a1, if_pos hk]; exact ⟨rfl, b2⟩
  · rename_i hk
    rw [if_neg hk]
    obtain ⟨b1, b2, _⟩ := tk_good (s := s) (n := 8) h
    rw [b1, if_neg hk]; exact ⟨rfl, b2⟩
theorem bd_bad {k : Int} {s : Rd} (h : (bdG tkP k s).2.2 = false) : bdG tkP k s = bdG tkR k s ∧ s.2 = false := by
  unfold bdG at h ⊢
  split at h
  · rename_i hk
    rw [if_pos hk]
    obtain ⟨a1, a2⟩ := tk_bad (n := leV (tkP s 1).1) (s := (tkP s 1).2) h
    obtain ⟨b1, b2⟩ := tk_bad (s := s) (n := 1) a2
    rw [b1] at a1 ⊢
    rw [a1, if_pos hk]; exact ⟨rfl, b2⟩
  · rename_i hk
    rw [if_neg hk]
    obtain ⟨b1, b2⟩ := tk_bad (s := s) (n := 8) h
    rw [b1, if_neg hk]; exact ⟨rfl, b2⟩
theorem it_good {k : Int} {s : Rd} (h : (itG tkR k s).2.2.2 = false) : itG tkP k s = itG tkR k s ∧ s.2 = false := by
  by_cases hx : leV (tkR (tkR (tkR s 4).2 4).2 1).1 = 1
  · have e := itG_yes (tk := tkR) (K := k) (s := s) rfl rfl rfl hx
    rw [e] at h
    obtain ⟨a1, a2⟩ := bd_good (k := k) h
    obtain ⟨b1, b2⟩ := bd_good (k := k) a2
    obtain ⟨c1, c2, _⟩ := tk_good (n := 1) b2
    obtain ⟨d1, d2, _⟩ := tk_good (n := 4) c2
    obtain ⟨f1, f2, _⟩ := tk_good (n := 4) d2
    have e' := itG_yes (tk := tkP) (K := k) (s := s) (R1 := tkR s 4) (R2 := tkR (tkR s 4).2 4) (R3 := tkR (tkR (tkR s 4).2 4).2 1) f1.symm d1.symm c1.symm hx
    rw [e, e', b1, a1]; exact ⟨rfl, f2⟩
  · have e := itG_no (tk := tkR) (K := k) (s := s) rfl rfl rfl hx
    rw [e] at h
    obtain ⟨c1, c2, _⟩ := tk_good (n := 1) h
    obtain ⟨d1, d2, _⟩ := tk_good (n := 4) c2
    obtain ⟨f1, f2, _⟩ := tk_good (n := 4) d2
    have e' := itG_no (tk := tkP) (K := k) (s := s) (R1 := tkR s 4) (R2 := tkR (tkR s 4).2 4) (R3 := tkR (tkR (tkR s 4).2 4).2 1) f1.symm d1.symm c1.symm hx
    rw [e, e']; exact ⟨rfl, f2⟩
theorem it_bad {k : Int} {s : Rd} (h : (itG tkP k s).2.2.2 = false) : itG tkP k s = itG tkR k s ∧ s.2 = false := by
  by_cases hx : leV (tkP (tkP (tkP s 4).2 4).2 1).1 = 1
  · have e := itG_yes (tk := tkP) (K := k) (s := s) rfl rfl rfl hx
    rw [e] at h
    obtain ⟨a1, a2⟩ := bd_bad (k := k) h
    obtain ⟨b1, b2⟩ := bd_bad (k := k) a2
    obtain ⟨c1, c2⟩ := tk_bad (n := 1) b2
    obtain ⟨d1, d2⟩ := tk_bad (n := 4) c2
    obtain ⟨f1, f2⟩ := tk_bad (n := 4) d2
    have e' := itG_yes (tk := tkR) (K := k) (s := s) (R1 := tkP s 4) (R2 := tkP (tkP s 4).2 4) (R3 := tkP (tkP (tkP s 4).2 4).2 1) f1 d1 c1 hx
    rw [e, e', ← b1, ← a1]; exact ⟨rfl, f2⟩
  · have e := itG_no (tk := tkP) (K := k) (s := s) rfl rfl rfl hx
    rw [e] at h
    obtain ⟨c1, c2⟩ := tk_bad (n := 1) h
    obtain ⟨d1, d2⟩ := tk_bad (n := 4) c2
    obtain ⟨f1, f2⟩ := tk_bad (n := 4) d2
    have e' := itG_no (tk := tkR) (K := k) (s := s) (R1 := tkP s 4) (R2 := tkP (tkP s 4).2 4) (R3 := tkP (tkP (tkP s 4).2 4).2 1) f1 d1 c1 hx
    rw [e, e']; exact ⟨rfl, f2⟩
theorem rd_good {fs : List Fld} {B : List Nat} : ∀ i, (rdG tkR fs B i).2.2 = false → rdG tkP fs B i = rdG tkR fs B i
  | 0, _ => rfl
  | i + 1, h => by
    simp only [rdG] at h
    obtain ⟨h1, h2⟩ := it_good h
    have := rd_good i h2
    rw [rdG, rdG, this, h1]
theorem rd_bad {fs : List Fld} {B : List Nat} : ∀ i, (rdG tkP fs B i).2.2 = false → rdG tkP fs B i = rdG tkR fs B i
  | 0, _ => rfl
  | i + 1, h => by
    simp only [rdG] at h
    obtain ⟨h1, h2⟩ := it_bad h
    have := rd_bad i h2
    rw [this] at h1
    rw [rdG, rdG, this, h1]
theorem rd_flag {fs : List Fld} {B : List Nat} : ∀ i j, (rdG tkR fs B (i + j)).2.2 = false → (rdG tkR fs B i).2.2 = false
  | i, 0, h => h
  | i, j + 1, h => by
    rw [← Nat.add_assoc] at h
    simp only [rdG] at h
    exact rd_flag i j (it_good h).2
theorem bd_raw {k : Int} {s : Rd} (hs : okR s) (h : (bdG tkR k s).2.2 = false) : s.1 = bndB k (bdG tkR k s).1 ++ (bdG tkR k s).2.1 := by
  unfold bdG at h ⊢
  unfold bndB
  split at h
  · rename_i hk
    rw [if_pos hk, if_pos hk]
    obtain ⟨a1, a2, a3⟩ := tk_good (n := leV (tkR s 1).1) (s := (tkR s 1).2) h
    obtain ⟨b1, b2, b3⟩ := tk_good (s := s) (n := 1) a2
    have k1 := tkR_ok hs 1
    have k2 := tkR_ok k1.2.2 (leV (tkR s 1).1)
    generalize tkR s 1 = R1 at *
    simp only
    generalize tkR R1.2 (leV R1.1) = R2 at *
    rw [nats_strE k2.1, strE_size, k2.2.1]
    have hl := leV1 k1.1 k1.2.1
    obtain ⟨x, hx⟩ : ∃ x, R1.1 = [x] := List.length_eq_one_iff.1 k1.2.1
    rw [Nat.mod_eq_of_lt hl, b3, a3, hx]
    simp [leV]
  · rename_i hk
    rw [if_neg hk, if_neg hk]
    obtain ⟨b1, b2, b3⟩ := tk_good (s := s) (n := 8) h
    have k1 := tkR_ok hs 8
    generalize tkR s 8 = R1 at *
    simp only
    rw [leB_wr64 _ 8 (by omega)]
    have := leB_leV R1.1 k1.1
    rw [k1.2.1] at this
    rw [this, b3]
theorem it_raw {k : Int} {s : Rd} (hs : okR s) (h : (itG tkR k s).2.2.2 = false) : s.1 = raw1 k (itG tkR k s).2.1 (itG tkR k s).1 ++ (itG tkR k s).2.2.1 := by
  have k1 := tkR_ok hs 4
  have k2 := tkR_ok k1.2.2 4
  have k3 := tkR_ok k2.2.2 1
  have l1 := leB_leV _ k1.1
  have l2 := leB_leV _ k2.1
  rw [k1.2.1] at l1
  rw [k2.2.1] at l2
  obtain ⟨x, hxx⟩ : ∃ x, (tkR (tkR (tkR s 4).2 4).2 1).1 = [x] := List.length_eq_one_iff.1 k3.2.1
  have hxv : leV (tkR (tkR (tkR s 4).2 4).2 1).1 = x := by rw [hxx]; simp [leV]
  by_cases hx : leV (tkR (tkR (tkR s 4).2 4).2 1).1 = 1
  · have e := itG_yes (tk := tkR) (K := k) (s := s) rfl rfl rfl hx
    rw [e] at h ⊢
    obtain ⟨a1, a2⟩ := bd_good (k := k) h
    obtain ⟨b1, b2⟩ := bd_good (k := k) a2
    obtain ⟨c1, c2, c3⟩ := tk_good (n := 1) b2
    obtain ⟨d1, d2, d3⟩ := tk_good (n := 4) c2
    obtain ⟨f1, f2, f3⟩ := tk_good (n := 4) d2
    have r1 := bd_raw (bdG_ok (fun s n h => tkR_ok h n) k3.2.2) h
    have r2 := bd_raw k3.2.2 a2
    unfold raw1
    simp only
    rw [if_pos hx, l1, l2, hxv]
    rw [hxx] at c3
    rw [f3, d3, c3, r2, r1]
    simp
  · have e := itG_no (tk := tkR) (K := k) (s := s) rfl rfl rfl hx
    rw [e] at h ⊢
    obtain ⟨c1, c2, c3⟩ := tk_good (n := 1) h
    obtain ⟨d1, d2, d3⟩ := tk_good (n := 4) c2
    obtain ⟨f1, f2, f3⟩ := tk_good (n := 4) d2
    unfold raw1
    simp only
    rw [if_neg hx, l1, l2, hxv]
    rw [hxx] at c3
    rw [f3, d3, c3]
    simp
theorem it_has (tk : Rd → Nat → List Nat × Rd) (k : Int) (s : Rd) : (itG tk k s).1.has = decide ((itG tk k s).2.1 = 1) := by
  unfold itG
  simp only
  split
  · rename_i h; simp [h]
  · rename_i h; simp [h]
theorem raw_put {k : Int} {x : Nat} {s : StP} (h : s.has = decide (x = 1)) : (raw1 k x s).length = (putS k s).length ∧ (raw1 k x s = putS k s ↔ x ≤ 1) := by
  unfold raw1 putS
  by_cases hx : x = 1
  · subst hx
    rw [h]; simp
  · rw [h]
    simp only [hx, decide_false, if_false, Bool.false_eq_true]
    refine ⟨rfl, ?_⟩
    simp only [List.append_cancel_left_eq, List.cons.injEq, and_true]
    omega
noncomputable def rawN (fs : List Fld) (B : List Nat) : Nat → List Nat
  | 0 => []
  | i + 1 => rawN fs B i ++ raw1 (ck (fs.getD i fld0)) (hasG tkR fs B i) (itG tkR (ck (fs.getD i fld0)) (rdG tkR fs B i).2).1
noncomputable def putM (fs : List Fld) (B : List Nat) : Nat → List Nat
  | 0 => []
  | i + 1 => putM fs B i ++ putS (ck (fs.getD i fld0)) (itG tkR (ck (fs.getD i fld0)) (rdG tkR fs B i).2).1
theorem rdG_get (tk fs B) : ∀ n j, j < n → (rdG tk fs B n).1.getD j st0 = (itG tk (ck (fs.getD j fld0)) (rdG tk fs B j).2).1
  | 0, j, h => by omega
  | n + 1, j, h => by
    have hl := rdG_len tk fs B n
    simp only [rdG]
    by_cases hj : j < n
    · rw [List.getD_eq_getElem?_getD, List.getElem?_append_left (by omega), ← List.getD_eq_getElem?_getD, rdG_get tk fs B n j hj]
    · obtain rfl : j = n := by omega
      rw [List.getD_eq_getElem?_getD, List.getElem?_append_right (by omega), hl]; simp
theorem putN_M (fs B) (n : Nat) : ∀ i, i ≤ n → putN fs (rdG tkR fs B n).1 i = putM fs B i
  | 0, _ => rfl
  | i + 1, h => by rw [putN, putM, putN_M fs B n i (by omega), rdG_get _ _ _ _ _ (by omega)]
theorem raw_all {fs : List Fld} {B : List Nat} (hB : okR (B, false)) : ∀ i, (rdG tkR fs B i).2.2 = false → B = rawN fs B i ++ (rdG tkR fs B i).2.1
  | 0, _ => rfl
  | i + 1, h => by
    have h0 := rd_flag i 1 h
    have ih := raw_all hB i h0
    simp only [rdG] at h
    have := it_raw (rdG_ok (fun s n h => tkR_ok h n) (fs := fs) hB i) h
    rw [rawN, rdG]
    simp only [hasG]
    rw [List.append_assoc, ← this]
    exact ih
theorem raw_len (fs B) : ∀ i, (rawN fs B i).length = (putM fs B i).length
  | 0 => rfl
  | i + 1 => by simp only [rawN, putM, List.length_append, raw_len fs B i, (raw_put (k := ck (fs.getD i fld0)) (it_has tkR (ck (fs.getD i fld0)) (rdG tkR fs B i).2)).1, hasG]
theorem raw_eq (fs B) : ∀ i, rawN fs B i = putM fs B i ↔ ∀ j, j < i → hasG tkR fs B j ≤ 1
  | 0 => by simp [rawN, putM]
  | i + 1 => by
    have hp := raw_put (k := ck (fs.getD i fld0)) (it_has tkR (ck (fs.getD i fld0)) (rdG tkR fs B i).2)
    rw [rawN, putM]
    constructor
    · intro h j hj
      obtain ⟨h1, h2⟩ := List.append_inj h (raw_len fs B i)
      by_cases hji : j < i
      · exact (raw_eq fs B i).1 h1 j hji
      · obtain rfl : j = i := by omega
        exact hp.2.1 h2
    · intro h
      rw [(raw_eq fs B i).2 fun j hj => h j (by omega)]
      congr 1
      exact hp.2.2 (h i (by omega))
theorem get_same (fs : List Fld) (ns : List Nt) (B : List Nat) (hB : okR (B, false)) : getP fs ns B = getR fs ns B := by
  unfold getP getR
  by_cases hm : mayS fs ns
  · rw [if_neg (not_not_intro hm), if_neg (not_not_intro hm)]
    simp only
    have hl := rdG_len tkP fs B fs.length
    by_cases hp : (rdG tkP fs B fs.length).2.2 = true ∨ fitE fs ns (rdG tkP fs B fs.length).1 ≠ 0 ∨ putN fs (rdG tkP fs B fs.length).1 (rdG tkP fs B fs.length).1.length ≠ B
    · rw [if_pos hp]
      by_cases hr : (∀ i, i < fs.length → goodR fs B i) ∧ (rdG tkR fs B fs.length).2.1 = []
      · exfalso
        obtain ⟨h1, h2⟩ := hr
        have hf : (rdG tkR fs B fs.length).2.2 = false := by
          cases hn : fs.length with
          | zero => rfl
          | succ n => exact (h1 n (by omega)).1
        have he := rd_good fs.length hf
        have hbt := raw_all hB fs.length hf
        rw [h2, List.append_nil, (raw_eq fs B fs.length).2 fun j hj => (h1 j hj).2.1] at hbt
        rw [he] at hp hl
        rw [hl, putN_M fs B fs.length fs.length (Nat.le_refl _), ← hbt, hf] at hp
        rcases hp with hp | hp | hp
        · cases hp
        · refine hp (fitE_ok hm hl fun i hi => ?_)
          rw [rdG_get _ _ _ _ _ (by omega)]
          exact (h1 i (by omega)).2.2
        · exact hp rfl
      · rw [if_neg hr]
    · rw [if_neg hp]
      have hp1 : (rdG tkP fs B fs.length).2.2 = false := by
        cases h : (rdG tkP fs B fs.length).2.2 with
        | false => rfl
        | true => exact absurd (.inl h) hp
      have hp2 : fitE fs ns (rdG tkP fs B fs.length).1 = 0 := Classical.byContradiction fun h => hp (.inr (.inl h))
      have hp3 : putN fs (rdG tkP fs B fs.length).1 (rdG tkP fs B fs.length).1.length = B := Classical.byContradiction fun h => hp (.inr (.inr h))
      have he := rd_bad fs.length hp1
      rw [he] at hp1 hp2 hp3 hl ⊢
      rw [hl, putN_M fs B fs.length fs.length (Nat.le_refl _)] at hp3
      have hbt := raw_all hB fs.length hp1
      have hlen := raw_len fs B fs.length
      have hrest : (rdG tkR fs B fs.length).2.1 = [] := by
        have h1 := congrArg List.length hbt
        rw [List.length_append, hlen, hp3] at h1
        exact List.length_eq_zero_iff.1 (by omega)
      rw [hrest, List.append_nil] at hbt
      have hhas := (raw_eq fs B fs.length).1 (by rw [hp3]; exact hbt.symm)
      have hmay := (fitE_inv hp2).2.2
      have hgood : ∀ i, i < fs.length → goodR fs B i := fun i hi =>
        ⟨rd_flag (i + 1) (fs.length - (i + 1)) (by rw [show i + 1 + (fs.length - (i + 1)) = fs.length by omega]; exact hp1), hhas i hi, by
          have := hmay i (by omega)
          rwa [rdG_get _ _ _ _ _ hi] at this⟩
      rw [if_pos ⟨hgood, hrest⟩]
  · rw [if_pos hm, if_pos hm]
theorem get_put {fs : List Fld} {ns : List Nt} {B : List Nat} (h : (getP fs ns B).2 = 0) : fitE fs ns (getP fs ns B).1 = 0 ∧ putB fs ns (getP fs ns B).1 = B ∧ (getP fs ns B).1 = (rdG tkP fs B fs.length).1 := by
  unfold getP at h ⊢
  by_cases hm : mayS fs ns
  · rw [if_neg (not_not_intro hm)] at h ⊢
    simp only at h ⊢
    by_cases hp : (rdG tkP fs B fs.length).2.2 = true ∨ fitE fs ns (rdG tkP fs B fs.length).1 ≠ 0 ∨ putN fs (rdG tkP fs B fs.length).1 (rdG tkP fs B fs.length).1.length ≠ B
    · rw [if_pos hp] at h; simp at h
    · rw [if_neg hp]
      have hp2 : fitE fs ns (rdG tkP fs B fs.length).1 = 0 := Classical.byContradiction fun h => hp (.inr (.inl h))
      have hp3 : putN fs (rdG tkP fs B fs.length).1 (rdG tkP fs B fs.length).1.length = B := Classical.byContradiction fun h => hp (.inr (.inr h))
      exact ⟨hp2, by unfold putB; rw [if_pos hp2]; exact hp3, rfl⟩
  · rw [if_pos hm] at h; simp at h
end Go.Proofs.YtecephhhjhpcjaaGreatDoor.Stats
end
section
set_option linter.unusedVariables false
set_option linter.unusedSimpArgs false
-- emaX: s_bat
namespace Go.Proofs.YtecephhhjhpcjaaGreatDoor.Stats
open Go Go.Proofs.YtecephhhjhpcjaaGreatDoor Go.Proofs.YtecephhhjhpcjaaGreatDoor.Em
theorem itG_same (tk : Rd → Nat → List Nat × Rd) (k : Int) (s : Rd) : (itG tk k s).1.same (itG tk k s).1 := by
  have hb : ∀ s, (bdG tk k s).1.same (bdG tk k s).1 := fun s => by
    unfold bdG
    split <;> exact ⟨rfl, rfl, rfl, rfl, rfl⟩
  unfold itG
  simp only
  split
  · exact ⟨rfl, rfl, rfl, hb _, hb _⟩
  · exact ⟨rfl, rfl, rfl, same0, same0⟩
theorem rdG_same (tk fs B) : ∀ i, ∀ s ∈ (rdG tk fs B i).1, s.same s
  | 0 => fun s hs => by cases hs
  | i + 1 => fun s hs => by
    rcases List.mem_append.1 hs with hs | hs
    · exact rdG_same tk fs B i s hs
    · simp at hs; subst hs; exact itG_same _ _ _
theorem getP_all (fs ns B) (hB : okR (B, false)) : okSs (getP fs ns B).1 ∧ (∀ s ∈ (getP fs ns B).1, s.same s) ∧ (getP fs ns B).1.length ≤ 32 := by
  unfold getP
  by_cases hm : mayS fs ns
  · rw [if_neg (not_not_intro hm)]
    simp only
    split
    · exact ⟨trivial, fun s hs => (by cases hs), by simp⟩
    · exact ⟨(rdG_sok (fun s n h => tkP_ok h n) hB _).1, rdG_same _ _ _ _, by rw [rdG_len]; exact hm.1⟩
  · rw [if_pos hm]; exact ⟨trivial, fun s hs => (by cases hs), by simp⟩
set_option maxRecDepth 100000 in
set_option maxHeartbeats 4000000 in
theorem sameAll_ok (l : List StP) (hs : ∀ s ∈ l, s.same s) (hl : l.length ≤ 32) (h : EH) : Tri Tryz.prog gs 14 [.isl l.length none (cellsSs l), .isl l.length none (cellsSs l)] h fun v h' => IsP True v ∧ h' = h := by
  refine Tri.boolC rfl (Tri_of F14_ok fun I0 ρ0 w0 Q hρ hQ => ?_) h
  obtain ⟨A, hA⟩ : ∃ A, A = stdA := ⟨_, rfl⟩
  have hsg := st_get l
  obtain ⟨n, hn⟩ : ∃ n, n = l.length := ⟨_, rfl⟩
  obtain ⟨c, hc⟩ : ∃ c, c = cellsSs l := ⟨_, rfl⟩
  rw [← hn, ← hc]
  with_reducible refine runS hA hd hQ 200 ?hk ?_
  case hk => exact trivial
  conv => arg 9; cbv
  try simp only [OK]
  repeat' first | (with_reducible refine OKK.loop ?_) | (with_reducible refine OKK.again ?_) | ((with_reducible refine ⟨fun hbr => ?_, fun hbr => ?_⟩) <;> (try simp (disch := omega) only [hA, OK, emaU, Int.reduceToNat, s_bat, reduceCtorEq] at hbr) <;> (try (with_reducible exfalso; omega))) | ((with_reducible refine runK hA hd hQ 200 ?hk ?_); (case hk => exact trivial); (conv => arg 9; cbv); (try simp only [OK])) | ((with_reducible refine need_of ?hn ?_); (case hn => ((simp (disch := omega) only [hA, OK, emaU, Int.reduceToNat, s_bat]) <;> omega))) | fail
  refine OKs.mask (msk 27 [0, 1, 5]) ?_
  refine OKs.loopN (fun k st => ∃ i : Int, st = ⟨mkT 27 [(0, .isl n none c), (1, .isl n none c), (5, .lit (.int .i64 i))], []⟩ ∧ k = (n - i).toNat ∧ 0 ≤ i ∧ i ≤ n)
    (fun k st hs' ih => ?_) ⟨0, rfl, rfl, by omega, by omega⟩
  obtain ⟨i, rfl, hk, hi1, hi2⟩ := hs'
  obtain ⟨s, hs0⟩ : ∃ s, s = l.getD i.toNat st0 := ⟨_, rfl⟩
  have hsm := fun h : i < n => sameSR_ok s s (hs s (by rw [hs0, List.getD_eq_getElem?_getD, List.getElem?_eq_getElem (by omega)]; exact List.getElem_mem _))
  have hL : i < n → List.take 11 (List.drop (A.idx 0 i 11) c) = s.cells := fun h => by rw [hA, s_idx, Nat.zero_add, hc, hsg i.toNat (by omega), ← hs0]
  clear hs0
  obtain ⟨r, nl, hs1, ⟨b1, n1, t1, l1, c1⟩, ⟨b2, n2, t2, l2, c2⟩⟩ := s
  simp only [StP.cells, VP.cells, List.cons_append, List.nil_append] at hL hsm
  with_reducible refine runS hA hd hQ 200 ?hk ?_
  case hk => exact trivial
  conv => arg 9; cbv
  try simp only [OK]
  repeat' first | (with_reducible refine OKK.loop ?_) | (with_reducible refine OKK.again ?_) | ((with_reducible refine ⟨fun hbr => ?_, fun hbr => ?_⟩) <;> (try simp (disch := omega) only [hA, OK, emaU, Int.reduceToNat, s_bat, reduceCtorEq] at hbr) <;> (try (with_reducible exfalso; omega))) | ((with_reducible refine runK hA hd hQ 200 ?hk ?_); (case hk => exact trivial); (conv => arg 9; cbv); (try simp only [OK])) | ((with_reducible refine need_of ?hn ?_); (case hn => ((simp (disch := omega) only [hA, OK, emaU, Int.reduceToNat, s_bat]) <;> omega))) | ((refine ⟨_, _, ?l1, (hL (by omega)), rfl, ?_⟩); (case l1 => exact rfl)) | (refine CallOK.of (goodF_of F8_ok) (Tri.mono (hsm (by omega) _) fun v hh hx => ?_); (obtain ⟨⟨b, hv, hb⟩, he⟩ := hx; subst hv; subst he; cases b <;> simp (disch := omega) only [hA, OK, emaU, Int.reduceToNat, s_bat, Bool.false_eq_true, true_iff, false_iff, eq_self, reduceCtorEq] at hb) <;> (try (with_reducible exfalso; omega))) | fail
  all_goals try (refine OKs.mask (msk 27 [0, 1, 5]) (ih _ _ ⟨_, rfl, rfl, ?_, ?_⟩ ?_))
  all_goals (try (with_reducible refine FinR.self ?_; first | refine FinR.bl rfl ?_ | refine FinR.bs rfl ?_ | refine FinR.blh rfl ?_ rfl | refine FinR.bsh rfl ?_ rfl))
  all_goals (try simp (disch := omega) only [hA, OK, emaU, Int.reduceToNat, s_bat, Bool.false_eq_true, true_iff, false_iff, eq_self, iff_true, iff_false])
  all_goals first
    | omega
    | exact absurd trivial (by assumption)
theorem get_ok (fs : List Fld) (ns : List Nt) (hfs : fs.length ≤ 140737488351232) (hns : ns.length ≤ 140737488351232) (hok : okFs fs) (hnt : ∀ x ∈ ns, x.1.size ≤ 140737488351232 ∧ x.2.size ≤ 140737488351232) (B : List Nat) (hB : okR (B, false)) (h : EH) :
    Tri Tryz.prog gs 12 [.agg [.isl fs.length none (cellsFs fs), .isl ns.length none (cellsNts ns)], isB B] h fun v h' => (∃ n c, v = .tup [.isl n none c, .lit (.int .i64 (getP fs ns B).2)] ∧ n = (getP fs ns B).1.length ∧ c = cellsSs (getP fs ns B).1) ∧ h' = h :=
  Tri.litC (φ := fun v => ∃ n c, v = .tup [.isl n none c, .lit (.int .i64 (getP fs ns B).2)] ∧ n = (getP fs ns B).1.length ∧ c = cellsSs (getP fs ns B).1) (fun v ⟨n, c, e, _⟩ => by rw [e]; rfl) rfl (get_pre fs ns hfs hns hok hnt B hB) h
theorem getR_ok (fs : List Fld) (ns : List Nt) (hfs : fs.length ≤ 140737488351232) (hns : ns.length ≤ 140737488351232) (hok : okFs fs) (hnt : ∀ x ∈ ns, x.1.size ≤ 140737488351232 ∧ x.2.size ≤ 140737488351232) (B : List Nat) (hB : okR (B, false)) (h : EH) :
    Tri Tryz.prog gs 13 [.agg [.isl fs.length none (cellsFs fs), .isl ns.length none (cellsNts ns)], isB B] h fun v h' => (∃ n c, v = .tup [.isl n none c, .lit (.int .i64 (getP fs ns B).2)] ∧ n = (getP fs ns B).1.length ∧ c = cellsSs (getP fs ns B).1) ∧ h' = h := by
  rw [get_same fs ns B hB]
  exact Tri.litC (φ := fun v => ∃ n c, v = .tup [.isl n none c, .lit (.int .i64 (getR fs ns B).2)] ∧ n = (getR fs ns B).1.length ∧ c = cellsSs (getR fs ns B).1) (fun v ⟨n, c, e, _⟩ => by rw [e]; rfl) rfl (getR_pre fs ns hfs hns hok hnt B hB) h
set_option maxRecDepth 100000 in
set_option maxHeartbeats 8000000 in
theorem gets_ok (fs : List Fld) (ns : List Nt) (hfs : fs.length ≤ 140737488351232) (hns : ns.length ≤ 140737488351232) (hok : okFs fs) (hnt : ∀ x ∈ ns, x.1.size ≤ 140737488351232 ∧ x.2.size ≤ 140737488351232) (B : List Nat) (hB : okR (B, false)) (h : EH) :
    Tri Tryz.prog gs 5 [.agg [.isl fs.length none (cellsFs fs), .isl ns.length none (cellsNts ns)], isB B] h fun v h' => IsP True v ∧ h' = h := by
  refine Tri.boolC rfl (Tri_of F5_ok fun I0 ρ0 w0 Q hρ hQ => ?_) h
  obtain ⟨A, hA⟩ : ∃ A, A = stdA := ⟨_, rfl⟩
  have hg := get_ok fs ns hfs hns hok hnt B hB
  have hg2 := getR_ok fs ns hfs hns hok hnt B hB
  obtain ⟨ho, hsm, hl32⟩ := getP_all fs ns B hB
  have hgp := get_put (fs := fs) (ns := ns) (B := B)
  generalize getP fs ns B = G0 at hg hg2 ho hsm hl32 hgp
  obtain ⟨L, E⟩ := G0
  simp only at hg hg2 ho hsm hl32 hgp
  have hsa := sameAll_ok L hsm hl32
  have hp := put_ok fs ns L hfs hns hok hnt (by omega) ho
  have hp2 : E = 0 → ∀ h : EH, Tri Tryz.prog gs 10 [.agg [.isl fs.length none (cellsFs fs), .isl ns.length none (cellsNts ns)], .isl L.length none (cellsSs L)] h fun v h' => v = .tup [isB B, .lit (.int .i64 0)] ∧ h' = h := fun h0 h => by
    have := hp h
    rwa [(hgp h0).1, (hgp h0).2.1] at this
  obtain ⟨bn, bc, hbi, hbn, hbc⟩ := isB_open B
  have hby : A.byt bn bc = true := by rw [hA, hbc, hbn]; exact byt_ok hB.1 (Nat.le_refl _)
  have hsame : A.ss .eql (A.dec (A.tak bn bc)) (A.dec (A.tak bn bc)) = true := by rw [hA, s_eqlB]; exact decide_eq_true rfl
  rw [hbi] at hg hg2 hp2 ⊢
  clear hp hgp
  generalize L.length = ln, cellsSs L = lc at hg hg2 hp2 hsa
  generalize fs.length = fn, cellsFs fs = fc, ns.length = nn, cellsNts ns = nc at *
  with_reducible refine runS hA hd hQ 200 ?hk ?_
  case hk => exact trivial
  conv => arg 9; cbv
  try simp only [OK]
  repeat' first | ((with_reducible refine ⟨fun hbr => ?_, fun hbr => ?_⟩) <;> (try simp (disch := omega) only [hA, OK, emaU, Int.reduceToNat, s_bat, reduceCtorEq] at hbr) <;> (try (with_reducible exfalso; omega))) | ((with_reducible refine runK hA hd hQ 200 ?hk ?_); (case hk => exact trivial); (conv => arg 9; cbv); (try simp only [OK])) | ((with_reducible refine need_of ?hn ?_); (case hn => ((simp (disch := omega) only [hA, OK, emaU, Int.reduceToNat, s_bat]) <;> omega))) | fail
  refine CallOK.of (goodF_of F12_ok) (Tri.mono (hg _) fun v hh hx => ?_)
  obtain ⟨⟨n1, c1, hv, e1, e2⟩, hh'⟩ := hx
  subst hv; subst hh'; subst e1; subst e2
  with_reducible refine runK hA hd hQ 1 ?hk ?_
  case hk => exact trivial
  conv => arg 9; cbv
  try simp only [OK]
  repeat' first | ((with_reducible refine ⟨fun hbr => ?_, fun hbr => ?_⟩) <;> (try simp (disch := omega) only [hA, OK, emaU, Int.reduceToNat, s_bat, reduceCtorEq] at hbr) <;> (try (with_reducible exfalso; omega))) | ((with_reducible refine runK hA hd hQ 200 ?hk ?_); (case hk => exact trivial); (conv => arg 9; cbv); (try simp only [OK])) | ((with_reducible refine need_of ?hn ?_); (case hn => ((simp (disch := omega) only [hA, OK, emaU, Int.reduceToNat, s_bat]) <;> omega))) | fail
  refine CallOK.of (goodF_of F13_ok) (Tri.mono (hg2 _) fun v hh hx => ?_)
  obtain ⟨⟨n2, c2, hv, e1, e2⟩, hh'⟩ := hx
  subst hv; subst hh'; subst e1; subst e2
  with_reducible refine runK hA hd hQ 1 ?hk ?_
  case hk => exact trivial
  conv => arg 9; cbv
  try simp only [OK]
  repeat' first | ((with_reducible refine ⟨fun hbr => ?_, fun hbr => ?_⟩) <;> (try simp (disch := omega) only [hA, OK, emaU, Int.reduceToNat, s_bat, reduceCtorEq] at hbr) <;> (try (with_reducible exfalso; omega))) | ((with_reducible refine runK hA hd hQ 200 ?hk ?_); (case hk => exact trivial); (conv => arg 9; cbv); (try simp only [OK])) | ((with_reducible refine need_of ?hn ?_); (case hn => ((simp (disch := omega) only [hA, OK, emaU, Int.reduceToNat, s_bat]) <;> omega))) | (refine CallOK.of (goodF_of F9_ok) (Tri.mono (fixedP_ok _) fun v hh hx => ?_); (obtain ⟨⟨b, hv, hb⟩, he⟩ := hx; subst hv; subst he; cases b <;> simp (disch := omega) only [hA, OK, emaU, Int.reduceToNat, s_bat, Bool.false_eq_true, true_iff, false_iff, eq_self, reduceCtorEq] at hb) <;> (try (with_reducible exfalso; omega))) | (refine CallOK.of (goodF_of F14_ok) (Tri.mono (hsa _) fun v hh hx => ?_); (obtain ⟨⟨b, hv, hb⟩, he⟩ := hx; subst hv; subst he; cases b <;> simp (disch := omega) only [hA, OK, emaU, Int.reduceToNat, s_bat, Bool.false_eq_true, true_iff, false_iff, eq_self, reduceCtorEq] at hb) <;> (try (with_reducible exfalso; omega))) | fail
  all_goals try (exact absurd trivial (by assumption : ¬ True))
  · refine CallOK.of (goodF_of F10_ok) (Tri.mono (hp2 (by omega) _) fun v hh hx => ?_)
    obtain ⟨hv, hh'⟩ := hx
    subst hv; subst hh'
    with_reducible refine runK hA hd hQ 1 ?hk ?_
    case hk => exact trivial
    conv => arg 9; cbv
    try simp only [OK]
    repeat' first | ((with_reducible refine ⟨fun hbr => ?_, fun hbr => ?_⟩) <;> (try simp (disch := omega) only [hA, OK, emaU, Int.reduceToNat, s_bat, reduceCtorEq] at hbr) <;> (try (with_reducible exfalso; omega))) | ((with_reducible refine runK hA hd hQ 200 ?hk ?_); (case hk => exact trivial); (conv => arg 9; cbv); (try simp only [OK])) | ((with_reducible refine need_of ?hn ?_); (case hn => ((simp (disch := omega) only [hA, OK, emaU, Int.reduceToNat, s_bat]) <;> omega))) | fail
    rotate_left 1
    · first
        | exact absurd trivial (by assumption)
        | exact absurd rfl (by assumption)
        | (simp_all; done)
    refine ⟨hby, hby, ?_⟩
    refine ⟨fun hbr => ?_, fun hbr => ?_⟩
    · with_reducible refine runK hA hd hQ 1 ?hk ?_
      case hk => exact trivial
      conv => arg 9; cbv
      try simp only [OK]
      repeat' first | ((with_reducible refine ⟨fun hbr => ?_, fun hbr => ?_⟩) <;> (try simp (disch := omega) only [hA, OK, emaU, Int.reduceToNat, s_bat, reduceCtorEq] at hbr) <;> (try (with_reducible exfalso; omega))) | ((with_reducible refine runK hA hd hQ 200 ?hk ?_); (case hk => exact trivial); (conv => arg 9; cbv); (try simp only [OK])) | ((with_reducible refine need_of ?hn ?_); (case hn => ((simp (disch := omega) only [hA, OK, emaU, Int.reduceToNat, s_bat]) <;> omega))) | (refine CallOK.of (goodF_of F9_ok) (Tri.mono (fixedP_ok _) fun v hh hx => ?_); (obtain ⟨⟨b, hv, hb⟩, he⟩ := hx; subst hv; subst he; cases b <;> simp (disch := omega) only [hA, OK, emaU, Int.reduceToNat, s_bat, Bool.false_eq_true, true_iff, false_iff, eq_self, reduceCtorEq] at hb) <;> (try (with_reducible exfalso; omega))) | fail
      all_goals (try (with_reducible refine FinR.self ?_; first | refine FinR.bl rfl ?_ | refine FinR.bs rfl ?_ | refine FinR.blh rfl ?_ rfl | refine FinR.bsh rfl ?_ rfl))
      all_goals (try simp (disch := omega) only [hA, OK, emaU, Int.reduceToNat, s_bat, Bool.false_eq_true, true_iff, false_iff, eq_self, iff_true, iff_false])
      all_goals exact absurd trivial (by assumption)
    · with_reducible exfalso
      exact Bool.noConfusion (hbr.symm.trans hsame)
  all_goals (try (with_reducible refine FinR.self ?_; first | refine FinR.bl rfl ?_ | refine FinR.bs rfl ?_ | refine FinR.blh rfl ?_ rfl | refine FinR.bsh rfl ?_ rfl))
  all_goals (try simp (disch := omega) only [hA, OK, emaU, Int.reduceToNat, s_bat, Bool.false_eq_true, true_iff, false_iff, eq_self, iff_true, iff_false])
  all_goals exact absurd trivial (by assumption)
end Go.Proofs.YtecephhhjhpcjaaGreatDoor.Stats
end
section
set_option linter.unusedVariables false
namespace Go.Proofs.YtecephhhjhpcjaaGreatDoor.Stats
open Go Go.Proofs.YtecephhhjhpcjaaGreatDoor Go.Proofs.YtecephhhjhpcjaaGreatDoor.Em
theorem cells_note : Tryz.prog.cellsOf 102 = 2 := by kernel_rfl
theorem cells_notes : Tryz.prog.cellsOf 38 = 1 := by kernel_rfl
theorem cells_byte : Tryz.prog.cellsOf 5 = 1 := by kernel_rfl
theorem hasNote {m : Nat} {c : List EV} (h : HasT Tryz.prog m 102 c) : ∃ x : Nt, c = cellsNt x ∧ (x.1.size ≤ 140737488351232 ∧ x.2.size ≤ 140737488351232) := by
  obtain ⟨m1, rfl, g1⟩ := HasT.struct Tryz.underlying102 h
  obtain ⟨_, h1, g2⟩ := HasTF.cons g1 rfl cells_string
  obtain ⟨_, h2, g3⟩ := HasTF.cons g2 rfl cells_string
  have h3 := HasTF.nil g3
  obtain ⟨a, e1, q1⟩ := HasT.str Tryz.underlying9 h1
  obtain ⟨b, e2, q2⟩ := HasT.str Tryz.underlying9 h2
  refine ⟨(a, b), ?_, q1, q2⟩
  rw [cut1 e1, cut1 e2, h3]; rfl
set_option maxRecDepth 100000 in
theorem hasSchema {m : Nat} {c : List EV} (h : HasT Tryz.prog m 40 c) : ∃ (fs : List Fld) (ns : List Nt), c = [.isl fs.length none (cellsFs fs), .isl ns.length none (cellsNts ns)] ∧ fs.length ≤ 140737488351232 ∧ ns.length ≤ 140737488351232 ∧ okFs fs ∧ ∀ x ∈ ns, x.1.size ≤ 140737488351232 ∧ x.2.size ≤ 140737488351232 := by
  obtain ⟨m1, rfl, g1⟩ := HasT.struct Tryz.underlying40 h
  obtain ⟨_, h1, g2⟩ := HasTF.cons g1 rfl cells_fields
  obtain ⟨_, h2, g3⟩ := HasTF.cons g2 rfl cells_notes
  have h3 := HasTF.nil g3
  obtain ⟨m3, len, l, rfl, e1, q1, hl, hk⟩ := HasT.slice Tryz.underlying22 cells_field h1
  obtain ⟨fs, k1, k2, k3⟩ := pieces_of (n := 7) (cells := cellsF) (cellss := cellsFs) (ok := okF) (oks := okFs) rfl (fun _ _ => rfl) trivial (fun _ _ a b => ⟨a, b⟩) len l hl (fun i hi => hasFld _ _ (hk i hi))
  obtain ⟨m4, len', l', _, e2, q2, hl', hk'⟩ := HasT.slice Tryz.underlying38 cells_note h2
  obtain ⟨ns, j1, j2, j3⟩ := pieces_of (n := 2) (cells := cellsNt) (cellss := cellsNts) (ok := fun x : Nt => x.1.size ≤ 140737488351232 ∧ x.2.size ≤ 140737488351232) (oks := fun l => ∀ x ∈ l, x.1.size ≤ 140737488351232 ∧ x.2.size ≤ 140737488351232) rfl (fun _ _ => rfl) (by simp) (fun a l ha hl x hx => by
    rcases List.mem_cons.1 hx with rfl | hx
    · exact ha
    · exact hl x hx) len' l' hl' (fun i hi => hasNote (hk' i hi))
  refine ⟨fs, ns, ?_, by omega, by omega, k3, j3⟩
  rw [cut1 e1, cut1 e2, h3, k1, j1, k2, j2]
end Go.Proofs.YtecephhhjhpcjaaGreatDoor.Stats
end
section
set_option linter.unusedVariables false
namespace Go.Proofs.YtecephhhjhpcjaaGreatDoor.Stats
open Go Go.Proofs.YtecephhhjhpcjaaGreatDoor Go.Proofs.YtecephhhjhpcjaaGreatDoor.Em
theorem hasByte {m : Nat} {c : List EV} (h : HasT Tryz.prog m 5 c) : ∃ x : Nat, c = [byteV x] ∧ x < 256 := by
  obtain ⟨n, e, h1, h2⟩ := HasT.int Tryz.underlying5 h
  have h1 : (0 : Int) ≤ n := h1
  have h2 : n ≤ 255 := h2
  exact ⟨n.toNat, by rw [e, byteV, show ((n.toNat : Nat) : Int) = n by omega], by omega⟩
theorem hasBytes {m : Nat} {c : List EV} (h : HasT Tryz.prog m 42 c) : ∃ l : List Nat, c = [isB l] ∧ okR (l, false) := by
  obtain ⟨m3, len, l, rfl, e9, q9, hl, hk⟩ := HasT.slice Tryz.underlying42 cells_byte h
  obtain ⟨kids, k1, k2, k3⟩ := pieces_of (n := 1) (cells := fun x : Nat => [byteV x]) (cellss := bytesE) (ok := fun x => x < 256) (oks := AllB) rfl (fun _ _ => rfl) AllB.nil (fun a l ha hl x hx => by
    rcases List.mem_cons.1 hx with rfl | hx
    · exact ha
    · exact hl x hx) len l hl (fun i hi => hasByte (hk i hi))
  exact ⟨kids, by rw [e9, isB, k1, k2], k3, by show kids.length ≤ _; omega⟩
end Go.Proofs.YtecephhhjhpcjaaGreatDoor.Stats
end
