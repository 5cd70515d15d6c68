/- YtecephhhjhpcjaaGreatDoorMf: the texts Sb1, St24, Sg1, Sb2, Sg2, Sg3, Sg4, St25, St26, St27, St28, Sg5, brought together. No conditions. -/
import Derived.Test.YtecephhhjhpcjaaGreatDoorMe
import Derived.Test.YtecephhhjhpcjaaGreatDoorX41
import Derived.Test.YtecephhhjhpcjaaGreatDoorX42
section
set_option linter.unusedVariables false
set_option linter.unusedSimpArgs false
-- emaX: s_wr8m
namespace Go.Proofs.YtecephhhjhpcjaaGreatDoor.Stats
open Go Go.Proofs.YtecephhhjhpcjaaGreatDoor Go.Proofs.YtecephhhjhpcjaaGreatDoor.Em
def leB (n : Int) : Nat → List Nat
  | 0 => []
  | w + 1 => (n % 256).toNat :: leB (n / 256) w
theorem leB_length : ∀ (w : Nat) (n : Int), (leB n w).length = w
  | 0, _ => rfl
  | w + 1, n => by simp [leB, leB_length w]
theorem leB_mod : ∀ (w : Nat) (n k : Int), leB (n + 256 ^ w * k) w = leB n w
  | 0, _, _ => rfl
  | w + 1, n, k => by
    have e : (n + 256 ^ (w + 1) * k) = n + 256 * (256 ^ w * k) := by rw [Int.pow_succ, Int.mul_comm (256 ^ w) 256, Int.mul_assoc]
    have h1 : (n + 256 ^ (w + 1) * k) % 256 = n % 256 := by rw [e]; omega
    have h2 : (n + 256 ^ (w + 1) * k) / 256 = n / 256 + 256 ^ w * k := by rw [e]; omega
    simp only [leB, h1, h2, leB_mod w]
def natsT (t : ByteArray) : List Nat := t.data.toList.map UInt8.toNat
theorem natsT_length (t : ByteArray) : (natsT t).length = t.size := by simp [natsT]
theorem s_enc (t : ByteArray) : stdA.enc t = bytesE (natsT t) := by
  simp only [stdA, bytesE, natsT, List.map_map]; rfl
theorem nats_strE {l : List Nat} (h : AllB l) : natsT (strE l) = l := by
  simp only [strE, natsT, List.map_map]
  conv => rhs; rw [← List.map_id l]
  refine List.map_congr_left fun x hx => ?_
  simp [UInt8.toNat_ofNat, Nat.mod_eq_of_lt (h x hx)]
theorem byte_mod (x : Int) : [EV.lit (.int .u8 (x % 256))] = bytesE [(x % 256).toNat] := by
  simp only [bytesE, List.map_cons, List.map_nil, byteV]
  rw [show (((x % 256).toNat : Nat) : Int) = x % 256 by omega]
theorem leB_step (x : Int) {k : Nat} (h : 0 < k) : leB x k = (x % 256).toNat :: leB (x / 256) (k - 1) := by
  obtain ⟨j, rfl⟩ : ∃ j, k = j + 1 := ⟨k - 1, by omega⟩
  rfl
theorem leB_more {d L : List Nat} {x : Int} {w k : Nat} (h : d ++ leB x (w - k) = L) (hk : k < w) : (d ++ [(x % 256).toNat]) ++ leB (x / 256) (w - (k + 1)) = L := by
  rw [← h, leB_step x (k := w - k) (by omega), show w - k - 1 = w - (k + 1) by omega]; simp
theorem leB_end {d L : List Nat} {x : Int} {w k : Nat} (h : d ++ leB x (w - k) = L) (hk : w ≤ k) : d = L := by
  rw [← h, show w - k = 0 by omega, leB]; simp
theorem leB_part {d : List Nat} {x n : Int} {w k : Nat} (h : d ++ leB x (w - k) = leB n w) (hk : k ≤ w) : d.length = k := by
  have := congrArg List.length h
  simp only [List.length_append, leB_length] at this; omega
theorem s_shr8 (x : Int) : stdA.sh .shr .i64 x 8 = x / 256 := by
  show x.fdiv (2 ^ (min (8 : Int).toNat 64)) = x / 256
  rw [Int.fdiv_eq_ediv_of_nonneg _ (by decide)]; rfl
set_option maxHeartbeats 4000000 in
theorem number_pre (l : List Nat) (n : Int) (w : Nat) (hw1 : 1 ≤ w) (hw : w ≤ 8) (hl : l.length ≤ 100000) (N : Nat) (W : Int) (hN : N = l.length) (hW : W = w) (c : List EV) (hc : c = bytesE l) :
    Tri Tryz.prog gs 26 [.sl 1 0 0 N none, .lit (.int .i64 n), .lit (.int .i64 W)] [.blk c] fun v h' => ∃ id, v = .sl 1 id 0 (l ++ leB n w).length none ∧ getH h' id = .blk (bytesE (l ++ leB n w)) ∧ id ≠ 0 ∧ getH h' 0 = .dead := by
  refine Tri_of F26_ok fun I0 ρ0 w0 Q hρ hQ => ?_
  obtain ⟨A, hA⟩ : ∃ A, A = stdA := ⟨_, rfl⟩
  with_reducible refine runS hA hd hQ 200 ?hk ?_
  case hk => exact trivial
  conv => arg 9; cbv
  try simp only [OK]
  repeat' first | (with_reducible refine OKK.loop ?_) | (with_reducible refine OKK.again ?_) | ((with_reducible refine ⟨fun hbr => ?_, fun hbr => ?_⟩) <;> (try simp (disch := omega) only [hA, OK, emaU, Int.reduceToNat, s_wr8m, reduceCtorEq] at hbr) <;> (try (with_reducible exfalso; omega))) | ((with_reducible refine runK hA hd hQ 200 ?hk ?_); (case hk => exact trivial); (conv => arg 9; cbv); (try simp only [OK])) | ((with_reducible refine need_of ?hn ?_); (case hn => ((simp (disch := omega) only [hA, OK, emaU, Int.reduceToNat, s_wr8m]) <;> omega))) | fail
  refine OKs.mask (msk 19 [0, 1, 7, 8]) ?_
  refine OKs.loopN (fun m st => ∃ (r x : Int) (d : List Nat) (M : Nat) (e : List EV), ((r = 0 ∧ st = ⟨mkT 19 [(0, .sl 1 0 0 M none), (1, .lit (.int .i64 x)), (7, .lit (.int .i64 W)), (8, .lit (.int .i64 r))], [.blk e]⟩) ∨ (1 ≤ r ∧ st = ⟨mkT 19 [(0, .sl 1 1 0 M none), (1, .lit (.int .i64 x)), (7, .lit (.int .i64 W)), (8, .lit (.int .i64 r))], [.dead, .blk e]⟩)) ∧ m = (W - r).toNat ∧ 0 ≤ r ∧ r ≤ W ∧ M = N + r.toNat ∧ e = bytesE (l ++ d) ∧ d ++ leB x (w - r.toNat) = leB n w)
    (fun m st hs' ih => ?_) ⟨0, n, [], N, c, .inl ⟨rfl, rfl⟩, rfl, by omega, by omega, by omega, by rw [hc, List.append_nil], rfl⟩
  obtain ⟨r, x, d, M, e, hst, hm, hr1, hr2, hM, he, hdd⟩ := hs'
  have hdl := leB_part hdd (by omega)
  have hel : e.length = M := by rw [he, bytesE_length, List.length_append]; omega
  rcases hst with ⟨hr0, rfl⟩ | ⟨hr0, rfl⟩
  all_goals
    with_reducible refine runS hA hd hQ 200 ?hk ?_
    case hk => exact trivial
    conv => arg 9; cbv
    try simp only [OK]
    repeat' first | (with_reducible refine OKK.loop ?_) | (with_reducible refine OKK.again ?_) | ((with_reducible refine ⟨fun hbr => ?_, fun hbr => ?_⟩) <;> (try simp (disch := omega) only [hA, OK, emaU, Int.reduceToNat, s_wr8m, reduceCtorEq] at hbr) <;> (try (with_reducible exfalso; omega))) | ((with_reducible refine runK hA hd hQ 200 ?hk ?_); (case hk => exact trivial); (conv => arg 9; cbv); (try simp only [OK])) | ((with_reducible refine need_of ?hn ?_); (case hn => ((simp (disch := omega) only [hA, OK, emaU, Int.reduceToNat, s_wr8m]) <;> omega))) | fail
  · refine OKs.mask (msk 19 [0, 1, 7, 8]) (OKs.mv [0, 2] [] (by rw [hρ]; rfl) ⟨by simp, by simp [sizeH], by simp⟩ (ih _ _ ⟨_, _, d ++ [(x % 256).toNat], _, _, .inr ⟨?_, rfl⟩, rfl, ?_, ?_, ?_, ?_, ?_⟩ ?_))
    all_goals (try simp (disch := omega) only [hA, OK, emaU, Int.reduceToNat, s_wr8m , s_shr8, s_wr8m, he, byte_mod, mvL_bytes, List.append_assoc, Nat.mul_one])
    all_goals first
      | omega
      | (rw [List.take_of_length_le (by rw [List.length_append]; omega), List.take_of_length_le (by simp), List.append_assoc])
      | (rw [show (r + 1).toNat = r.toNat + 1 by omega, ← List.append_assoc]; exact leB_more hdd (by omega))
  · refine OKs.mask (msk 19 [0, 1, 7, 8]) (OKs.mv [0, 3] [] (by rw [hρ]; rfl) ⟨by simp, by simp [sizeH], by simp⟩ (ih _ _ ⟨_, _, d ++ [(x % 256).toNat], _, _, .inr ⟨?_, rfl⟩, rfl, ?_, ?_, ?_, ?_, ?_⟩ ?_))
    all_goals (try simp (disch := omega) only [hA, OK, emaU, Int.reduceToNat, s_wr8m , s_shr8, s_wr8m, he, byte_mod, mvL_bytes, List.append_assoc, Nat.mul_one])
    all_goals first
      | omega
      | (rw [List.take_of_length_le (by rw [List.length_append]; omega), List.take_of_length_le (by simp), List.append_assoc])
      | (rw [show (r + 1).toNat = r.toNat + 1 by omega, ← List.append_assoc]; exact leB_more hdd (by omega))
  · have hd2 := leB_end hdd (by omega)
    refine ⟨_, rfl, 1, ?_, ?_, by decide, rfl⟩
    · show EV.sl 1 1 0 M none = _
      rw [show M = (l ++ leB n w).length by simp only [List.length_append, leB_length]; omega]
    · show EO.blk e = _
      rw [he, hd2]
set_option maxHeartbeats 4000000 in
theorem number_pre0 (n : Int) (w : Nat) (hw1 : 1 ≤ w) (hw : w ≤ 8) (W : Int) (hW : W = w) :
    Tri Tryz.prog gs 26 [.lit (.slice none 0 0), .lit (.int .i64 n), .lit (.int .i64 W)] [] fun v h' => ∃ id, v = .sl 1 id 0 (leB n w).length none ∧ getH h' id = .blk (bytesE (leB n w)) := by
  refine Tri_of F26_ok fun I0 ρ0 w0 Q hρ hQ => ?_
  obtain ⟨A, hA⟩ : ∃ A, A = stdA := ⟨_, rfl⟩
  with_reducible refine runS hA hd hQ 200 ?hk ?_
  case hk => exact trivial
  conv => arg 9; cbv
  try simp only [OK]
  repeat' first | (with_reducible refine OKK.loop ?_) | (with_reducible refine OKK.again ?_) | ((with_reducible refine ⟨fun hbr => ?_, fun hbr => ?_⟩) <;> (try simp (disch := omega) only [hA, OK, emaU, Int.reduceToNat, s_wr8m, reduceCtorEq] at hbr) <;> (try (with_reducible exfalso; omega))) | ((with_reducible refine runK hA hd hQ 200 ?hk ?_); (case hk => exact trivial); (conv => arg 9; cbv); (try simp only [OK])) | ((with_reducible refine need_of ?hn ?_); (case hn => ((simp (disch := omega) only [hA, OK, emaU, Int.reduceToNat, s_wr8m]) <;> omega))) | fail
  refine OKs.mask (msk 19 [0, 1, 7, 8]) ?_
  refine OKs.loopN (fun m st => ∃ (r x : Int) (d : List Nat) (M : Nat) (e : List EV), ((r = 0 ∧ st = ⟨mkT 19 [(0, .lit (.slice none 0 0)), (1, .lit (.int .i64 x)), (7, .lit (.int .i64 W)), (8, .lit (.int .i64 r))], []⟩ ∧ e = []) ∨ (1 ≤ r ∧ st = ⟨mkT 19 [(0, .sl 1 0 0 M none), (1, .lit (.int .i64 x)), (7, .lit (.int .i64 W)), (8, .lit (.int .i64 r))], [.blk e]⟩)) ∧ m = (W - r).toNat ∧ 0 ≤ r ∧ r ≤ W ∧ M = r.toNat ∧ e = bytesE (d) ∧ d ++ leB x (w - r.toNat) = leB n w)
    (fun m st hs' ih => ?_) ⟨0, n, [], 0, [], .inl ⟨rfl, rfl, rfl⟩, rfl, by omega, by omega, rfl, rfl, rfl⟩
  obtain ⟨r, x, d, M, e, hst, hm, hr1, hr2, hM, he, hdd⟩ := hs'
  have hdl := leB_part hdd (by omega)
  have hel : e.length = M := by rw [he, bytesE_length]; omega
  rcases hst with ⟨hr0, rfl, he0⟩ | ⟨hr0, rfl⟩
  all_goals
    with_reducible refine runS hA hd hQ 200 ?hk ?_
    case hk => exact trivial
    conv => arg 9; cbv
    try simp only [OK]
    repeat' first | (with_reducible refine OKK.loop ?_) | (with_reducible refine OKK.again ?_) | ((with_reducible refine ⟨fun hbr => ?_, fun hbr => ?_⟩) <;> (try simp (disch := omega) only [hA, OK, emaU, Int.reduceToNat, s_wr8m, reduceCtorEq] at hbr) <;> (try (with_reducible exfalso; omega))) | ((with_reducible refine runK hA hd hQ 200 ?hk ?_); (case hk => exact trivial); (conv => arg 9; cbv); (try simp only [OK])) | ((with_reducible refine need_of ?hn ?_); (case hn => ((simp (disch := omega) only [hA, OK, emaU, Int.reduceToNat, s_wr8m]) <;> omega))) | fail
  · refine OKs.mask (msk 19 [0, 1, 7, 8]) (OKs.mv [1] [] (by rw [hρ]; rfl) ⟨by simp, by simp [sizeH], by simp⟩ (ih _ _ ⟨_, _, d ++ [(x % 256).toNat], _, _, .inr ⟨?_, rfl⟩, rfl, ?_, ?_, ?_, ?_, ?_⟩ ?_))
    all_goals (try simp (disch := omega) only [hA, OK, emaU, Int.reduceToNat, s_wr8m , s_shr8, s_wr8m, he, byte_mod, mvL_bytes, List.append_assoc, Nat.mul_one])
    all_goals first
      | omega
      | (rw [List.take_of_length_le (by omega), List.take_of_length_le (by simp)]; done)
      | (rw [List.length_eq_zero_iff.1 (by omega : d.length = 0)]; rfl)
      | (rw [show (r + 1).toNat = r.toNat + 1 by omega, ← List.append_assoc]; exact leB_more hdd (by omega))
  · refine OKs.mask (msk 19 [0, 1, 7, 8]) (OKs.mv [2] [] (by rw [hρ]; rfl) ⟨by simp, by simp [sizeH], by simp⟩ (ih _ _ ⟨_, _, d ++ [(x % 256).toNat], _, _, .inr ⟨?_, rfl⟩, rfl, ?_, ?_, ?_, ?_, ?_⟩ ?_))
    all_goals (try simp (disch := omega) only [hA, OK, emaU, Int.reduceToNat, s_wr8m , s_shr8, s_wr8m, he, byte_mod, mvL_bytes, List.append_assoc, Nat.mul_one])
    all_goals first
      | omega
      | (rw [List.take_of_length_le (by omega), List.take_of_length_le (by simp)]; done)
      | (rw [List.length_eq_zero_iff.1 (by omega : d.length = 0)]; rfl)
      | (rw [show (r + 1).toNat = r.toNat + 1 by omega, ← List.append_assoc]; exact leB_more hdd (by omega))
  · have hd2 := leB_end hdd (by omega)
    refine ⟨_, rfl, 0, ?_, ?_⟩
    · show EV.sl 1 0 0 M none = _
      rw [show M = (leB n w).length by simp only [List.length_append, leB_length]; omega]
    · show EO.blk e = _
      rw [he, hd2]
theorem num_ok (l : List Nat) (n : Int) (w : Nat) (hw1 : 1 ≤ w) (hw : w ≤ 8) (hl : l.length ≤ 100000) : Grows Tryz.prog gs 26 [.lit (.int .i64 n), .lit (.int .i64 w)] l (l ++ leB n w) :=
  Grows.of (number_pre l n w hw1 hw hl _ _ rfl rfl _ rfl)
theorem num_ok0 (n : Int) (w : Nat) (hw1 : 1 ≤ w) (hw : w ≤ 8) : Begins Tryz.prog gs 26 [.lit (.int .i64 n), .lit (.int .i64 w)] (leB n w) :=
  Begins.of (number_pre0 n w hw1 hw _ rfl)
end Go.Proofs.YtecephhhjhpcjaaGreatDoor.Stats
end
section
set_option linter.unusedVariables false
namespace Go.Proofs.YtecephhhjhpcjaaGreatDoor.Stats
open Go Go.Proofs.YtecephhhjhpcjaaGreatDoor Go.Proofs.YtecephhhjhpcjaaGreatDoor.Em
def bndB (k : Int) (v : VP) : List Nat := if 12 ≤ k ∧ k ≤ 14 then v.t.size % 256 :: natsT v.t else leB v.n 8
def putS (k : Int) (s : StP) : List Nat := leB s.rows 4 ++ leB s.nulls 4 ++ (if s.has then 1 :: (bndB k s.l ++ bndB k s.m) else [0])
noncomputable def putN (fs : List Fld) (l : List StP) : Nat → List Nat
  | 0 => []
  | i + 1 => putN fs l i ++ putS (ck (fs.getD i fld0)) (l.getD i st0)
theorem bndB_len {k : Int} {v : VP} (h : v.bnd k) : (bndB k v).length ≤ 17 := by
  unfold bndB
  split
  · rename_i hk
    have := h.2.2
    rw [if_pos hk.1] at this
    simp only [List.length_cons, natsT_length]; omega
  · rw [leB_length]; omega
theorem putS_len {k : Int} {s : StP} (h : s.may k) : (putS k s).length ≤ 43 := by
  unfold putS
  simp only [List.length_append, leB_length]
  split
  · rename_i hs
    obtain ⟨_, _, h1, h2, _⟩ := h.2.2.2.2.2 hs
    have := bndB_len h1
    have := bndB_len h2
    simp only [List.length_cons, List.length_append]; omega
  · simp
theorem putN_len (fs l) : ∀ i, (∀ j, j < i → (l.getD j st0).may (ck (fs.getD j fld0))) → (putN fs l i).length ≤ 43 * i
  | 0, _ => by simp [putN]
  | i + 1, h => by
    have := putN_len fs l i fun j hj => h j (by omega)
    have := putS_len (h i (by omega))
    simp only [putN, List.length_append]; omega
open Classical in
noncomputable def fitE (fs : List Fld) (ns : List Nt) (l : List StP) : Int :=
  if ¬ mayS fs ns then 5 else if l.length ≠ fs.length then 6 else if ∀ i, i < l.length → (l.getD i st0).may (ck (fs.getD i fld0)) then 0 else 7
noncomputable def putB (fs : List Fld) (ns : List Nt) (l : List StP) : List Nat := if fitE fs ns l = 0 then putN fs l l.length else []
theorem fitE_no {fs ns l} (h : ¬ mayS fs ns) : fitE fs ns l = 5 := if_pos h
theorem fitE_no2 {fs ns l} (h : mayS fs ns) (hl : l.length ≠ fs.length) : fitE fs ns l = 6 := by unfold fitE; rw [if_neg (not_not_intro h), if_pos hl]
theorem fitE_no3 {fs ns l} (h : mayS fs ns) (hl : l.length = fs.length) {i : Nat} (hi : i < l.length) (hn : ¬ (l.getD i st0).may (ck (fs.getD i fld0))) : fitE fs ns l = 7 := by
  unfold fitE; rw [if_neg (not_not_intro h), if_neg (not_not_intro hl), if_neg fun ha => hn (ha i hi)]
theorem fitE_ok {fs ns l} (h : mayS fs ns) (hl : l.length = fs.length) (hn : ∀ i, i < l.length → (l.getD i st0).may (ck (fs.getD i fld0))) : fitE fs ns l = 0 := by
  unfold fitE; rw [if_neg (not_not_intro h), if_neg (not_not_intro hl), if_pos hn]
theorem fitE_inv {fs ns l} (h : fitE fs ns l = 0) : mayS fs ns ∧ l.length = fs.length ∧ ∀ i, i < l.length → (l.getD i st0).may (ck (fs.getD i fld0)) := by
  unfold fitE at h
  split at h
  · omega
  · rename_i h1
    split at h
    · omega
    · rename_i h2
      split at h
      · rename_i h3; exact ⟨Classical.not_not.1 h1, by omega, h3⟩
      · omega
theorem bnd_ts {k : Int} {s : StP} (h : s.may k) (hh : s.has = true) : (12 ≤ k ∧ k ≤ 14 → s.l.t.size ≤ 16) ∧ (12 ≤ k ∧ k ≤ 14 → s.m.t.size ≤ 16) ∧ (bndB k s.l).length ≤ 17 ∧ (bndB k s.m).length ≤ 17 := by
  obtain ⟨_, _, h1, h2, _⟩ := h.2.2.2.2.2 hh
  have g1 := h1.2.2
  have g2 := h2.2.2
  exact ⟨fun hk => by rw [if_pos hk.1] at g1; exact g1.2, fun hk => by rw [if_pos hk.1] at g2; exact g2.2, bndB_len h1, bndB_len h2⟩
def cellsSs : List StP → List EV
  | [] => []
  | s :: l => s.cells ++ cellsSs l
def okSs : List StP → Prop
  | [] => True
  | s :: l => s.ok ∧ okSs l
theorem cellsS_length (s : StP) : s.cells.length = 11 := rfl
theorem st_get : ∀ (l : List StP) (i : Nat), i < l.length → ((cellsSs l).drop (i * 11)).take 11 = (l.getD i st0).cells
  | [], i, h => by simp at h
  | s :: l, 0, _ => by
    simp only [cellsSs, Nat.zero_mul, List.drop_zero, List.getD_cons_zero]
    rw [List.take_append_of_le_length (by rw [cellsS_length]; omega), List.take_of_length_le (by rw [cellsS_length]; omega)]
  | s :: l, i + 1, h => by
    have ih := st_get l i (by simpa using h)
    rw [cellsSs, List.drop_append, List.drop_eq_nil_of_le (by rw [cellsS_length]; omega), cellsS_length, List.nil_append, show (i + 1) * 11 - 11 = i * 11 by omega, ih]
    rfl
theorem okSs_get : ∀ (l : List StP) (i : Nat), okSs l → i < l.length → (l.getD i st0).ok
  | [], i, _, h => by simp at h
  | s :: l, 0, ho, _ => ho.1
  | s :: l, i + 1, ho, h => okSs_get l i ho.2 (by simpa using h)
theorem allFs_get : ∀ (l : List Fld) (i : Nat), allFs l → i < l.length → allF (l.getD i fld0)
  | [], i, _, h => by simp at h
  | s :: l, 0, ho, _ => ho.1
  | s :: l, i + 1, ho, h => allFs_get l i ho.2 (by simpa using h)
theorem mayS_all {fs ns} (h : mayS fs ns) : allFs fs := allN_allFs fs [] [] false [] (by simp) h.2.2.2
end Go.Proofs.YtecephhhjhpcjaaGreatDoor.Stats
end
section
set_option linter.unusedVariables false
namespace Go.Proofs.YtecephhhjhpcjaaGreatDoor.Stats
open Go Go.Proofs.YtecephhhjhpcjaaGreatDoor Go.Proofs.YtecephhhjhpcjaaGreatDoor.Em
def leV : List Nat → Nat
  | [] => 0
  | b :: l => b + 256 * leV l
theorem leV_lt : ∀ l : List Nat, AllB l → leV l < 256 ^ l.length
  | [], _ => by simp [leV]
  | b :: l, h => by
    have h1 := leV_lt l fun x hx => h x (by simp [hx])
    have h2 := h b (by simp)
    simp only [leV, List.length_cons, Nat.pow_succ]
    omega
theorem leB_leV : ∀ l : List Nat, AllB l → leB (leV l : Nat) l.length = l
  | [], _ => rfl
  | b :: l, h => by
    have h1 := leB_leV l fun x hx => h x (by simp [hx])
    have h2 := h b (by simp)
    simp only [List.length_cons, leB, leV]
    rw [show (((b + 256 * leV l : Nat) : Int) / 256) = (leV l : Nat) by omega, h1, show (((b + 256 * leV l : Nat) : Int) % 256).toNat = b by omega]
theorem leV_app : ∀ l m : List Nat, leV (l ++ m) = leV l + 256 ^ l.length * leV m
  | [], m => by simp [leV]
  | b :: l, m => by
    simp only [List.cons_append, leV, leV_app l m, List.length_cons, Nat.pow_succ]
    rw [Nat.mul_add, Nat.mul_comm (256 ^ l.length) 256, Nat.mul_assoc]; omega
abbrev Rd := List Nat × Bool
def tkP (s : Rd) (n : Nat) : List Nat × Rd := if s.2 = true ∨ s.1.length < n then (List.replicate n 0, (s.1, true)) else (s.1.take n, (s.1.drop n, false))
def tkR (s : Rd) (n : Nat) : List Nat × Rd := if s.1.length < n then (List.replicate n 0, (s.1, true)) else (s.1.take n, (s.1.drop n, s.2))
def okR (s : Rd) : Prop := AllB s.1 ∧ s.1.length ≤ 140737488351232
theorem AllB.zeros (n : Nat) : AllB (List.replicate n 0) := fun x hx => by
  have := List.eq_of_mem_replicate hx; omega
theorem tkP_ok {s : Rd} (h : okR s) (n : Nat) : AllB (tkP s n).1 ∧ (tkP s n).1.length = n ∧ okR (tkP s n).2 := by
  unfold tkP
  split
  · exact ⟨AllB.zeros n, by simp, h⟩
  · rename_i hn
    exact ⟨h.1.take n, by simp; omega, h.1.drop n, by have := h.2; simp; omega⟩
theorem tkR_ok {s : Rd} (h : okR s) (n : Nat) : AllB (tkR s n).1 ∧ (tkR s n).1.length = n ∧ okR (tkR s n).2 := by
  unfold tkR
  split
  · exact ⟨AllB.zeros n, by simp, h⟩
  · rename_i hn
    exact ⟨h.1.take n, by simp; omega, h.1.drop n, by have := h.2; simp; omega⟩
def bdG (tk : Rd → Nat → List Nat × Rd) (k : Int) (s : Rd) : VP × Rd :=
  if 12 ≤ k ∧ k ≤ 14 then
    (⟨false, 0, strE (tk (tk s 1).2 (leV (tk s 1).1)).1, 0, []⟩, (tk (tk s 1).2 (leV (tk s 1).1)).2)
  else (⟨false, stdA.wr .i64 (leV (tk s 8).1 : Nat), ⟨#[]⟩, 0, []⟩, (tk s 8).2)
def itG (tk : Rd → Nat → List Nat × Rd) (k : Int) (s : Rd) : StP × Nat × Rd :=
  let a := tk s 4
  let b := tk a.2 4
  let c := tk b.2 1
  let x := leV c.1
  if x = 1 then
    let l := bdG tk k c.2
    let m := bdG tk k l.2
    (⟨(leV a.1 : Nat), (leV b.1 : Nat), true, l.1, m.1⟩, x, m.2)
  else (⟨(leV a.1 : Nat), (leV b.1 : Nat), false, vp0, vp0⟩, x, c.2)
noncomputable def rdG (tk : Rd → Nat → List Nat × Rd) (fs : List Fld) (B : List Nat) : Nat → List StP × Rd
  | 0 => ([], (B, false))
  | i + 1 => ((rdG tk fs B i).1 ++ [(itG tk (ck (fs.getD i fld0)) (rdG tk fs B i).2).1], (itG tk (ck (fs.getD i fld0)) (rdG tk fs B i).2).2.2)
noncomputable def hasG (tk : Rd → Nat → List Nat × Rd) (fs : List Fld) (B : List Nat) (i : Nat) : Nat := (itG tk (ck (fs.getD i fld0)) (rdG tk fs B i).2).2.1
theorem rdG_len (tk fs B) : ∀ i, (rdG tk fs B i).1.length = i
  | 0 => rfl
  | i + 1 => by simp [rdG, rdG_len tk fs B i]
theorem bdG_ok {tk : Rd → Nat → List Nat × Rd} (htk : ∀ s n, okR s → AllB (tk s n).1 ∧ (tk s n).1.length = n ∧ okR (tk s n).2) {k : Int} {s : Rd} (h : okR s) : okR (bdG tk k s).2 := by
  unfold bdG
  split
  · exact (htk _ _ (htk _ _ h).2.2).2.2
  · exact (htk _ _ h).2.2
theorem itG_ok {tk : Rd → Nat → List Nat × Rd} (htk : ∀ s n, okR s → AllB (tk s n).1 ∧ (tk s n).1.length = n ∧ okR (tk s n).2) {k : Int} {s : Rd} (h : okR s) : okR (itG tk k s).2.2 := by
  have h1 := (htk s 4 h).2.2
  have h2 := (htk _ 4 h1).2.2
  have h3 := (htk _ 1 h2).2.2
  unfold itG
  simp only
  split
  · exact bdG_ok htk (bdG_ok htk h3)
  · exact h3
theorem rdG_ok {tk : Rd → Nat → List Nat × Rd} (htk : ∀ s n, okR s → AllB (tk s n).1 ∧ (tk s n).1.length = n ∧ okR (tk s n).2) {fs B} (hB : okR (B, false)) : ∀ i, okR (rdG tk fs B i).2
  | 0 => hB
  | i + 1 => itG_ok htk (rdG_ok htk hB i)
theorem tk_good {s : Rd} {n : Nat} (h : (tkR s n).2.2 = false) : tkP s n = tkR s n ∧ s.2 = false ∧ s.1 = (tkR s n).1 ++ (tkR s n).2.1 := by
  unfold tkR at h ⊢
  split at h
  · cases h
  · rename_i hn
    rw [if_neg hn]
    simp only at h
    refine ⟨?_, h, by simp⟩
    unfold tkP
    rw [if_neg (by rw [h]; simp; omega), h]
theorem tk_bad {s : Rd} {n : Nat} (h : (tkP s n).2.2 = false) : tkP s n = tkR s n ∧ s.2 = false := by
  unfold tkP at h ⊢
  split at h
  · cases h
  · rename_i hn
    have h1 : ¬ s.2 = true ∧ ¬ s.1.length < n := ⟨fun e => hn (.inl e), fun e => hn (.inr e)⟩
    rw [if_neg hn]
    unfold tkR
    rw [if_neg h1.2]
    have : s.2 = false := by simpa using h1.1
    rw [this]; exact ⟨rfl, rfl⟩
end Go.Proofs.YtecephhhjhpcjaaGreatDoor.Stats
end
section
set_option linter.unusedVariables false
set_option linter.unusedSimpArgs false
-- emaX: s_wr8m, s_enc, natsT_length
namespace Go.Proofs.YtecephhhjhpcjaaGreatDoor.Stats
open Go Go.Proofs.YtecephhhjhpcjaaGreatDoor Go.Proofs.YtecephhhjhpcjaaGreatDoor.Em
theorem byte_nat (m : Nat) : [EV.lit (.int .u8 ((m : Int) % 256))] = bytesE [m % 256] := by
  rw [byte_mod, show ((m : Int) % 256).toNat = m % 256 by omega]
theorem one_blk {l : List Nat} {N : Nat} {c : List EV} {x : Int} {b : Nat} (hN : N = l.length) (hc : c = bytesE l) (hx : x = b) :
    stdA.app (stdA.tak (stdA.mul N 1) (stdA.drp 0 c)) (stdA.tak (stdA.mul 1 1) (stdA.drp 0 [.lit (.int .u8 x)])) = bytesE (l ++ [b]) := by
  subst hN; subst hc; subst hx
  simp only [emaU, Nat.mul_one, List.drop_zero]
  rw [List.take_of_length_le (by simp), List.take_of_length_le (by simp)]
  exact bytesE_app l [b]
theorem text_blk {l : List Nat} {N : Nat} {c : List EV} (t : ByteArray) (hN : N = l.length) (hc : c = bytesE l) :
    stdA.app (stdA.tak (stdA.mul (stdA.add N 1) 1) (stdA.drp 0 (stdA.app (stdA.tak (stdA.mul N 1) (stdA.drp 0 c)) (stdA.tak (stdA.mul 1 1) (stdA.drp 0 [.lit (.int .u8 (stdA.wr .u8 (stdA.ofn (stdA.bsz t))))]))))) (stdA.enc t) = bytesE (l ++ (t.size % 256 :: natsT t)) := by
  subst hN; subst hc
  simp only [emaU, s_wr8m, s_enc, byte_nat, Nat.mul_one, List.drop_zero, List.take_append, List.take_length]
  rw [List.take_of_length_le (by simp), List.take_of_length_le (by simp)]
  simp
set_option maxRecDepth 100000 in
set_option maxHeartbeats 4000000 in
theorem bound_ok (l : List Nat) (k : Int) (v : VP) (hl : l.length ≤ 100000) (hv : v.ok) (ht : 12 ≤ k ∧ k ≤ 14 → v.t.size ≤ 16) : Grows Tryz.prog gs 27 [.lit (.int .i64 k), .agg v.cells] l (l ++ bndB k v) := by
  refine Grows.of ?_
  obtain ⟨b, n, t, ln, kc⟩ := v
  simp only [VP.cells, VP.ok] at *
  obtain ⟨hn, hts, hln⟩ := hv
  obtain ⟨X, hX⟩ : ∃ X, X = bndB k ⟨b, n, t, ln, kc⟩ := ⟨_, rfl⟩
  have hX1 : 12 ≤ k ∧ k ≤ 14 → X = t.size % 256 :: natsT t := fun h => by rw [hX]; exact if_pos h
  have hX2 : ¬ (12 ≤ k ∧ k ≤ 14) → X = leB n 8 := fun h => by rw [hX]; exact if_neg h
  rw [← hX]
  refine Tri_of F27_ok fun I0 ρ0 w0 Q hρ hQ => ?_
  obtain ⟨A, hA⟩ : ∃ A, A = stdA := ⟨_, rfl⟩
  obtain ⟨N, hN⟩ : ∃ N, N = l.length := ⟨_, rfl⟩
  obtain ⟨c, hc⟩ : ∃ c, c = bytesE l := ⟨_, rfl⟩
  have hcl : c.length = N := by rw [hc, bytesE_length, hN]
  rw [← hN, ← hc]
  with_reducible refine runS hA hd hQ 200 ?hk ?_
  case hk => exact trivial
  conv => arg 9; cbv
  try simp only [OK]
  repeat' first | (with_reducible refine And.intro trivial ?_) | ((with_reducible refine ⟨fun hbr => ?_, fun hbr => ?_⟩) <;> (try simp (disch := omega) only [hA, OK, emaU, Int.reduceToNat, s_wr8m, s_enc, natsT_length, reduceCtorEq] at hbr) <;> (try (with_reducible exfalso; omega))) | ((with_reducible refine runK hA hd hQ 200 ?hk ?_); (case hk => exact trivial); (conv => arg 9; cbv); (try simp only [OK])) | ((with_reducible refine need_of ?hn ?_); (case hn => ((simp (disch := omega) only [hA, OK, emaU, Int.reduceToNat, s_wr8m, s_enc, natsT_length]) <;> omega))) | (refine CallOK.of (goodF_of F40_ok) (Tri.mono (isText_ok _ _) fun v hh hx => ?_); (obtain ⟨⟨b, hv, hb⟩, he⟩ := hx; subst hv; subst he; cases b <;> simp (disch := omega) only [hA, OK, emaU, Int.reduceToNat, s_wr8m, s_enc, natsT_length, Bool.false_eq_true, true_iff, false_iff, eq_self, reduceCtorEq] at hb) <;> (try (with_reducible exfalso; omega))) | fail
  · refine CallOK.of (goodF_of F26_ok) (Tri.mono ((num_ok l n 8 (by omega) (by omega) hl).callV rfl hN hc (id := 0) rfl) fun v hh hx => ?_)
    obtain ⟨M, e, hv, hh', hM, he⟩ := hx
    subst hv; subst hh'
    with_reducible refine runK hA hd hQ 1 ?hk ?_
    case hk => exact trivial
    conv => arg 9; cbv
    try simp only [OK]
    repeat' first | ((with_reducible refine ⟨fun hbr => ?_, fun hbr => ?_⟩) <;> (try simp (disch := omega) only [hA, OK, emaU, Int.reduceToNat, s_wr8m, s_enc, natsT_length, reduceCtorEq] at hbr) <;> (try (with_reducible exfalso; omega))) | ((with_reducible refine runK hA hd hQ 200 ?hk ?_); (case hk => exact trivial); (conv => arg 9; cbv); (try simp only [OK])) | ((with_reducible refine need_of ?hn ?_); (case hn => ((simp (disch := omega) only [hA, OK, emaU, Int.reduceToNat, s_wr8m, s_enc, natsT_length]) <;> omega))) | fail
    refine ⟨_, rfl, 2, ?_, ?_, by decide, rfl⟩
    · show EV.sl 1 2 0 M none = _
      rw [hM, hX2 (by assumption)]
    · show EO.blk e = _
      rw [he, hX2 (by assumption)]
  · refine ⟨_, rfl, 4, ?_, ?_, by decide, rfl⟩
    · show EV.sl 1 4 0 (A.add (A.add N 1) (A.bsz t)) none = _
      rw [hX1 hb, hA, hN]
      show EV.sl 1 4 0 (l.length + 1 + t.size) none = _
      rw [show (l ++ (t.size % 256 :: natsT t)).length = l.length + 1 + t.size by simp only [List.length_append, List.length_cons, natsT_length]; omega]
    · rw [hX1 hb, ← text_blk t hN hc, hA]; rfl
end Go.Proofs.YtecephhhjhpcjaaGreatDoor.Stats
end
section
set_option linter.unusedVariables false
set_option linter.unusedSimpArgs false
-- emaX: s_bat
namespace Go.Proofs.YtecephhhjhpcjaaGreatDoor.Stats
open Go Go.Proofs.YtecephhhjhpcjaaGreatDoor Go.Proofs.YtecephhhjhpcjaaGreatDoor.Em
def rdC (s : Rd) : List EV := [isB s.1, .lit (.bool s.2)]
theorem zeros_E (n : Nat) : stdA.rep [.lit (.int .u8 0)] n = bytesE (List.replicate n 0) := by
  show (List.replicate n [EV.lit (.int .u8 0)]).flatten = _
  induction n with
  | zero => rfl
  | succ n ih => rw [List.replicate_succ, List.flatten_cons, ih]; rfl
theorem rd_zero {z : Int} {n : Nat} (hz : z = n) : stdA.rep [.lit (.int .u8 0)] (stdA.tn z) = bytesE (List.replicate n 0) := by subst hz; exact zeros_E n
theorem rd_rest {z : Int} {n N : Nat} {c : List EV} {L : List Nat} (hz : z = n) (hN : N = L.length) (hc : c = bytesE L) :
    EV.isl (stdA.sub (stdA.tn (stdA.ofn N)) (stdA.tn z)) none (stdA.drp (stdA.mul (stdA.tn z) 1) c) = isB (L.drop n) := by
  subst hz; subst hN; subst hc
  show EV.isl (L.length - n) none ((bytesE L).drop (n * 1)) = _
  rw [isB, Nat.mul_one, bytesE_drop, List.length_drop]
set_option maxHeartbeats 4000000 in
theorem take_ok (s : Rd) (hs : okR s) (n : Nat) (hn : n ≤ 300) : Tri Tryz.prog gs 60 [.ptr 0 0, .lit (.int .i64 n)] [.blk (rdC s)] fun v h' => v = isB (tkP s n).1 ∧ h' = [.blk (rdC (tkP s n).2)] := by
  obtain ⟨L, bad⟩ := s
  refine Tri.readC rfl (Tri_of F60_ok fun I0 ρ0 w0 Q hρ hQ => ?_)
  obtain ⟨A, hA⟩ : ∃ A, A = stdA := ⟨_, rfl⟩
  obtain ⟨z, hz⟩ : ∃ z : Int, z = n := ⟨_, rfl⟩
  obtain ⟨N, c, hi, hN, hc⟩ := isB_open L
  have hl2 : L.length ≤ 140737488351232 := hs.2
  have hcl : c.length = N := by rw [hc, bytesE_length, hN]
  have h1 : bad = true ∨ L.length < n → tkP (L, bad) n = (List.replicate n 0, (L, true)) := fun h => if_pos h
  have h2 : ¬ (bad = true ∨ L.length < n) → tkP (L, bad) n = (L.take n, (L.drop n, false)) := fun h => if_neg h
  generalize hT : tkP (L, bad) n = T at h1 h2 hQ
  clear hT
  simp only [rdC]
  rw [hi, ← hz]
  cases bad
  all_goals
    with_reducible refine runS hA hd hQ 200 ?hk ?_
    case hk => exact trivial
    conv => arg 9; cbv
    try simp only [OK]
    repeat' first | ((with_reducible refine ⟨fun hbr => ?_, fun hbr => ?_⟩) <;> (try simp (disch := omega) only [hA, OK, emaU, Int.reduceToNat, s_bat, reduceCtorEq] at hbr) <;> (try (with_reducible exfalso; omega))) | ((with_reducible refine runK hA hd hQ 200 ?hk ?_); (case hk => exact trivial); (conv => arg 9; cbv); (try simp only [OK])) | ((with_reducible refine need_of ?hn ?_); (case hn => ((simp (disch := omega) only [hA, OK, emaU, Int.reduceToNat, s_bat]) <;> omega))) | fail
  · have hT1 := h1 (.inr (by omega))
    refine ⟨_, rfl, .inr (.inl ⟨A.tn z, A.rep [.lit (.int .u8 0)] (A.tn z), 1, [.blk (A.rep [.lit (.int .u8 0)] (A.tn z))], some (A.tn z), rfl, ?_, rfl, by decide, ?_, ?_⟩)⟩
    · rw [hT1]; show _ = EO.blk [isB L, _] :: _; rw [hi]
    · rw [hT1, hA]; show z.toNat = (List.replicate n 0).length; rw [List.length_replicate]; omega
    · rw [hT1, hA]; exact rd_zero hz
  · have hT1 := h2 (fun h => h.elim (fun h => nomatch h) (fun h => by omega))
    refine ⟨_, rfl, .inr (.inr ⟨A.sub (A.tn z) (A.tn 0), none, A.drp (A.mul (A.tn 0) 1) c, rfl, ?_, ?_, ?_⟩)⟩
    · rw [hT1]; show [EO.blk [_, _]] = [EO.blk [isB (L.drop n), _]]; rw [← rd_rest hz hN hc, hA]
    · rw [hT1, hA]; show z.toNat - 0 = (L.take n).length; rw [List.length_take]; omega
    · rw [hT1, hA, hc]; show List.take (z.toNat - 0) (bytesE L) = _; rw [show z.toNat - 0 = n by omega, bytesE_take]
  · have hT1 := h1 (.inl rfl)
    refine ⟨_, rfl, .inr (.inl ⟨A.tn z, A.rep [.lit (.int .u8 0)] (A.tn z), 1, [.blk (A.rep [.lit (.int .u8 0)] (A.tn z))], some (A.tn z), rfl, ?_, rfl, by decide, ?_, ?_⟩)⟩
    · rw [hT1]; show _ = EO.blk [isB L, _] :: _; rw [hi]
    · rw [hT1, hA]; show z.toNat = (List.replicate n 0).length; rw [List.length_replicate]; omega
    · rw [hT1, hA]; exact rd_zero hz
set_option maxHeartbeats 4000000 in
theorem takeR_ok (s : Rd) (hs : okR s) (n : Nat) (hn : n ≤ 300) : Tri Tryz.prog gs 61 [.ptr 0 0, .lit (.int .i64 n)] [.blk (rdC s)] fun v h' => v = isB (tkR s n).1 ∧ h' = [.blk (rdC (tkR s n).2)] := by
  obtain ⟨L, bad⟩ := s
  refine Tri.readC rfl (Tri_of F61_ok fun I0 ρ0 w0 Q hρ hQ => ?_)
  obtain ⟨A, hA⟩ : ∃ A, A = stdA := ⟨_, rfl⟩
  obtain ⟨z, hz⟩ : ∃ z : Int, z = n := ⟨_, rfl⟩
  obtain ⟨N, c, hi, hN, hc⟩ := isB_open L
  have hl2 : L.length ≤ 140737488351232 := hs.2
  have hcl : c.length = N := by rw [hc, bytesE_length, hN]
  have h1 : L.length < n → tkR (L, bad) n = (List.replicate n 0, (L, true)) := fun h => if_pos h
  have h2 : ¬ (L.length < n) → tkR (L, bad) n = (L.take n, (L.drop n, bad)) := fun h => if_neg h
  generalize hT : tkR (L, bad) n = T at h1 h2 hQ
  clear hT
  simp only [rdC]
  rw [hi, ← hz]
  with_reducible refine runS hA hd hQ 200 ?hk ?_
  case hk => exact trivial
  conv => arg 9; cbv
  try simp only [OK]
  repeat' first | ((with_reducible refine ⟨fun hbr => ?_, fun hbr => ?_⟩) <;> (try simp (disch := omega) only [hA, OK, emaU, Int.reduceToNat, s_bat, reduceCtorEq] at hbr) <;> (try (with_reducible exfalso; omega))) | ((with_reducible refine runK hA hd hQ 200 ?hk ?_); (case hk => exact trivial); (conv => arg 9; cbv); (try simp only [OK])) | ((with_reducible refine need_of ?hn ?_); (case hn => ((simp (disch := omega) only [hA, OK, emaU, Int.reduceToNat, s_bat]) <;> omega))) | fail
  · have hT1 := h1 (by omega)
    refine ⟨_, rfl, .inr (.inl ⟨A.tn z, A.rep [.lit (.int .u8 0)] (A.tn z), 1, [.blk (A.rep [.lit (.int .u8 0)] (A.tn z))], some (A.tn z), rfl, ?_, rfl, by decide, ?_, ?_⟩)⟩
    · rw [hT1]; show _ = EO.blk [isB L, _] :: _; rw [hi]
    · rw [hT1, hA]; show z.toNat = (List.replicate n 0).length; rw [List.length_replicate]; omega
    · rw [hT1, hA]; exact rd_zero hz
  · have hT1 := h2 (by omega)
    refine ⟨_, rfl, .inl ⟨rfl, ?_, ?_⟩⟩
    · rw [hT1]; exact List.take_eq_nil_iff.2 (.inl (by omega))
    · rw [hT1]; show [EO.blk [_, _]] = [EO.blk [isB (L.drop n), _]]; rw [← rd_rest hz hN hc, hA]
  · have hT1 := h2 (by omega)
    refine ⟨_, rfl, .inr (.inl ⟨A.sub (A.tn z) (A.tn 0), A.tak (A.mul (A.sub (A.tn z) (A.tn 0)) 1) (A.drp (A.mul (A.tn 0) 1) c), 1, [.blk (A.tak (A.mul (A.sub (A.tn z) (A.tn 0)) 1) (A.drp (A.mul (A.tn 0) 1) c))], none, rfl, ?_, rfl, by decide, ?_, ?_⟩)⟩
    · rw [hT1]; show EO.blk [_, _] :: _ = EO.blk [isB (L.drop n), _] :: _; rw [← rd_rest hz hN hc, hA]
    · rw [hT1, hA]; show z.toNat - 0 = (L.take n).length; rw [List.length_take]; omega
    · rw [hT1, hA, hc]; show List.take ((z.toNat - 0) * 1) (bytesE L) = _; rw [show (z.toNat - 0) * 1 = n by omega, bytesE_take]
end Go.Proofs.YtecephhhjhpcjaaGreatDoor.Stats
end
section
set_option linter.unusedVariables false
set_option linter.unusedSimpArgs false
-- emaX: s_bat
namespace Go.Proofs.YtecephhhjhpcjaaGreatDoor.Stats
open Go Go.Proofs.YtecephhhjhpcjaaGreatDoor Go.Proofs.YtecephhhjhpcjaaGreatDoor.Em
theorem rdC_open (s : Rd) : ∃ N c b, rdC s = [.isl N none c, .lit (.bool b)] ∧ N = s.1.length ∧ c = bytesE s.1 ∧ b = s.2 := ⟨_, _, _, rfl, rfl, rfl, rfl⟩
theorem take_v (s : Rd) (hs : okR s) (n : Nat) (hn : n ≤ 300) {c : List EV} (hc : rdC s = c) : Tri Tryz.prog gs 60 [.ptr 0 0, .lit (.int .i64 n)] [.blk c] fun v h' => ∃ M d N' c' b', v = .isl M none d ∧ h' = [.blk [.isl N' none c', .lit (.bool b')]] ∧ isB (tkP s n).1 = .isl M none d ∧ M = (tkP s n).1.length ∧ d = bytesE (tkP s n).1 ∧ rdC (tkP s n).2 = [.isl N' none c', .lit (.bool b')] := by
  subst hc
  exact (take_ok s hs n hn).mono fun v h' ⟨h1, h2⟩ => ⟨_, _, _, _, _, h1, h2, rfl, rfl, rfl, rfl⟩
theorem takeR_v (s : Rd) (hs : okR s) (n : Nat) (hn : n ≤ 300) {c : List EV} (hc : rdC s = c) : Tri Tryz.prog gs 61 [.ptr 0 0, .lit (.int .i64 n)] [.blk c] fun v h' => ∃ M d N' c' b', v = .isl M none d ∧ h' = [.blk [.isl N' none c', .lit (.bool b')]] ∧ isB (tkR s n).1 = .isl M none d ∧ M = (tkR s n).1.length ∧ d = bytesE (tkR s n).1 ∧ rdC (tkR s n).2 = [.isl N' none c', .lit (.bool b')] := by
  subst hc
  exact (takeR_ok s hs n hn).mono fun v h' ⟨h1, h2⟩ => ⟨_, _, _, _, _, h1, h2, rfl, rfl, rfl, rfl⟩
theorem s_wrUn (n : Nat) (h : n < 18446744073709551616) : stdA.wr .u64 (n : Int) = (n : Int) := s_wrU _ (by omega) (by omega)
theorem or_step (a x i : Nat) (ha : a < 256 ^ i) (hx : x < 256) (hi : i < 8) : stdA.ib .or .u64 (a : Int) (stdA.sh .shl .u64 (stdA.wr .u64 (x : Int)) (stdA.ib .mul .i64 8 (i : Int))) = ((a + 256 ^ i * x : Nat) : Int) := by
  have hb : (256 : Nat) ^ i * 256 ≤ 256 ^ 8 := by
    have : (256 : Nat) ^ i * 256 = 256 ^ (i + 1) := by rw [Nat.pow_succ]
    rw [this]; exact Nat.pow_le_pow_right (by decide) (by omega)
  have h8 : (256 : Nat) ^ 8 = 18446744073709551616 := by decide
  have hxm : 256 ^ i * x ≤ 256 ^ i * 255 := Nat.mul_le_mul_left _ (by omega)
  have hsum : a + 256 ^ i * x < 18446744073709551616 := by omega
  have hp : (2 : Nat) ^ (8 * i) = 256 ^ i := by rw [Nat.pow_mul]
  rw [s_wrUn x (by omega), s_mul 8 (i : Int) (by omega) (by omega)]
  have e0 : stdA.sh .shl .u64 (x : Int) (8 * (i : Int)) = ((256 ^ i * x : Nat) : Int) := by
    show IntKind.u64.wrap ((x : Int) * 2 ^ (min (8 * (i : Int)).toNat 64)) = _
    rw [show min (8 * (i : Int)).toNat 64 = 8 * i by omega]
    have : ((x : Int) * 2 ^ (8 * i)) = ((256 ^ i * x : Nat) : Int) := by
      rw [← hp]; push_cast; rw [Int.mul_comm]
    rw [this]
    exact s_wrUn _ (by omega)
  rw [e0]
  show IntKind.u64.wrap _ = _
  have e : (BitVec.ofInt IntKind.u64.bits (a : Int) ||| BitVec.ofInt IntKind.u64.bits ((256 ^ i * x : Nat) : Int)).toNat = a + 256 ^ i * x := by
    rw [BitVec.toNat_or]
    have e1 : ∀ m : Nat, m < 18446744073709551616 → (BitVec.ofInt IntKind.u64.bits (m : Int)).toNat = m := fun m hm => by
      show (BitVec.ofInt 64 (m : Int)).toNat = m
      rw [BitVec.ofInt_natCast, BitVec.toNat_ofNat]
      exact Nat.mod_eq_of_lt (by omega)
    rw [e1 a (by omega), e1 _ (by omega), Nat.or_comm, ← hp, ← Nat.two_pow_add_eq_or_of_lt (by rw [hp]; exact ha), Nat.add_comm]
  rw [e]
  exact s_wrUn _ hsum
theorem add_step (a x : Nat) (h : 256 * a + x < 18446744073709551616) (hx : x < 256) : stdA.ib .add .u64 (stdA.ib .mul .u64 256 (a : Int)) (stdA.wr .u64 (x : Int)) = ((x + 256 * a : Nat) : Int) := by
  rw [s_wrUn x (by omega)]
  have e : stdA.ib .mul .u64 256 (a : Int) = ((256 * a : Nat) : Int) := by
    show IntKind.u64.wrap (256 * (a : Int)) = _
    rw [show (256 * (a : Int)) = ((256 * a : Nat) : Int) by omega]
    exact s_wrUn _ (by omega)
  rw [e]
  show IntKind.u64.wrap (((256 * a : Nat) : Int) + (x : Int)) = _
  rw [show (((256 * a : Nat) : Int) + (x : Int)) = ((x + 256 * a : Nat) : Int) by omega]
  exact s_wrUn _ (by omega)
theorem leV_drop (b : List Nat) (i : Nat) (h : i < b.length) : leV (b.drop i) = b.getD i 0 + 256 * leV (b.drop (i + 1)) := by
  rw [List.drop_eq_getElem_cons h, leV, List.getD_eq_getElem?_getD, List.getElem?_eq_getElem h]; rfl
theorem leV_more (b : List Nat) (i : Nat) (h : i < b.length) : leV (b.take (i + 1)) = leV (b.take i) + 256 ^ i * b.getD i 0 := by
  rw [List.take_add_one, List.getElem?_eq_getElem h, leV_app, List.length_take, Nat.min_eq_left (by omega)]
  simp [leV, List.getD_eq_getElem?_getD, List.getElem?_eq_getElem h]
set_option maxHeartbeats 4000000 in
theorem rnum_ok (s : Rd) (hs : okR s) (w : Nat) (hw : w ≤ 8) : Tri Tryz.prog gs 32 [.ptr 0 0, .lit (.int .i64 w)] [.blk (rdC s)] fun v h' => v = .lit (.int .i64 (stdA.wr .i64 (leV (tkP s w).1 : Nat))) ∧ h' = [.blk (rdC (tkP s w).2)] := by
  refine Tri_of F32_ok fun I0 ρ0 w0 Q hρ hQ => ?_
  obtain ⟨A, hA⟩ : ∃ A, A = stdA := ⟨_, rfl⟩
  have hk := tkP_ok hs w
  obtain ⟨N, c, bd, hc, _, _, _⟩ := rdC_open s
  have htk := take_v s hs w (by omega) hc
  rw [hc]
  obtain ⟨z, hz⟩ : ∃ z : Int, z = w := ⟨_, rfl⟩
  rw [← hz] at htk ⊢
  with_reducible refine runS hA hd hQ 200 ?hk ?_
  case hk => exact trivial
  conv => arg 9; cbv
  try simp only [OK]
  repeat' first | (with_reducible refine OKK.loop ?_) | (with_reducible refine OKK.again ?_) | ((with_reducible refine ⟨fun hbr => ?_, fun hbr => ?_⟩) <;> (try simp (disch := omega) only [hA, OK, emaU, Int.reduceToNat, s_bat, reduceCtorEq] at hbr) <;> (try (with_reducible exfalso; omega))) | ((with_reducible refine runK hA hd hQ 200 ?hk ?_); (case hk => exact trivial); (conv => arg 9; cbv); (try simp only [OK])) | ((with_reducible refine need_of ?hn ?_); (case hn => ((simp (disch := omega) only [hA, OK, emaU, Int.reduceToNat, s_bat]) <;> omega))) | fail
  refine CallOK.of (goodF_of F60_ok) (Tri.mono htk fun v hh hx => ?_)
  obtain ⟨M, d, N', c', b', hv, hh', _, hM, hd', hr⟩ := hx
  subst hv; subst hh'
  rw [hr] at hQ
  clear htk
  generalize (tkP s w).1 = b at hk hM hd' hQ
  with_reducible refine runK hA hd hQ 1 ?hk ?_
  case hk => exact trivial
  conv => arg 9; cbv
  try simp only [OK]
  repeat' first | (with_reducible refine OKK.loop ?_) | (with_reducible refine OKK.again ?_) | ((with_reducible refine ⟨fun hbr => ?_, fun hbr => ?_⟩) <;> (try simp (disch := omega) only [hA, OK, emaU, Int.reduceToNat, s_bat, reduceCtorEq] at hbr) <;> (try (with_reducible exfalso; omega))) | ((with_reducible refine runK hA hd hQ 200 ?hk ?_); (case hk => exact trivial); (conv => arg 9; cbv); (try simp only [OK])) | ((with_reducible refine need_of ?hn ?_); (case hn => ((simp (disch := omega) only [hA, OK, emaU, Int.reduceToNat, s_bat]) <;> omega))) | fail
  refine OKs.mask (msk 27 [5, 10, 11, 12]) ?_
  refine OKs.loopN (fun m st => ∃ (i a : Int), st = ⟨mkT 27 [(5, .lit (.int .u64 a)), (10, .isl M none d), (11, .lit (.int .i64 (A.ofn M))), (12, .lit (.int .i64 i))], [.blk [.isl N' none c', .lit (.bool b')]]⟩ ∧ m = (M - i).toNat ∧ 0 ≤ i ∧ i ≤ M ∧ a = (leV (b.take i.toNat) : Nat))
    (fun m st hs' ih => ?_) ⟨0, 0, rfl, rfl, by omega, by omega, rfl⟩
  obtain ⟨i, a, rfl, hm, hi1, hi2, ha⟩ := hs'
  obtain ⟨x, hx⟩ : ∃ x : Int, x = (b.getD i.toNat 0 : Nat) := ⟨_, rfl⟩
  have hL : i < M → List.take 1 (List.drop (A.idx 0 i 1) d) = [.lit (.int .u8 x)] := fun h => by
    obtain ⟨y, y1, y2⟩ := look_at hd' i.toNat (by omega)
    rw [hA, s_idx, Nat.zero_add, Nat.mul_one, y1, y2, hx]
  with_reducible refine runS hA hd hQ 200 ?hk ?_
  case hk => exact trivial
  conv => arg 9; cbv
  try simp only [OK]
  repeat' first | (with_reducible refine OKK.loop ?_) | (with_reducible refine OKK.again ?_) | ((with_reducible refine ⟨fun hbr => ?_, fun hbr => ?_⟩) <;> (try simp (disch := omega) only [hA, OK, emaU, Int.reduceToNat, s_bat, reduceCtorEq] at hbr) <;> (try (with_reducible exfalso; omega))) | ((with_reducible refine runK hA hd hQ 200 ?hk ?_); (case hk => exact trivial); (conv => arg 9; cbv); (try simp only [OK])) | ((with_reducible refine need_of ?hn ?_); (case hn => ((simp (disch := omega) only [hA, OK, emaU, Int.reduceToNat, s_bat]) <;> omega))) | ((refine ⟨_, _, ?l1, (hL (by omega)), rfl, ?_⟩); (case l1 => exact rfl)) | fail
  · have hxl : b.getD i.toNat 0 < 256 := hk.1.get _
    have hal : leV (b.take i.toNat) < 256 ^ i.toNat := by
      have := leV_lt _ (hk.1.take i.toNat)
      rwa [List.length_take, Nat.min_eq_left (by omega)] at this
    refine OKs.mask (msk 27 [5, 10, 11, 12]) (OKs.mv [0] [] (by rw [hρ]; rfl) ⟨by simp, by simp [sizeH], by simp⟩ (ih _ _ ⟨_, _, rfl, rfl, ?_, ?_, ?_⟩ ?_))
    · simp (disch := omega) only [hA, OK, emaU, Int.reduceToNat, s_bat] <;> omega
    · simp (disch := omega) only [hA, OK, emaU, Int.reduceToNat, s_bat] <;> omega
    · show A.ib .or .u64 a (A.sh .shl .u64 (A.wr .u64 x) (A.ib .mul .i64 8 i)) = (leV (b.take (A.ib .add .i64 i 1).toNat) : Nat)
      rw [show (A.ib .add .i64 i 1).toNat = i.toNat + 1 by simp (disch := omega) only [hA, OK, emaU, Int.reduceToNat, s_bat] <;> omega, leV_more b _ (by omega), ha, hx, hA, show i = (i.toNat : Int) by omega]
      exact or_step _ _ _ hal hxl (by omega)
    · simp (disch := omega) only [hA, OK, emaU, Int.reduceToNat, s_bat] <;> omega
  · refine ⟨_, rfl, ?_, rfl⟩
    show EV.lit (.int .i64 (A.wr .i64 a)) = _
    rw [ha, hA, List.take_of_length_le (by omega)]
set_option maxHeartbeats 4000000 in
theorem rnumR_ok (s : Rd) (hs : okR s) (w : Nat) (hw1 : 1 ≤ w) (hw : w ≤ 8) : Tri Tryz.prog gs 35 [.ptr 0 0, .lit (.int .i64 w)] [.blk (rdC s)] fun v h' => v = .lit (.int .u64 (leV (tkR s w).1 : Nat)) ∧ h' = [.blk (rdC (tkR s w).2)] := by
  refine Tri_of F35_ok fun I0 ρ0 w0 Q hρ hQ => ?_
  obtain ⟨A, hA⟩ : ∃ A, A = stdA := ⟨_, rfl⟩
  have hk := tkR_ok hs w
  obtain ⟨N, c, bd, hc, _, _, _⟩ := rdC_open s
  have htk := takeR_v s hs w (by omega) hc
  rw [hc]
  obtain ⟨z, hz⟩ : ∃ z : Int, z = w := ⟨_, rfl⟩
  rw [← hz] at htk ⊢
  with_reducible refine runS hA hd hQ 200 ?hk ?_
  case hk => exact trivial
  conv => arg 9; cbv
  try simp only [OK]
  repeat' first | (with_reducible refine OKK.loop ?_) | (with_reducible refine OKK.again ?_) | ((with_reducible refine ⟨fun hbr => ?_, fun hbr => ?_⟩) <;> (try simp (disch := omega) only [hA, OK, emaU, Int.reduceToNat, s_bat, reduceCtorEq] at hbr) <;> (try (with_reducible exfalso; omega))) | ((with_reducible refine runK hA hd hQ 200 ?hk ?_); (case hk => exact trivial); (conv => arg 9; cbv); (try simp only [OK])) | ((with_reducible refine need_of ?hn ?_); (case hn => ((simp (disch := omega) only [hA, OK, emaU, Int.reduceToNat, s_bat]) <;> omega))) | fail
  refine CallOK.of (goodF_of F61_ok) (Tri.mono htk fun v hh hx => ?_)
  obtain ⟨M, d, N', c', b', hv, hh', _, hM, hd', hr⟩ := hx
  subst hv; subst hh'
  rw [hr] at hQ
  clear htk
  generalize (tkR s w).1 = b at hk hM hd' hQ
  with_reducible refine runK hA hd hQ 1 ?hk ?_
  case hk => exact trivial
  conv => arg 9; cbv
  try simp only [OK]
  repeat' first | (with_reducible refine OKK.loop ?_) | (with_reducible refine OKK.again ?_) | ((with_reducible refine ⟨fun hbr => ?_, fun hbr => ?_⟩) <;> (try simp (disch := omega) only [hA, OK, emaU, Int.reduceToNat, s_bat, reduceCtorEq] at hbr) <;> (try (with_reducible exfalso; omega))) | ((with_reducible refine runK hA hd hQ 200 ?hk ?_); (case hk => exact trivial); (conv => arg 9; cbv); (try simp only [OK])) | ((with_reducible refine need_of ?hn ?_); (case hn => ((simp (disch := omega) only [hA, OK, emaU, Int.reduceToNat, s_bat]) <;> omega))) | fail
  refine OKs.mask (msk 26 [5, 6, 7]) ?_
  refine OKs.loopN (fun m st => ∃ (i a : Int), st = ⟨mkT 26 [(5, .isl M none d), (6, .lit (.int .u64 a)), (7, .lit (.int .i64 i))], [.blk [.isl N' none c', .lit (.bool b')]]⟩ ∧ m = (i + 1).toNat ∧ -1 ≤ i ∧ i < M ∧ a = (leV (b.drop (i + 1).toNat) : Nat))
    (fun m st hs' ih => ?_) ⟨A.ib .sub .i64 z 1, 0, rfl, rfl, by simp (disch := omega) only [hA, OK, emaU, Int.reduceToNat, s_bat] <;> omega, by simp (disch := omega) only [hA, OK, emaU, Int.reduceToNat, s_bat] <;> omega, by rw [List.drop_eq_nil_of_le (by simp (disch := omega) only [hA, OK, emaU, Int.reduceToNat, s_bat] <;> omega)]; rfl⟩
  obtain ⟨i, a, rfl, hm, hi1, hi2, ha⟩ := hs'
  obtain ⟨x, hx⟩ : ∃ x : Int, x = (b.getD i.toNat 0 : Nat) := ⟨_, rfl⟩
  have hL : 0 ≤ i → List.take 1 (List.drop (A.idx 0 i 1) d) = [.lit (.int .u8 x)] := fun h => by
    obtain ⟨y, y1, y2⟩ := look_at hd' i.toNat (by omega)
    rw [hA, s_idx, Nat.zero_add, Nat.mul_one, y1, y2, hx]
  with_reducible refine runS hA hd hQ 200 ?hk ?_
  case hk => exact trivial
  conv => arg 9; cbv
  try simp only [OK]
  repeat' first | (with_reducible refine OKK.loop ?_) | (with_reducible refine OKK.again ?_) | ((with_reducible refine ⟨fun hbr => ?_, fun hbr => ?_⟩) <;> (try simp (disch := omega) only [hA, OK, emaU, Int.reduceToNat, s_bat, reduceCtorEq] at hbr) <;> (try (with_reducible exfalso; omega))) | ((with_reducible refine runK hA hd hQ 200 ?hk ?_); (case hk => exact trivial); (conv => arg 9; cbv); (try simp only [OK])) | ((with_reducible refine need_of ?hn ?_); (case hn => ((simp (disch := omega) only [hA, OK, emaU, Int.reduceToNat, s_bat]) <;> omega))) | ((refine ⟨_, _, ?l1, (hL (by omega)), rfl, ?_⟩); (case l1 => exact rfl)) | fail
  · have hxl : b.getD i.toNat 0 < 256 := hk.1.get _
    have hal : leV (b.drop i.toNat) < 256 ^ 8 := by
      have h1 := leV_lt _ (hk.1.drop i.toNat)
      exact Nat.lt_of_lt_of_le h1 (Nat.pow_le_pow_right (by decide) (by rw [List.length_drop]; omega))
    have hst := leV_drop b i.toNat (by omega)
    rw [show (i + 1).toNat = i.toNat + 1 by omega] at ha
    refine OKs.mask (msk 26 [5, 6, 7]) (OKs.mv [0] [] (by rw [hρ]; rfl) ⟨by simp, by simp [sizeH], by simp⟩ (ih _ _ ⟨_, _, rfl, rfl, ?_, ?_, ?_⟩ ?_))
    · simp (disch := omega) only [hA, OK, emaU, Int.reduceToNat, s_bat] <;> omega
    · simp (disch := omega) only [hA, OK, emaU, Int.reduceToNat, s_bat] <;> omega
    · show A.ib .add .u64 (A.ib .mul .u64 256 a) (A.wr .u64 x) = (leV (b.drop (A.ib .sub .i64 i 1 + 1).toNat) : Nat)
      rw [show (A.ib .sub .i64 i 1 + 1).toNat = i.toNat by simp (disch := omega) only [hA, OK, emaU, Int.reduceToNat, s_bat] <;> omega, hst, ha, hx, hA]
      exact add_step _ _ (by rw [hst] at hal; omega) hxl
    · simp (disch := omega) only [hA, OK, emaU, Int.reduceToNat, s_bat] <;> omega
  · refine ⟨_, rfl, ?_, rfl⟩
    show EV.lit (.int .u64 a) = _
    rw [ha, show (i + 1).toNat = 0 by omega, List.drop_zero]
end Go.Proofs.YtecephhhjhpcjaaGreatDoor.Stats
end
section
set_option linter.unusedVariables false
set_option linter.unusedSimpArgs false
-- emaX: s_bat
namespace Go.Proofs.YtecephhhjhpcjaaGreatDoor.Stats
open Go Go.Proofs.YtecephhhjhpcjaaGreatDoor Go.Proofs.YtecephhhjhpcjaaGreatDoor.Em
theorem wr64_small (l : List Nat) (h : AllB l) (hl : l.length ≤ 4) : stdA.wr .i64 (leV l : Nat) = (leV l : Nat) := by
  have h1 := leV_lt l h
  have h2 : (256 : Nat) ^ l.length ≤ 256 ^ 4 := Nat.pow_le_pow_right (by decide) hl
  have h3 : (256 : Nat) ^ 4 = 4294967296 := by decide
  exact s_wr64 _ (by omega) (by omega)
theorem take_at {s : Rd} (hs : okR s) (n : Nat) (hn : n ≤ 300) {z : Int} (hz : z = n) {h : EH} {id : Nat} {c : List EV} (hg : getH h id = .blk c) (hc : rdC s = c) :
    Tri Tryz.prog gs 60 [.ptr id 0, .lit (.int .i64 z)] h fun v h' => ∃ M d N' c' b', v = .isl M none d ∧ h' = setH h id (.blk [.isl N' none c', .lit (.bool b')]) ∧ M = (tkP s n).1.length ∧ d = bytesE (tkP s n).1 ∧ rdC (tkP s n).2 = [.isl N' none c', .lit (.bool b')] := by
  subst hz; subst hc
  refine (Tri.step (R := fun V c' => V = isB (tkP s n).1 ∧ c' = rdC (tkP s n).2) (fun V c' ⟨h1, h2⟩ => by subst h1; subst h2; exact ⟨rfl, rfl⟩) ((take_ok s hs n hn).mono fun v h' ⟨h1, h2⟩ => ⟨_, ⟨h1, rfl⟩, h2⟩) rfl rfl hg).mono fun v h' ⟨c', ⟨h1, h2⟩, h3⟩ => ?_
  subst h2
  exact ⟨_, _, _, _, _, h1, h3, rfl, rfl, rfl⟩
theorem takeR_at {s : Rd} (hs : okR s) (n : Nat) (hn : n ≤ 300) {z : Int} (hz : z = n) {h : EH} {id : Nat} {c : List EV} (hg : getH h id = .blk c) (hc : rdC s = c) :
    Tri Tryz.prog gs 61 [.ptr id 0, .lit (.int .i64 z)] h fun v h' => ∃ M d N' c' b', v = .isl M none d ∧ h' = setH h id (.blk [.isl N' none c', .lit (.bool b')]) ∧ M = (tkR s n).1.length ∧ d = bytesE (tkR s n).1 ∧ rdC (tkR s n).2 = [.isl N' none c', .lit (.bool b')] := by
  subst hz; subst hc
  refine (Tri.step (R := fun V c' => V = isB (tkR s n).1 ∧ c' = rdC (tkR s n).2) (fun V c' ⟨h1, h2⟩ => by subst h1; subst h2; exact ⟨rfl, rfl⟩) ((takeR_ok s hs n hn).mono fun v h' ⟨h1, h2⟩ => ⟨_, ⟨h1, rfl⟩, h2⟩) rfl rfl hg).mono fun v h' ⟨c', ⟨h1, h2⟩, h3⟩ => ?_
  subst h2
  exact ⟨_, _, _, _, _, h1, h3, rfl, rfl, rfl⟩
theorem rnum_at {s : Rd} (hs : okR s) (w : Nat) (hw : w ≤ 8) {h : EH} {id : Nat} {c : List EV} (hg : getH h id = .blk c) (hc : rdC s = c) :
    Tri Tryz.prog gs 32 [.ptr id 0, .lit (.int .i64 w)] h fun v h' => ∃ z N' c' b', v = .lit (.int .i64 z) ∧ h' = setH h id (.blk [.isl N' none c', .lit (.bool b')]) ∧ z = stdA.wr .i64 (leV (tkP s w).1 : Nat) ∧ rdC (tkP s w).2 = [.isl N' none c', .lit (.bool b')] := by
  subst hc
  refine (Tri.step (R := fun V c' => V = .lit (.int .i64 (stdA.wr .i64 (leV (tkP s w).1 : Nat))) ∧ c' = rdC (tkP s w).2) (fun V c' ⟨h1, h2⟩ => by subst h1; subst h2; exact ⟨rfl, rfl⟩) ((rnum_ok s hs w hw).mono fun v h' ⟨h1, h2⟩ => ⟨_, ⟨h1, rfl⟩, h2⟩) rfl rfl hg).mono fun v h' ⟨c', ⟨h1, h2⟩, h3⟩ => ?_
  subst h2
  exact ⟨_, _, _, _, h1, h3, rfl, rfl⟩
theorem rnumR_at {s : Rd} (hs : okR s) (w : Nat) (hw1 : 1 ≤ w) (hw : w ≤ 8) {h : EH} {id : Nat} {c : List EV} (hg : getH h id = .blk c) (hc : rdC s = c) :
    Tri Tryz.prog gs 35 [.ptr id 0, .lit (.int .i64 w)] h fun v h' => ∃ z N' c' b', v = .lit (.int .u64 z) ∧ h' = setH h id (.blk [.isl N' none c', .lit (.bool b')]) ∧ z = (leV (tkR s w).1 : Nat) ∧ rdC (tkR s w).2 = [.isl N' none c', .lit (.bool b')] := by
  subst hc
  refine (Tri.step (R := fun V c' => V = .lit (.int .u64 (leV (tkR s w).1 : Nat)) ∧ c' = rdC (tkR s w).2) (fun V c' ⟨h1, h2⟩ => by subst h1; subst h2; exact ⟨rfl, rfl⟩) ((rnumR_ok s hs w hw1 hw).mono fun v h' ⟨h1, h2⟩ => ⟨_, ⟨h1, rfl⟩, h2⟩) rfl rfl hg).mono fun v h' ⟨c', ⟨h1, h2⟩, h3⟩ => ?_
  subst h2
  exact ⟨_, _, _, _, h1, h3, rfl, rfl⟩
theorem leV1 {l : List Nat} (h : AllB l) (hl : l.length = 1) : leV l < 256 := by
  have := leV_lt l h; rw [hl] at this; omega
set_option maxRecDepth 100000 in
set_option maxHeartbeats 4000000 in
theorem rbound_ok (s : Rd) (hs : okR s) (k : Int) : Tri Tryz.prog gs 33 [.ptr 0 0, .lit (.int .i64 k)] [.blk (rdC s)] fun v h' => v = .agg (bdG tkP k s).1.cells ∧ h' = [.blk (rdC (bdG tkP k s).2)] := by
  obtain ⟨V, hV⟩ : ∃ V, V = bdG tkP k s := ⟨_, rfl⟩
  have h1 : 12 ≤ k ∧ k ≤ 14 → V = (⟨false, 0, strE (tkP (tkP s 1).2 (leV (tkP s 1).1)).1, 0, []⟩, (tkP (tkP s 1).2 (leV (tkP s 1).1)).2) := fun h => by rw [hV]; exact if_pos h
  have h2 : ¬ (12 ≤ k ∧ k ≤ 14) → V = (⟨false, stdA.wr .i64 (leV (tkP s 8).1 : Nat), ⟨#[]⟩, 0, []⟩, (tkP s 8).2) := fun h => by rw [hV]; exact if_neg h
  rw [← hV]
  clear hV
  have hk1 := tkP_ok hs 1
  have hk2 := tkP_ok hk1.2.2 (leV (tkP s 1).1)
  have hlt := leV1 hk1.1 hk1.2.1
  refine Tri.up (R := fun v h' => (∃ x t, v = .agg [.lit (.bool false), .lit (.int .i64 x), .lit (.string t), .lit (.slice none 0 0)] ∧ V.1 = ⟨false, x, t, 0, []⟩) ∧ h' = [.blk (rdC V.2)])
    (Tri.mv (R := fun v h' => (∃ x t, v = .agg [.lit (.bool false), .lit (.int .i64 x), .lit (.string t), .lit (.slice none 0 0)] ∧ V.1 = ⟨false, x, t, 0, []⟩) ∧ ∃ a c, h' = [.blk c, a] ∧ c = rdC V.2) ?_ fun v h' ⟨⟨x, t, e1, e2⟩, a, c, e3, e4⟩ => ⟨[0], [], rfl, ?_, ⟨x, t, ?_, e2⟩, ?_⟩) fun v h' ⟨⟨x, t, e1, e2⟩, e3⟩ => ⟨_, ⟨rfl, e3⟩, ?_⟩
  · refine Tri_of F33_ok fun I0 ρ0 w0 Q hρ hQ => ?_
    obtain ⟨A, hA⟩ : ∃ A, A = stdA := ⟨_, rfl⟩
    obtain ⟨N, c, bd, hc, _, _, _⟩ := rdC_open s
    rw [hc]
    with_reducible refine runS hA hd hQ 200 ?hk ?_
    case hk => exact trivial
    conv => arg 9; cbv
    try simp only [OK]
    repeat' first | ((with_reducible refine ⟨fun hbr => ?_, fun hbr => ?_⟩) <;> (try simp (disch := omega) only [hA, OK, emaU, Int.reduceToNat, s_bat, reduceCtorEq] at hbr) <;> (try (with_reducible exfalso; omega))) | ((with_reducible refine runK hA hd hQ 200 ?hk ?_); (case hk => exact trivial); (conv => arg 9; cbv); (try simp only [OK])) | ((with_reducible refine need_of ?hn ?_); (case hn => ((simp (disch := omega) only [hA, OK, emaU, Int.reduceToNat, s_bat]) <;> omega))) | (refine CallOK.of (goodF_of F40_ok) (Tri.mono (isText_ok _ _) fun v hh hx => ?_); (obtain ⟨⟨b, hv, hb⟩, he⟩ := hx; subst hv; subst he; cases b <;> simp (disch := omega) only [hA, OK, emaU, Int.reduceToNat, s_bat, Bool.false_eq_true, true_iff, false_iff, eq_self, reduceCtorEq] at hb) <;> (try (with_reducible exfalso; omega))) | fail
    · refine CallOK.of (goodF_of F32_ok) (Tri.mono (rnum_at hs 8 (by omega) rfl hc) fun v hh hx => ?_)
      obtain ⟨z, N', c', b', hv, hh', hz, hr⟩ := hx
      subst hv; subst hh'
      with_reducible refine runK hA hd hQ 1 ?hk ?_
      case hk => exact trivial
      conv => arg 9; cbv
      try simp only [OK]
      repeat' first | ((with_reducible refine ⟨fun hbr => ?_, fun hbr => ?_⟩) <;> (try simp (disch := omega) only [hA, OK, emaU, Int.reduceToNat, s_bat, reduceCtorEq] at hbr) <;> (try (with_reducible exfalso; omega))) | ((with_reducible refine runK hA hd hQ 200 ?hk ?_); (case hk => exact trivial); (conv => arg 9; cbv); (try simp only [OK])) | ((with_reducible refine need_of ?hn ?_); (case hn => ((simp (disch := omega) only [hA, OK, emaU, Int.reduceToNat, s_bat]) <;> omega))) | fail
      have hV2 := h2 (by assumption)
      refine ⟨_, rfl, ⟨z, ⟨#[]⟩, rfl, ?_⟩, _, _, rfl, ?_⟩
      · rw [hV2, hz]
      · rw [hV2, hr]
    · refine CallOK.of (goodF_of F32_ok) (Tri.mono (rnum_at hs 1 (by omega) rfl hc) fun v hh hx => ?_)
      obtain ⟨z, N', c', b', hv, hh', hz, hr⟩ := hx
      subst hv; subst hh'
      with_reducible refine runK hA hd hQ 1 ?hk ?_
      case hk => exact trivial
      conv => arg 9; cbv
      try simp only [OK]
      repeat' first | ((with_reducible refine ⟨fun hbr => ?_, fun hbr => ?_⟩) <;> (try simp (disch := omega) only [hA, OK, emaU, Int.reduceToNat, s_bat, reduceCtorEq] at hbr) <;> (try (with_reducible exfalso; omega))) | ((with_reducible refine runK hA hd hQ 200 ?hk ?_); (case hk => exact trivial); (conv => arg 9; cbv); (try simp only [OK])) | ((with_reducible refine need_of ?hn ?_); (case hn => ((simp (disch := omega) only [hA, OK, emaU, Int.reduceToNat, s_bat]) <;> omega))) | fail
      refine CallOK.of (goodF_of F60_ok) (Tri.mono (take_at hk1.2.2 (leV (tkP s 1).1) (by omega) (by rw [hz]; exact wr64_small _ hk1.1 (by omega)) rfl hr) fun v hh hx => ?_)
      obtain ⟨M, d, N2, c2, b2, hv, hh', hM, hd', hr2⟩ := hx
      subst hv; subst hh'
      have hby : A.byt M d = true := by rw [hA, hd', hM]; exact byt_ok hk2.1 (Nat.le_refl _)
      with_reducible refine runK hA hd hQ 1 ?hk ?_
      case hk => exact trivial
      conv => arg 9; cbv
      try simp only [OK]
      repeat' first | ((with_reducible refine ⟨fun hbr => ?_, fun hbr => ?_⟩) <;> (try simp (disch := omega) only [hA, OK, emaU, Int.reduceToNat, s_bat, reduceCtorEq] at hbr) <;> (try (with_reducible exfalso; omega))) | ((with_reducible refine runK hA hd hQ 200 ?hk ?_); (case hk => exact trivial); (conv => arg 9; cbv); (try simp only [OK])) | ((with_reducible refine need_of ?hn ?_); (case hn => ((simp (disch := omega) only [hA, OK, emaU, Int.reduceToNat, s_bat]) <;> omega))) | fail
      refine ⟨hby, ?_⟩
      with_reducible refine runK hA hd hQ 200 ?hk ?_
      case hk => exact trivial
      conv => arg 9; cbv
      try simp only [OK]
      have hV1 := h1 (by assumption)
      refine ⟨_, rfl, ⟨0, A.dec (A.tak M d), rfl, ?_⟩, _, _, rfl, ?_⟩
      · rw [hV1, hA, hd', hM, show stdA.tak = fun n (l : List EV) => l.take n from rfl]
        simp only [bytesE_take, List.take_length, dec_bytes]
      · rw [hV1, hr2]
  · subst e3; exact ⟨by simp, by simp [sizeH], by simp⟩
  · subst e1; rfl
  · subst e3; subst e4; rfl
  · subst e1; rw [e2]
    exact Up.agg rfl fun j x y hx hy => by
      match j, hx, hy with
      | 0, hx, hy => simp [VP.cells] at hx hy; subst hx; subst hy; exact Up.refl _
      | 1, hx, hy => simp [VP.cells] at hx hy; subst hx; subst hy; exact Up.refl _
      | 2, hx, hy => simp [VP.cells] at hx hy; subst hx; subst hy; exact Up.refl _
      | 3, hx, hy => simp [VP.cells] at hx hy; subst hx; subst hy; exact Up.nil _
set_option maxRecDepth 100000 in
set_option maxHeartbeats 4000000 in
theorem rlimit_ok (s : Rd) (hs : okR s) (k : Int) : Tri Tryz.prog gs 36 [.ptr 0 0, .lit (.int .i64 k)] [.blk (rdC s)] fun v h' => v = .agg (bdG tkR k s).1.cells ∧ h' = [.blk (rdC (bdG tkR k s).2)] := by
  obtain ⟨V, hV⟩ : ∃ V, V = bdG tkR k s := ⟨_, rfl⟩
  have h1 : 12 ≤ k ∧ k ≤ 14 → V = (⟨false, 0, strE (tkR (tkR s 1).2 (leV (tkR s 1).1)).1, 0, []⟩, (tkR (tkR s 1).2 (leV (tkR s 1).1)).2) := fun h => by rw [hV]; exact if_pos h
  have h2 : ¬ (12 ≤ k ∧ k ≤ 14) → V = (⟨false, stdA.wr .i64 (leV (tkR s 8).1 : Nat), ⟨#[]⟩, 0, []⟩, (tkR s 8).2) := fun h => by rw [hV]; exact if_neg h
  rw [← hV]
  clear hV
  have hk1 := tkR_ok hs 1
  have hk2 := tkR_ok hk1.2.2 (leV (tkR s 1).1)
  have hlt := leV1 hk1.1 hk1.2.1
  refine Tri.up (R := fun v h' => (∃ x t, v = .agg [.lit (.bool false), .lit (.int .i64 x), .lit (.string t), .lit (.slice none 0 0)] ∧ V.1 = ⟨false, x, t, 0, []⟩) ∧ h' = [.blk (rdC V.2)])
    (Tri.mv (R := fun v h' => (∃ x t, v = .agg [.lit (.bool false), .lit (.int .i64 x), .lit (.string t), .lit (.slice none 0 0)] ∧ V.1 = ⟨false, x, t, 0, []⟩) ∧ ∃ a c, h' = [.blk c, a] ∧ c = rdC V.2) ?_ fun v h' ⟨⟨x, t, e1, e2⟩, a, c, e3, e4⟩ => ⟨[0], [], rfl, ?_, ⟨x, t, ?_, e2⟩, ?_⟩) fun v h' ⟨⟨x, t, e1, e2⟩, e3⟩ => ⟨_, ⟨rfl, e3⟩, ?_⟩
  · refine Tri_of F36_ok fun I0 ρ0 w0 Q hρ hQ => ?_
    obtain ⟨A, hA⟩ : ∃ A, A = stdA := ⟨_, rfl⟩
    obtain ⟨N, c, bd, hc, _, _, _⟩ := rdC_open s
    rw [hc]
    with_reducible refine runS hA hd hQ 200 ?hk ?_
    case hk => exact trivial
    conv => arg 9; cbv
    try simp only [OK]
    repeat' first | ((with_reducible refine ⟨fun hbr => ?_, fun hbr => ?_⟩) <;> (try simp (disch := omega) only [hA, OK, emaU, Int.reduceToNat, s_bat, reduceCtorEq] at hbr) <;> (try (with_reducible exfalso; omega))) | ((with_reducible refine runK hA hd hQ 200 ?hk ?_); (case hk => exact trivial); (conv => arg 9; cbv); (try simp only [OK])) | ((with_reducible refine need_of ?hn ?_); (case hn => ((simp (disch := omega) only [hA, OK, emaU, Int.reduceToNat, s_bat]) <;> omega))) | (refine CallOK.of (goodF_of F57_ok) (Tri.mono (textR_ok _ _) fun v hh hx => ?_); (obtain ⟨⟨b, hv, hb⟩, he⟩ := hx; subst hv; subst he; cases b <;> simp (disch := omega) only [hA, OK, emaU, Int.reduceToNat, s_bat, Bool.false_eq_true, true_iff, false_iff, eq_self, reduceCtorEq] at hb) <;> (try (with_reducible exfalso; omega))) | fail
    · refine CallOK.of (goodF_of F35_ok) (Tri.mono (rnumR_at hs 8 (by omega) (by omega) rfl hc) fun v hh hx => ?_)
      obtain ⟨z, N', c', b', hv, hh', hz, hr⟩ := hx
      subst hv; subst hh'
      with_reducible refine runK hA hd hQ 1 ?hk ?_
      case hk => exact trivial
      conv => arg 9; cbv
      try simp only [OK]
      repeat' first | ((with_reducible refine ⟨fun hbr => ?_, fun hbr => ?_⟩) <;> (try simp (disch := omega) only [hA, OK, emaU, Int.reduceToNat, s_bat, reduceCtorEq] at hbr) <;> (try (with_reducible exfalso; omega))) | ((with_reducible refine runK hA hd hQ 200 ?hk ?_); (case hk => exact trivial); (conv => arg 9; cbv); (try simp only [OK])) | ((with_reducible refine need_of ?hn ?_); (case hn => ((simp (disch := omega) only [hA, OK, emaU, Int.reduceToNat, s_bat]) <;> omega))) | fail
      have hV2 := h2 (by assumption)
      refine ⟨_, rfl, ⟨A.wr .i64 z, ⟨#[]⟩, rfl, ?_⟩, _, _, rfl, ?_⟩
      · rw [hV2, hA, hz]
      · rw [hV2, hr]
    · refine CallOK.of (goodF_of F35_ok) (Tri.mono (rnumR_at hs 1 (by omega) (by omega) rfl hc) fun v hh hx => ?_)
      obtain ⟨z, N', c', b', hv, hh', hz, hr⟩ := hx
      subst hv; subst hh'
      with_reducible refine runK hA hd hQ 1 ?hk ?_
      case hk => exact trivial
      conv => arg 9; cbv
      try simp only [OK]
      repeat' first | ((with_reducible refine ⟨fun hbr => ?_, fun hbr => ?_⟩) <;> (try simp (disch := omega) only [hA, OK, emaU, Int.reduceToNat, s_bat, reduceCtorEq] at hbr) <;> (try (with_reducible exfalso; omega))) | ((with_reducible refine runK hA hd hQ 200 ?hk ?_); (case hk => exact trivial); (conv => arg 9; cbv); (try simp only [OK])) | ((with_reducible refine need_of ?hn ?_); (case hn => ((simp (disch := omega) only [hA, OK, emaU, Int.reduceToNat, s_bat]) <;> omega))) | fail
      refine CallOK.of (goodF_of F61_ok) (Tri.mono (takeR_at hk1.2.2 (leV (tkR s 1).1) (by omega) (by rw [hA, hz]; exact wr64_small _ hk1.1 (by omega)) rfl hr) fun v hh hx => ?_)
      obtain ⟨M, d, N2, c2, b2, hv, hh', hM, hd', hr2⟩ := hx
      subst hv; subst hh'
      have hby : A.byt M d = true := by rw [hA, hd', hM]; exact byt_ok hk2.1 (Nat.le_refl _)
      with_reducible refine runK hA hd hQ 1 ?hk ?_
      case hk => exact trivial
      conv => arg 9; cbv
      try simp only [OK]
      repeat' first | ((with_reducible refine ⟨fun hbr => ?_, fun hbr => ?_⟩) <;> (try simp (disch := omega) only [hA, OK, emaU, Int.reduceToNat, s_bat, reduceCtorEq] at hbr) <;> (try (with_reducible exfalso; omega))) | ((with_reducible refine runK hA hd hQ 200 ?hk ?_); (case hk => exact trivial); (conv => arg 9; cbv); (try simp only [OK])) | ((with_reducible refine need_of ?hn ?_); (case hn => ((simp (disch := omega) only [hA, OK, emaU, Int.reduceToNat, s_bat]) <;> omega))) | fail
      refine ⟨hby, ?_⟩
      with_reducible refine runK hA hd hQ 200 ?hk ?_
      case hk => exact trivial
      conv => arg 9; cbv
      try simp only [OK]
      have hV1 := h1 (by assumption)
      refine ⟨_, rfl, ⟨0, A.dec (A.tak M d), rfl, ?_⟩, _, _, rfl, ?_⟩
      · rw [hV1, hA, hd', hM, show stdA.tak = fun n (l : List EV) => l.take n from rfl]
        simp only [bytesE_take, List.take_length, dec_bytes]
      · rw [hV1, hr2]
  · subst e3; exact ⟨by simp, by simp [sizeH], by simp⟩
  · subst e1; rfl
  · subst e3; subst e4; rfl
  · subst e1; rw [e2]
    exact Up.agg rfl fun j x y hx hy => by
      match j, hx, hy with
      | 0, hx, hy => simp [VP.cells] at hx hy; subst hx; subst hy; exact Up.refl _
      | 1, hx, hy => simp [VP.cells] at hx hy; subst hx; subst hy; exact Up.refl _
      | 2, hx, hy => simp [VP.cells] at hx hy; subst hx; subst hy; exact Up.refl _
      | 3, hx, hy => simp [VP.cells] at hx hy; subst hx; subst hy; exact Up.nil _
theorem bound_at {s : Rd} (hs : okR s) (k : Int) {h : EH} {id : Nat} {c : List EV} (hg : getH h id = .blk c) (hc : rdC s = c) :
    Tri Tryz.prog gs 33 [.ptr id 0, .lit (.int .i64 k)] h fun v h' => ∃ x t N' c' b', v = .agg [.lit (.bool false), .lit (.int .i64 x), .lit (.string t), .isl 0 none []] ∧ h' = setH h id (.blk [.isl N' none c', .lit (.bool b')]) ∧ (bdG tkP k s).1 = ⟨false, x, t, 0, []⟩ ∧ rdC (bdG tkP k s).2 = [.isl N' none c', .lit (.bool b')] := by
  subst hc
  refine (Tri.step (R := fun V c' => V = .agg (bdG tkP k s).1.cells ∧ c' = rdC (bdG tkP k s).2) (fun V c' ⟨h1, h2⟩ => by subst h1; subst h2; exact ⟨rfl, rfl⟩) ((rbound_ok s hs k).mono fun v h' ⟨h1, h2⟩ => ⟨_, ⟨h1, rfl⟩, h2⟩) rfl rfl hg).mono fun v h' ⟨c', ⟨h1, h2⟩, h3⟩ => ?_
  subst h2
  obtain ⟨x, t, e⟩ : ∃ x t, (bdG tkP k s).1 = ⟨false, x, t, 0, []⟩ := by unfold bdG; split <;> exact ⟨_, _, rfl⟩
  exact ⟨x, t, _, _, _, by rw [h1, e]; rfl, h3, e, rfl⟩
theorem limit_at {s : Rd} (hs : okR s) (k : Int) {h : EH} {id : Nat} {c : List EV} (hg : getH h id = .blk c) (hc : rdC s = c) :
    Tri Tryz.prog gs 36 [.ptr id 0, .lit (.int .i64 k)] h fun v h' => ∃ x t N' c' b', v = .agg [.lit (.bool false), .lit (.int .i64 x), .lit (.string t), .isl 0 none []] ∧ h' = setH h id (.blk [.isl N' none c', .lit (.bool b')]) ∧ (bdG tkR k s).1 = ⟨false, x, t, 0, []⟩ ∧ rdC (bdG tkR k s).2 = [.isl N' none c', .lit (.bool b')] := by
  subst hc
  refine (Tri.step (R := fun V c' => V = .agg (bdG tkR k s).1.cells ∧ c' = rdC (bdG tkR k s).2) (fun V c' ⟨h1, h2⟩ => by subst h1; subst h2; exact ⟨rfl, rfl⟩) ((rlimit_ok s hs k).mono fun v h' ⟨h1, h2⟩ => ⟨_, ⟨h1, rfl⟩, h2⟩) rfl rfl hg).mono fun v h' ⟨c', ⟨h1, h2⟩, h3⟩ => ?_
  subst h2
  obtain ⟨x, t, e⟩ : ∃ x t, (bdG tkR k s).1 = ⟨false, x, t, 0, []⟩ := by unfold bdG; split <;> exact ⟨_, _, rfl⟩
  exact ⟨x, t, _, _, _, by rw [h1, e]; rfl, h3, e, rfl⟩
end Go.Proofs.YtecephhhjhpcjaaGreatDoor.Stats
end
section
set_option linter.unusedVariables false
set_option linter.unusedSimpArgs false
-- emaX: s_bat
namespace Go.Proofs.YtecephhhjhpcjaaGreatDoor.Stats
open Go Go.Proofs.YtecephhhjhpcjaaGreatDoor Go.Proofs.YtecephhhjhpcjaaGreatDoor.Em
theorem isStat_ck (f : Fld) (hall : allF f) (s : StP) (hs : s.ok) (h : EH) : Tri Tryz.prog gs 16 [.agg (cellsF f), .agg s.cells] h fun v h' => IsP (s.may (ck f)) v ∧ h' = h := by
  obtain ⟨g, hc, hg, _⟩ := core_ex _ f (Nat.le_refl _) hall
  rw [ck_eq hc]
  exact isStat_ok f g hall hc hg s.rows s.nulls s.has s.l s.m hs.2.2.1 hs.2.2.2 h
theorem isR_ck (f : Fld) (hall : allF f) (s : StP) (hs : s.ok) (h : EH) : Tri Tryz.prog gs 20 [.agg (cellsF f), .agg s.cells] h fun v h' => IsP (s.may (ck f)) v ∧ h' = h := by
  obtain ⟨g, hc, hg, _⟩ := core_ex _ f (Nat.le_refl _) hall
  rw [ck_eq hc]
  exact isR_ok f g hall hc hg s.rows s.nulls s.has s.l s.m hs.2.2.1 hs.2.2.2 h
theorem plain_ck (f : Fld) (hall : allF f) (h : EH) : Tri Tryz.prog gs 17 [.agg (cellsF f)] h fun v h' => (∃ nm nul k w i x kn kc, v = .agg [.lit (.string nm), .lit (.bool nul), .lit (.int .i64 k), .lit (.int .i64 w), .lit (.int .i64 i), .lit (.int .i64 x), .isl kn none kc] ∧ k = ck f) ∧ h' = h := by
  obtain ⟨g, hc, hg, _⟩ := core_ex _ f (Nat.le_refl _) hall
  exact (plain_ok f g hall hc h).mono fun v h' ⟨⟨nm, nul, h1⟩, h2⟩ => ⟨⟨_, _, _, _, _, _, _, _, h1, (ck_eq hc).symm⟩, h2⟩
theorem kindOf_ck (f : Fld) (hall : allF f) (h : EH) : Tri Tryz.prog gs 21 [.agg (cellsF f)] h fun v h' => IsN .i64 (fun n => n = ck f) v ∧ h' = h := by
  obtain ⟨g, hc, hg, _⟩ := core_ex _ f (Nat.le_refl _) hall
  exact (kindOf_ok f g hall hc h).mono fun v h' ⟨h1, h2⟩ => ⟨⟨_, h1, (ck_eq hc).symm⟩, h2⟩
set_option maxRecDepth 100000 in
set_option maxHeartbeats 4000000 in
theorem fit_ok (fs : List Fld) (ns : List Nt) (l : List StP) (hfs : fs.length ≤ 140737488351232) (hns : ns.length ≤ 140737488351232) (hok : okFs fs) (hnt : ∀ x ∈ ns, x.1.size ≤ 140737488351232 ∧ x.2.size ≤ 140737488351232) (hl : l.length ≤ 140737488351232) (hls : okSs l) (h : EH) :
    Tri Tryz.prog gs 25 [.agg [.isl fs.length none (cellsFs fs), .isl ns.length none (cellsNts ns)], .isl l.length none (cellsSs l)] h fun v h' => IsN .i64 (fun n => n = fitE fs ns l) v ∧ h' = h := by
  refine Tri.intC rfl (Tri_of F25_ok fun I0 ρ0 w0 Q hρ hQ => ?_) h
  obtain ⟨A, hA⟩ : ∃ A, A = stdA := ⟨_, rfl⟩
  have hsg := st_get l
  have hfg := fs_get fs
  have hck := check_ok fs ns hfs hns hok hnt
  obtain ⟨E, hE⟩ : ∃ E, E = fitE fs ns l := ⟨_, rfl⟩
  obtain ⟨fn, hfn⟩ : ∃ n, n = fs.length := ⟨_, rfl⟩
  obtain ⟨fc, hfc⟩ : ∃ n, n = cellsFs fs := ⟨_, rfl⟩
  obtain ⟨nn, hnn⟩ : ∃ n, n = ns.length := ⟨_, rfl⟩
  obtain ⟨nc, hnc⟩ : ∃ n, n = cellsNts ns := ⟨_, rfl⟩
  obtain ⟨sn, hsn⟩ : ∃ n, n = l.length := ⟨_, rfl⟩
  obtain ⟨sc, hsc⟩ : ∃ n, n = cellsSs l := ⟨_, rfl⟩
  rw [← hE] at hQ
  have hE' := hE
  rw [← hfn, ← hfc, ← hnn, ← hnc] at hck
  rw [← hfn, ← hfc, ← hnn, ← hnc, ← hsn, ← hsc]
  with_reducible refine runS hA hd hQ 200 ?hk ?_
  case hk => exact trivial
  conv => arg 9; cbv
  try simp only [OK]
  repeat' first | (with_reducible refine OKK.loop ?_) | (with_reducible refine OKK.again ?_) | ((with_reducible refine ⟨fun hbr => ?_, fun hbr => ?_⟩) <;> (try simp (disch := omega) only [hA, OK, emaU, Int.reduceToNat, s_bat, reduceCtorEq] at hbr) <;> (try (with_reducible exfalso; omega))) | ((with_reducible refine runK hA hd hQ 200 ?hk ?_); (case hk => exact trivial); (conv => arg 9; cbv); (try simp only [OK])) | ((with_reducible refine need_of ?hn ?_); (case hn => ((simp (disch := omega) only [hA, OK, emaU, Int.reduceToNat, s_bat]) <;> omega))) | fail
  refine CallOK.of (goodF_of F31_ok) (Tri.mono (hck _) fun v hh hx => ?_)
  obtain ⟨⟨e, at', pn, pc, hv, he⟩, hh'⟩ := hx
  subst hv; subst hh'
  with_reducible refine runK hA hd hQ 1 ?hk ?_
  case hk => exact trivial
  conv => arg 9; cbv
  try simp only [OK]
  repeat' first | (with_reducible refine OKK.loop ?_) | (with_reducible refine OKK.again ?_) | ((with_reducible refine ⟨fun hbr => ?_, fun hbr => ?_⟩) <;> (try simp (disch := omega) only [hA, OK, emaU, Int.reduceToNat, s_bat, reduceCtorEq] at hbr) <;> (try (with_reducible exfalso; omega))) | ((with_reducible refine runK hA hd hQ 200 ?hk ?_); (case hk => exact trivial); (conv => arg 9; cbv); (try simp only [OK])) | ((with_reducible refine need_of ?hn ?_); (case hn => ((simp (disch := omega) only [hA, OK, emaU, Int.reduceToNat, s_bat]) <;> omega))) | fail
  rotate_left 2
  · have hms : mayS fs ns := he.1 (by omega)
    have hall := mayS_all hms
    have hlen : l.length = fs.length := by omega
    refine OKs.mask (msk 35 [2, 19, 20, 21]) ?_
    refine OKs.loopN (fun m st => ∃ i : Int, st = ⟨mkT 35 [(2, .ptr 0 0), (19, .isl sn none sc), (20, .lit (.int .i64 (A.ofn sn))), (21, .lit (.int .i64 i))], [.blk [.isl fn none fc, .isl nn none nc]]⟩ ∧ m = (sn - i).toNat ∧ 0 ≤ i ∧ i ≤ sn ∧ ∀ j, j < i.toNat → (l.getD j st0).may (ck (fs.getD j fld0)))
      (fun m st hs' ih => ?_) ⟨0, rfl, rfl, by omega, by omega, fun j hj => absurd hj (by simp)⟩
    obtain ⟨i, rfl, hm, hi1, hi2, hi3⟩ := hs'
    have hst := allP_step (p := fun j => (l.getD j st0).may (ck (fs.getD j fld0))) hi1 hi3
    have hno := fun h1 h2 => fitE_no3 (fs := fs) (ns := ns) (l := l) hms hlen (i := i.toNat) h1 h2
    obtain ⟨s, hs⟩ : ∃ s, s = l.getD i.toNat st0 := ⟨_, rfl⟩
    obtain ⟨f, hf⟩ : ∃ f, f = fs.getD i.toNat fld0 := ⟨_, rfl⟩
    have hfa : i < sn → allF f := fun h => by rw [hf]; exact allFs_get fs _ hall (by omega)
    have hso : i < sn → s.ok := fun h => by rw [hs]; exact okSs_get l _ hls (by omega)
    have hLs : i < sn → List.take 11 (List.drop (A.idx 0 i 11) sc) = s.cells := fun h => by rw [hA, s_idx, Nat.zero_add, hsc, hsg i.toNat (by omega), ← hs]
    have hLf : i < sn → List.take 7 (List.drop (A.idx 0 i 7) fc) = cellsF f := fun h => by rw [hA, s_idx, Nat.zero_add, hfc, hfg i.toNat (by omega), ← hf]
    have hisS := fun h : i < sn => isStat_ck f (hfa h) s (hso h)
    rw [← hs, ← hf] at hst hno
    rw [cellsF_eq] at hLf hisS
    generalize cellsFs f.kids = kc, f.kids.length = kn, f.nm = nm, f.nul = nul, f.kind = k, f.width = w, f.id = id, f.idx = x at hLf hisS
    generalize StP.may (ck f) s = mp at hst hno hisS
    obtain ⟨r, n, hs1, ⟨b1, n1, t1, l1, c1⟩, ⟨b2, n2, t2, l2, c2⟩⟩ := s
    simp only [StP.cells, VP.cells, List.cons_append, List.nil_append] at hLs hisS
    clear hs hso hf hfa
    with_reducible refine runS hA hd hQ 200 ?hk ?_
    case hk => exact trivial
    conv => arg 9; cbv
    try simp only [OK]
    repeat' first | (with_reducible refine OKK.loop ?_) | (with_reducible refine OKK.again ?_) | ((with_reducible refine ⟨fun hbr => ?_, fun hbr => ?_⟩) <;> (try simp (disch := omega) only [hA, OK, emaU, Int.reduceToNat, s_bat, reduceCtorEq] at hbr) <;> (try (with_reducible exfalso; omega))) | ((with_reducible refine runK hA hd hQ 200 ?hk ?_); (case hk => exact trivial); (conv => arg 9; cbv); (try simp only [OK])) | ((with_reducible refine need_of ?hn ?_); (case hn => ((simp (disch := omega) only [hA, OK, emaU, Int.reduceToNat, s_bat]) <;> omega))) | ((refine ⟨_, _, ?l1, (hLs (by omega)), rfl, ?_⟩); (case l1 => exact rfl)) | ((refine ⟨_, _, ?l1, (hLf (by omega)), rfl, ?_⟩); (case l1 => exact rfl)) | (refine CallOK.of (goodF_of F16_ok) (Tri.mono (hisS (by omega) _) fun v hh hx => ?_); (obtain ⟨⟨b, hv, hb⟩, he⟩ := hx; subst hv; subst he; cases b <;> simp (disch := omega) only [hA, OK, emaU, Int.reduceToNat, s_bat, Bool.false_eq_true, true_iff, false_iff, eq_self, reduceCtorEq] at hb) <;> (try (with_reducible exfalso; omega))) | fail
    all_goals try (refine OKs.mask (msk 35 [2, 19, 20, 21]) (OKs.mv [0] [] (by rw [hρ]; rfl) ⟨by simp, by simp [sizeH], by simp⟩ (ih _ _ ⟨_, rfl, rfl, ?_, ?_, ?_⟩ ?_)))
    all_goals (try (with_reducible refine FinR.self ?_; first | refine FinR.n rfl ?_ | refine FinR.nh rfl ?_ rfl))
    all_goals (try simp (disch := omega) only [hA, OK, emaU, Int.reduceToNat, s_bat, Bool.false_eq_true, true_iff, false_iff, eq_self, iff_true, iff_false])
    all_goals first
      | omega
      | exact hst (by assumption)
      | (rw [hE, hno (by omega) (by assumption)])
      | (rw [hE, fitE_ok hms hlen fun j hj => hi3 j (by omega)])
  all_goals (try (with_reducible refine FinR.self ?_; first | refine FinR.n rfl ?_ | refine FinR.nh rfl ?_ rfl))
  all_goals (try simp (disch := omega) only [hA, OK, emaU, Int.reduceToNat, s_bat, Bool.false_eq_true, true_iff, false_iff, eq_self, iff_true, iff_false])
  · rw [hE, fitE_no fun hm => hbr (he.2 hm)]
  · rw [hE, fitE_no2 (he.1 (Classical.byContradiction (by assumption))) (by omega)]
end Go.Proofs.YtecephhhjhpcjaaGreatDoor.Stats
end
section
set_option linter.unusedVariables false
set_option linter.unusedSimpArgs false
-- emaX: s_bat
namespace Go.Proofs.YtecephhhjhpcjaaGreatDoor.Stats
open Go Go.Proofs.YtecephhhjhpcjaaGreatDoor Go.Proofs.YtecephhhjhpcjaaGreatDoor.Em
set_option maxRecDepth 100000 in
set_option maxHeartbeats 8000000 in
theorem put_ok (fs : List Fld) (ns : List Nt) (l : List StP) (hfs : fs.length ≤ 140737488351232) (hns : ns.length ≤ 140737488351232) (hok : okFs fs) (hnt : ∀ x ∈ ns, x.1.size ≤ 140737488351232 ∧ x.2.size ≤ 140737488351232) (hl : l.length ≤ 140737488351232) (hls : okSs l) (h : EH) :
    Tri Tryz.prog gs 10 [.agg [.isl fs.length none (cellsFs fs), .isl ns.length none (cellsNts ns)], .isl l.length none (cellsSs l)] h fun v h' => v = .tup [isB (putB fs ns l), .lit (.int .i64 (fitE fs ns l))] ∧ h' = h := by
  refine Tri.outB rfl (Tri_of F10_ok fun I0 ρ0 w0 Q hρ hQ => ?_) h
  obtain ⟨A, hA⟩ : ∃ A, A = stdA := ⟨_, rfl⟩
  have hft := fit_ok fs ns l hfs hns hok hnt hl hls
  obtain ⟨E, hE⟩ : ∃ E, E = fitE fs ns l := ⟨_, rfl⟩
  obtain ⟨B, hB⟩ : ∃ B, B = putB fs ns l := ⟨_, rfl⟩
  have hsg := st_get l
  have hfg := fs_get fs
  obtain ⟨fn, hfn⟩ : ∃ n, n = fs.length := ⟨_, rfl⟩
  obtain ⟨fc, hfc⟩ : ∃ n, n = cellsFs fs := ⟨_, rfl⟩
  obtain ⟨nn, hnn⟩ : ∃ n, n = ns.length := ⟨_, rfl⟩
  obtain ⟨nc, hnc⟩ : ∃ n, n = cellsNts ns := ⟨_, rfl⟩
  obtain ⟨sn, hsn⟩ : ∃ n, n = l.length := ⟨_, rfl⟩
  obtain ⟨sc, hsc⟩ : ∃ n, n = cellsSs l := ⟨_, rfl⟩
  rw [← hE, ← hB] at hQ
  rw [← hE, ← hfn, ← hfc, ← hnn, ← hnc, ← hsn, ← hsc] at hft
  rw [← hfn, ← hfc, ← hnn, ← hnc, ← hsn, ← hsc]
  with_reducible refine runS hA hd hQ 200 ?hk ?_
  case hk => exact trivial
  conv => arg 9; cbv
  try simp only [OK]
  repeat' first | (with_reducible refine OKK.loop ?_) | (with_reducible refine OKK.again ?_) | ((with_reducible refine ⟨fun hbr => ?_, fun hbr => ?_⟩) <;> (try simp (disch := omega) only [hA, OK, emaU, Int.reduceToNat, s_bat, reduceCtorEq] at hbr) <;> (try (with_reducible exfalso; omega))) | ((with_reducible refine runK hA hd hQ 200 ?hk ?_); (case hk => exact trivial); (conv => arg 9; cbv); (try simp only [OK])) | ((with_reducible refine need_of ?hn ?_); (case hn => ((simp (disch := omega) only [hA, OK, emaU, Int.reduceToNat, s_bat]) <;> omega))) | (refine CallOK.of (goodF_of F25_ok) (Tri.mono (hft _) fun v hh hx => ?_); (obtain ⟨⟨z, hv, hz⟩, he⟩ := hx; subst hv; subst he)) | fail
  · refine ⟨_, rfl, .lit (.slice none 0 0), ?_, .inl ⟨rfl, ?_⟩⟩
    · show EV.tup [_, .lit (.int .i64 z)] = _
      rw [hz]; rfl
    · rw [hB, putB, if_neg (by rw [← hE, ← hz]; exact hbr)]
  have hE0 : fitE fs ns l = 0 := by rw [← hE, ← hz]; exact Classical.byContradiction hbr
  obtain ⟨hms, hlen, hmay⟩ := fitE_inv hE0
  have hall := mayS_all hms
  have hfl : fs.length ≤ 32 := hms.1
  refine OKs.mask (msk 59 [2, 7, 17, 18, 19]) ?_
  refine OKs.loopN (fun m st => ∃ (i : Int) (M : Nat) (e : List EV), ((i = 0 ∧ st = ⟨mkT 59 [(2, .ptr 0 0), (7, .lit (.slice none 0 0)), (17, .isl sn none sc), (18, .lit (.int .i64 (A.ofn sn))), (19, .lit (.int .i64 i))], [.blk [.isl fn none fc, .isl nn none nc]]⟩) ∨
      (1 ≤ i ∧ st = ⟨mkT 59 [(2, .ptr 0 0), (7, .sl 1 1 0 M none), (17, .isl sn none sc), (18, .lit (.int .i64 (A.ofn sn))), (19, .lit (.int .i64 i))], [.blk [.isl fn none fc, .isl nn none nc], .blk e]⟩)) ∧ m = (sn - i).toNat ∧ 0 ≤ i ∧ i ≤ sn ∧
      M = (putN fs l i.toNat).length ∧ e = bytesE (putN fs l i.toNat))
    (fun m st hs' ih => ?_) ⟨0, 0, [], .inl ⟨rfl, rfl⟩, rfl, by omega, by omega, rfl, rfl⟩
  obtain ⟨i, M, e, hst, hm, hi1, hi2, hM, he⟩ := hs'
  obtain ⟨s, hs⟩ : ∃ s, s = l.getD i.toNat st0 := ⟨_, rfl⟩
  obtain ⟨f, hf⟩ : ∃ f, f = fs.getD i.toNat fld0 := ⟨_, rfl⟩
  have hpl := fun h : i < sn => plain_ck f (by rw [hf]; exact allFs_get fs _ hall (by omega))
  have hso : i < sn → s.ok := fun h => by rw [hs]; exact okSs_get l _ hls (by omega)
  have hsm : i < sn → s.may (ck f) := fun h => by rw [hs, hf]; exact hmay _ (by omega)
  have hLs : i < sn → List.take 11 (List.drop (A.idx 0 i 11) sc) = s.cells := fun h => by rw [hA, s_idx, Nat.zero_add, hsc, hsg i.toNat (by omega), ← hs]
  have hLf : i < sn → List.take 7 (List.drop (A.idx 0 i 7) fc) = cellsF f := fun h => by rw [hA, s_idx, Nat.zero_add, hfc, hfg i.toNat (by omega), ← hf]
  have hput : putN fs l (i.toNat + 1) = putN fs l i.toNat ++ putS (ck f) s := by rw [putN, ← hs, ← hf]
  have hlenX : i < sn → (putN fs l i.toNat).length ≤ 43 * 32 := fun h => by
    have := putN_len fs l i.toNat fun j hj => hmay j (by omega)
    omega
  obtain ⟨X, hX⟩ : ∃ X, X = putN fs l i.toNat := ⟨_, rfl⟩
  rw [← hX] at hM he hput hlenX
  have hbl := fun (h : i < sn) (hh : s.has = true) => bnd_ts (k := ck f) (hsm h) hh
  rw [cellsF_eq] at hLf hpl
  generalize cellsFs f.kids = kc, f.kids.length = kn, f.nm = nm, f.nul = nul, f.kind = k, f.width = w, f.id = id, f.idx = x at hLf hpl
  generalize ck f = K at hpl hsm hput hbl
  obtain ⟨r, n, hs1, ⟨b1, n1, t1, l1, c1⟩, ⟨b2, n2, t2, l2, c2⟩⟩ := s
  simp only [StP.cells, VP.cells, List.cons_append, List.nil_append] at hLs
  simp only [putS] at hput
  clear hs hf
  have hend : ¬ i < sn → X = B := fun h => by rw [hX, hB, putB, if_pos hE0, show i.toNat = l.length by omega]
  have hE1 : E = 0 := by rw [hE, hE0]
  have hrng : i < sn → X.length ≤ 43 * 32 := hlenX
  have hX0 : i = 0 → X = [] := fun h => by rw [hX, h]; rfl
  clear hlenX hX hE hB hft hz
  cases hs1 <;> rcases hst with ⟨hi0, rfl⟩ | ⟨hi0, rfl⟩
  all_goals
    with_reducible refine runS hA hd hQ 200 ?hk ?_
    case hk => exact trivial
    conv => arg 9; cbv
    try simp only [OK]
    repeat' first | (with_reducible refine OKK.loop ?_) | (with_reducible refine OKK.again ?_) | ((with_reducible refine ⟨fun hbr => ?_, fun hbr => ?_⟩) <;> (try simp (disch := omega) only [hA, OK, emaU, Int.reduceToNat, s_bat, reduceCtorEq] at hbr) <;> (try (with_reducible exfalso; omega))) | ((with_reducible refine runK hA hd hQ 200 ?hk ?_); (case hk => exact trivial); (conv => arg 9; cbv); (try simp only [OK])) | ((with_reducible refine need_of ?hn ?_); (case hn => ((simp (disch := omega) only [hA, OK, emaU, Int.reduceToNat, s_bat]) <;> omega))) | ((refine ⟨_, _, ?l1, (hLs (by omega)), rfl, ?_⟩); (case l1 => exact rfl)) | fail
  all_goals try (refine ⟨_, rfl, .lit (.slice none 0 0), by rw [hE1]; rfl, .inl ⟨rfl, ?_⟩⟩; rw [← hend (by omega)]; exact hX0 hi0)
  all_goals try (refine ⟨_, rfl, .sl 1 1 0 M none, by rw [hE1]; rfl, .inr ⟨1, M, none, e, rfl, ?_, rfl, ?_⟩⟩ <;> rw [← hend (by omega)] <;> assumption)
  all_goals
    have hXl := hrng (by omega)
    first
      | refine CallOK.of (goodF_of F26_ok) (Tri.mono ((num_ok0 r 4 (by omega) (by omega)).callV rfl _) fun v hh hx => ?_)
      | refine CallOK.of (goodF_of F26_ok) (Tri.mono ((num_ok X r 4 (by omega) (by omega) (by omega)).callV rfl hM he rfl) fun v hh hx => ?_)
    obtain ⟨M1, e1, hv, hh', hM1, he1⟩ := hx
    subst hv; subst hh'
    have hM2 : M1 = (X ++ leB r 4).length := by first | exact hM1 | (rw [hM1, hX0 hi0]; rfl)
    have he2 : e1 = bytesE (X ++ leB r 4) := by first | exact he1 | (rw [he1, hX0 hi0]; rfl)
    clear hM1 he1 hM he
    have hl4 := leB_length 4 r
    have hl5 := leB_length 4 n
    with_reducible refine runK hA hd hQ 1 ?hk ?_
    case hk => exact trivial
    conv => arg 9; cbv
    try simp only [OK]
    repeat' first | (with_reducible refine OKK.loop ?_) | (with_reducible refine OKK.again ?_) | ((with_reducible refine ⟨fun hbr => ?_, fun hbr => ?_⟩) <;> (try simp (disch := omega) only [hA, OK, emaU, Int.reduceToNat, s_bat, reduceCtorEq] at hbr) <;> (try (with_reducible exfalso; omega))) | ((with_reducible refine runK hA hd hQ 200 ?hk ?_); (case hk => exact trivial); (conv => arg 9; cbv); (try simp only [OK])) | ((with_reducible refine need_of ?hn ?_); (case hn => ((simp (disch := omega) only [hA, OK, emaU, Int.reduceToNat, s_bat]) <;> omega))) | fail
    refine CallOK.of (goodF_of F26_ok) (Tri.mono ((num_ok (X ++ leB r 4) n 4 (by omega) (by omega) (by simp only [List.length_append]; omega)).callV rfl hM2 he2 rfl) fun v hh hx => ?_)
    obtain ⟨M2, e2, hv, hh', hM3, he3⟩ := hx
    subst hv; subst hh'
    have hel2 : e2.length = M2 := by rw [he3, bytesE_length, hM3]
    have hM3l : M2 = X.length + 8 := by rw [hM3]; simp only [List.length_append]; omega
    with_reducible refine runK hA hd hQ 1 ?hk ?_
    case hk => exact trivial
    conv => arg 9; cbv
    try simp only [OK]
    repeat' first | (with_reducible refine OKK.loop ?_) | (with_reducible refine OKK.again ?_) | ((with_reducible refine ⟨fun hbr => ?_, fun hbr => ?_⟩) <;> (try simp (disch := omega) only [hA, OK, emaU, Int.reduceToNat, s_bat, reduceCtorEq] at hbr) <;> (try (with_reducible exfalso; omega))) | ((with_reducible refine runK hA hd hQ 200 ?hk ?_); (case hk => exact trivial); (conv => arg 9; cbv); (try simp only [OK])) | ((with_reducible refine need_of ?hn ?_); (case hn => ((simp (disch := omega) only [hA, OK, emaU, Int.reduceToNat, s_bat]) <;> omega))) | ((refine ⟨_, _, ?l1, (hLf (by omega)), rfl, ?_⟩); (case l1 => exact rfl)) | fail
  all_goals try (
    refine CallOK.of (goodF_of F17_ok) (Tri.mono (hpl (by omega) _) fun v hh hx => ?_)
    obtain ⟨⟨_, _, k2, _, _, _, _, _, hv, hk2⟩, hh'⟩ := hx
    subst hv; subst hh'
    have hbl2 := hbl (by omega) rfl
    simp only at hbl2
    have hso2 := hso (by omega)
    with_reducible refine runK hA hd hQ 1 ?hk ?_
    case hk => exact trivial
    conv => arg 9; cbv
    try simp only [OK]
    repeat' first | (with_reducible refine OKK.loop ?_) | (with_reducible refine OKK.again ?_) | (with_reducible refine And.intro trivial ?_) | ((with_reducible refine ⟨fun hbr => ?_, fun hbr => ?_⟩) <;> (try simp (disch := omega) only [hA, OK, emaU, Int.reduceToNat, s_bat, reduceCtorEq] at hbr) <;> (try (with_reducible exfalso; omega))) | ((with_reducible refine runK hA hd hQ 200 ?hk ?_); (case hk => exact trivial); (conv => arg 9; cbv); (try simp only [OK])) | ((with_reducible refine need_of ?hn ?_); (case hn => ((simp (disch := omega) only [hA, OK, emaU, Int.reduceToNat, s_bat]) <;> omega))) | fail
    refine CallOK.of (goodF_of F27_ok) (Tri.mono ((bound_ok (X ++ leB r 4 ++ leB n 4 ++ [1]) k2 ⟨b1, n1, t1, l1, c1⟩ (by simp only [List.length_append, List.length_singleton]; omega) hso2.2.2.1 (by rw [hk2]; exact hbl2.1)).callV rfl (by rw [hA]; show M2 + 1 = _; rw [hM3]; simp only [List.length_append, List.length_singleton]) (by rw [hA]; exact one_blk hM3 he3 rfl) rfl) fun v hh hx => ?_)
    obtain ⟨M3, e3, hv, hh', hM4, he4⟩ := hx
    subst hv; subst hh'
    have hel3 : e3.length = M3 := by rw [he4, bytesE_length, hM4]
    have hM4l : M3 ≤ X.length + 26 := by rw [hM4]; have h17 := hbl2.2.2.1; rw [← hk2] at h17; simp only [List.length_append, List.length_singleton]; omega
    with_reducible refine runK hA hd hQ 1 ?hk ?_
    case hk => exact trivial
    conv => arg 9; cbv
    try simp only [OK]
    repeat' first | (with_reducible refine OKK.loop ?_) | (with_reducible refine OKK.again ?_) | (with_reducible refine And.intro trivial ?_) | ((with_reducible refine ⟨fun hbr => ?_, fun hbr => ?_⟩) <;> (try simp (disch := omega) only [hA, OK, emaU, Int.reduceToNat, s_bat, reduceCtorEq] at hbr) <;> (try (with_reducible exfalso; omega))) | ((with_reducible refine runK hA hd hQ 200 ?hk ?_); (case hk => exact trivial); (conv => arg 9; cbv); (try simp only [OK])) | ((with_reducible refine need_of ?hn ?_); (case hn => ((simp (disch := omega) only [hA, OK, emaU, Int.reduceToNat, s_bat]) <;> omega))) | fail
    refine CallOK.of (goodF_of F27_ok) (Tri.mono ((bound_ok (X ++ leB r 4 ++ leB n 4 ++ [1] ++ bndB k2 ⟨b1, n1, t1, l1, c1⟩) k2 ⟨b2, n2, t2, l2, c2⟩ (by rw [← hM4]; omega) hso2.2.2.2 (by rw [hk2]; exact hbl2.2.1)).callV rfl hM4 he4 rfl) fun v hh hx => ?_)
    obtain ⟨M4, e4, hv, hh', hM5, he5⟩ := hx
    subst hv; subst hh'
    with_reducible refine runK hA hd hQ 1 ?hk ?_
    case hk => exact trivial
    conv => arg 9; cbv
    try simp only [OK]
    repeat' first | (with_reducible refine OKK.loop ?_) | (with_reducible refine OKK.again ?_) | (with_reducible refine And.intro trivial ?_) | ((with_reducible refine ⟨fun hbr => ?_, fun hbr => ?_⟩) <;> (try simp (disch := omega) only [hA, OK, emaU, Int.reduceToNat, s_bat, reduceCtorEq] at hbr) <;> (try (with_reducible exfalso; omega))) | ((with_reducible refine runK hA hd hQ 200 ?hk ?_); (case hk => exact trivial); (conv => arg 9; cbv); (try simp only [OK])) | ((with_reducible refine need_of ?hn ?_); (case hn => ((simp (disch := omega) only [hA, OK, emaU, Int.reduceToNat, s_bat]) <;> omega))) | fail
    skip)
  all_goals
    have hi' : (A.ib .add .i64 i 1).toNat = i.toNat + 1 := by simp (disch := omega) only [hA, OK, emaU, Int.reduceToNat, s_bat] <;> omega
    first
      | refine OKs.mask (msk 59 [2, 7, 17, 18, 19]) (OKs.mv [0, 5] [] (by rw [hρ]; rfl) ⟨by simp, by simp [sizeH], by simp⟩ (ih _ _ ⟨_, _, _, .inr ⟨?_, rfl⟩, rfl, ?_, ?_, ?_, ?_⟩ ?_))
      | refine OKs.mask (msk 59 [2, 7, 17, 18, 19]) (OKs.mv [0, 6] [] (by rw [hρ]; rfl) ⟨by simp, by simp [sizeH], by simp⟩ (ih _ _ ⟨_, _, _, .inr ⟨?_, rfl⟩, rfl, ?_, ?_, ?_, ?_⟩ ?_))
      | refine OKs.mask (msk 59 [2, 7, 17, 18, 19]) (OKs.mv [0, 7] [] (by rw [hρ]; rfl) ⟨by simp, by simp [sizeH], by simp⟩ (ih _ _ ⟨_, _, _, .inr ⟨?_, rfl⟩, rfl, ?_, ?_, ?_, ?_⟩ ?_))
      | refine OKs.mask (msk 59 [2, 7, 17, 18, 19]) (OKs.mv [0, 8] [] (by rw [hρ]; rfl) ⟨by simp, by simp [sizeH], by simp⟩ (ih _ _ ⟨_, _, _, .inr ⟨?_, rfl⟩, rfl, ?_, ?_, ?_, ?_⟩ ?_))
    · simp (disch := omega) only [hA, OK, emaU, Int.reduceToNat, s_bat] <;> omega
    · simp (disch := omega) only [hA, OK, emaU, Int.reduceToNat, s_bat] <;> omega
    · simp (disch := omega) only [hA, OK, emaU, Int.reduceToNat, s_bat] <;> omega
    · show _ = (putN fs l (A.ib .add .i64 i 1).toNat).length
      rw [hi', hput]
      simp only [Bool.false_eq_true, ↓reduceIte]
      first
        | (rw [hM5, hk2]; simp only [List.length_append, List.length_cons, List.length_nil]; omega)
        | (rw [hA]; show M2 + 1 = _; rw [hM3]; simp only [List.length_append, List.length_singleton]; omega)
    · show _ = bytesE (putN fs l (A.ib .add .i64 i 1).toNat)
      rw [hi', hput]
      simp only [Bool.false_eq_true, ↓reduceIte, ← List.append_assoc]
      first
        | (rw [he5, hk2]; exact (mvL_bytes _ _ _).trans (by simp))
        | (rw [hA]; exact (congrArg (mvL _ _) (one_blk hM3 he3 rfl)).trans (mvL_bytes _ _ _))
    · simp (disch := omega) only [hA, OK, emaU, Int.reduceToNat, s_bat] <;> omega
end Go.Proofs.YtecephhhjhpcjaaGreatDoor.Stats
end
section
set_option linter.unusedVariables false
set_option linter.unusedSimpArgs false
-- emaX: s_bat
namespace Go.Proofs.YtecephhhjhpcjaaGreatDoor.Stats
open Go Go.Proofs.YtecephhhjhpcjaaGreatDoor Go.Proofs.YtecephhhjhpcjaaGreatDoor.Em
end Go.Proofs.YtecephhhjhpcjaaGreatDoor.Stats
end
section
set_option linter.unusedVariables false
set_option linter.unusedSimpArgs false
-- emaX: s_bat
namespace Go.Proofs.YtecephhhjhpcjaaGreatDoor.Stats
open Go Go.Proofs.YtecephhhjhpcjaaGreatDoor Go.Proofs.YtecephhhjhpcjaaGreatDoor.Em
theorem fixedP_ok (h : EH) : Tri Tryz.prog gs 9 [] h fun v h' => IsP True v ∧ h' = h := (fixed_ok h).mono fun v h' hx => ⟨⟨true, hx.1, by simp⟩, hx.2⟩
end Go.Proofs.YtecephhhjhpcjaaGreatDoor.Stats
end
section
set_option linter.unusedVariables false
set_option linter.unusedSimpArgs false
-- emaX: s_bat
namespace Go.Proofs.YtecephhhjhpcjaaGreatDoor.Stats
open Go Go.Proofs.YtecephhhjhpcjaaGreatDoor Go.Proofs.YtecephhhjhpcjaaGreatDoor.Em
theorem eq_of_get {l m : List Nat} (hl : l.length = m.length) (h : ∀ j, j < l.length → l.getD j 0 = m.getD j 0) : l = m := by
  apply List.ext_getElem hl
  intro j h1 h2
  have := h j h1
  rwa [List.getD_eq_getElem?_getD, List.getD_eq_getElem?_getD, List.getElem?_eq_getElem h1, List.getElem?_eq_getElem h2] at this
set_option maxHeartbeats 4000000 in
theorem equalB_ok (l m : List Nat) (hl : l.length ≤ 140737488351232) (h : EH) : Tri Tryz.prog gs 34 [isB l, isB m] h fun v h' => IsP (l = m) v ∧ h' = h := by
  refine Tri.boolC rfl (Tri_of F34_ok fun I0 ρ0 w0 Q hρ hQ => ?_) h
  obtain ⟨A, hA⟩ : ∃ A, A = stdA := ⟨_, rfl⟩
  obtain ⟨n1, c1, hi1, hn1, hc1⟩ := isB_open l
  obtain ⟨n2, c2, hi2, hn2, hc2⟩ := isB_open m
  rw [hi1, hi2]
  with_reducible refine runS hA hd hQ 200 ?hk ?_
  case hk => exact trivial
  conv => arg 9; cbv
  try simp only [OK]
  repeat' first | (with_reducible refine OKK.loop ?_) | (with_reducible refine OKK.again ?_) | ((with_reducible refine ⟨fun hbr => ?_, fun hbr => ?_⟩) <;> (try simp (disch := omega) only [hA, OK, emaU, Int.reduceToNat, s_bat, reduceCtorEq] at hbr) <;> (try (with_reducible exfalso; omega))) | ((with_reducible refine runK hA hd hQ 200 ?hk ?_); (case hk => exact trivial); (conv => arg 9; cbv); (try simp only [OK])) | ((with_reducible refine need_of ?hn ?_); (case hn => ((simp (disch := omega) only [hA, OK, emaU, Int.reduceToNat, s_bat]) <;> omega))) | fail
  all_goals (try (with_reducible refine FinR.self ?_; first | refine FinR.bl rfl ?_ | refine FinR.bs rfl ?_ | refine FinR.blh rfl ?_ rfl | refine FinR.bsh rfl ?_ rfl))
  all_goals (try simp (disch := omega) only [hA, OK, emaU, Int.reduceToNat, s_bat, Bool.false_eq_true, true_iff, false_iff, eq_self, iff_true, iff_false])
  · exact fun e => hbr (by rw [hn1, hn2, e])
  have hlen : l.length = m.length := by omega
  obtain ⟨n3, hn3⟩ : ∃ z : Int, z = n1 := ⟨_, rfl⟩
  refine OKs.mask (msk 26 [0, 1, 12, 13]) ?_
  rw [← hn3]
  refine OKs.loopN (fun k st => ∃ i : Int, st = ⟨mkT 26 [(0, .isl n1 none c1), (1, .isl n2 none c2), (12, .lit (.int .i64 n3)), (13, .lit (.int .i64 i))], []⟩ ∧ k = (n3 - i).toNat ∧ 0 ≤ i ∧ i ≤ n3 ∧ ∀ j, j < i.toNat → l.getD j 0 = m.getD j 0)
    (fun k st hs' ih => ?_) ⟨0, rfl, rfl, by omega, by omega, fun j hj => absurd hj (by simp)⟩
  obtain ⟨i, rfl, hk, hi1, hi2, hi3⟩ := hs'
  have hst := allP_step (p := fun j => l.getD j 0 = m.getD j 0) hi1 hi3
  obtain ⟨x, hx⟩ : ∃ x : Int, x = (l.getD i.toNat 0 : Nat) := ⟨_, rfl⟩
  obtain ⟨y, hy⟩ : ∃ y : Int, y = (m.getD i.toNat 0 : Nat) := ⟨_, rfl⟩
  have hL : i < n3 → List.take 1 (List.drop (A.idx 0 i 1) c1) = [.lit (.int .u8 x)] := fun h => by
    obtain ⟨y, y1, y2⟩ := look_at hc1 i.toNat (by omega)
    rw [hA, s_idx, Nat.zero_add, Nat.mul_one, y1, y2, hx]
  have hM : i < n3 → List.take 1 (List.drop (A.idx 0 i 1) c2) = [.lit (.int .u8 y)] := fun h => by
    obtain ⟨y, y1, y2⟩ := look_at hc2 i.toNat (by omega)
    rw [hA, s_idx, Nat.zero_add, Nat.mul_one, y1, y2, hy]
  with_reducible refine runS hA hd hQ 200 ?hk ?_
  case hk => exact trivial
  conv => arg 9; cbv
  try simp only [OK]
  repeat' first | (with_reducible refine OKK.loop ?_) | (with_reducible refine OKK.again ?_) | ((with_reducible refine ⟨fun hbr => ?_, fun hbr => ?_⟩) <;> (try simp (disch := omega) only [hA, OK, emaU, Int.reduceToNat, s_bat, reduceCtorEq] at hbr) <;> (try (with_reducible exfalso; omega))) | ((with_reducible refine runK hA hd hQ 200 ?hk ?_); (case hk => exact trivial); (conv => arg 9; cbv); (try simp only [OK])) | ((with_reducible refine need_of ?hn ?_); (case hn => ((simp (disch := omega) only [hA, OK, emaU, Int.reduceToNat, s_bat]) <;> omega))) | ((refine ⟨_, _, ?l1, (hL (by omega)), rfl, ?_⟩); (case l1 => exact rfl)) | ((refine ⟨_, _, ?l1, (hM (by omega)), rfl, ?_⟩); (case l1 => exact rfl)) | fail
  all_goals try (refine OKs.mask (msk 26 [0, 1, 12, 13]) (ih _ _ ⟨_, rfl, rfl, ?_, ?_, ?_⟩ ?_))
  all_goals (try (with_reducible refine FinR.self ?_; first | refine FinR.bl rfl ?_ | refine FinR.bs rfl ?_ | refine FinR.blh rfl ?_ rfl | refine FinR.bsh rfl ?_ rfl))
  all_goals (try simp (disch := omega) only [hA, OK, emaU, Int.reduceToNat, s_bat, Bool.false_eq_true, true_iff, false_iff, eq_self, iff_true, iff_false])
  all_goals first
    | omega
    | exact hst (by omega)
    | exact fun e => hbr (by rw [hx, hy, e])
    | exact eq_of_get hlen fun j hj => hi3 j (by omega)
def rvC (has : Bool) (v : VP) : List EV := [.lit (.bool v.b), .lit (.int .i64 v.n), .lit (.string v.t), if has then .isl v.ln none v.c else .lit (.slice none 0 0)]
def rsC (s : StP) : List EV := [.lit (.int .i64 s.rows), .lit (.int .i64 s.nulls), .sb s.has] ++ rvC s.has s.l ++ rvC s.has s.m
def rsCs : List StP → List EV
  | [] => []
  | s :: l => rsC s ++ rsCs l
theorem rsCs_app (l m : List StP) : rsCs (l ++ m) = rsCs l ++ rsCs m := by
  induction l with
  | nil => rfl
  | cons s l ih => simp [rsCs, ih]
theorem rsC_len (s : StP) : (rsC s).length = 11 := rfl
theorem rsCs_len : ∀ l : List StP, (rsCs l).length = 11 * l.length
  | [] => rfl
  | s :: l => by simp only [rsCs, List.length_append, rsC_len, rsCs_len l, List.length_cons]; omega
theorem clRs : ∀ l : List StP, clL (rsCs l) = true
  | [] => rfl
  | s :: l => clL_of fun x hx => by
    rw [rsCs] at hx
    rcases List.mem_append.1 hx with hx | hx
    · obtain ⟨j, hj⟩ := List.getElem?_of_mem hx
      refine clL_get (l := rsC s) ?_ j x hj
      obtain ⟨r, n, hs, l, m⟩ := s
      cases hs <;> rfl
    · obtain ⟨j, hj⟩ := List.getElem?_of_mem hx; exact clL_get (clRs l) j x hj
def UpLs : List EV → List EV → Prop
  | [], [] => True
  | x :: l, y :: m => Up x y ∧ UpLs l m
  | _, _ => False
theorem UpLs.app : ∀ {a b c d : List EV}, UpLs a b → UpLs c d → UpLs (a ++ c) (b ++ d)
  | [], [], _, _, _, h => h
  | x :: a, y :: b, _, _, ⟨h1, h2⟩, h => ⟨h1, UpLs.app h2 h⟩
theorem UpLs.get : ∀ {a b : List EV}, UpLs a b → ∀ (j : Nat) (y : EV), b[j]? = some y → ∃ x, a[j]? = some x ∧ Up x y
  | [], [], _, j, y, h => by simp at h
  | x :: a, z :: b, ⟨h1, h2⟩, 0, y, h => by simp at h; subst h; exact ⟨x, rfl, h1⟩
  | x :: a, z :: b, ⟨h1, h2⟩, j + 1, y, h => by
    obtain ⟨u, k1, k2⟩ := UpLs.get h2 j y (by simpa using h)
    exact ⟨u, by simpa using k1, k2⟩
theorem Up.isl {n : Nat} {cap : Option Nat} {c c' : List EV} (hu : UpLs c c') : Up (.isl n cap c) (.isl n cap c') := fun w I ρ cv h => by
  cases h with
  | isl _ _ _ _ a kk vs h1 h2 h3 h4 =>
    refine .isl _ _ _ _ a kk vs h1 h2 (fun hk => ⟨(h3 hk).1, fun j y hy => ?_⟩) (fun hk j y hy => ?_)
    · obtain ⟨x, k1, _⟩ := hu.get j y hy
      exact (h3 hk).2 j x k1
    · obtain ⟨x, k1, k2⟩ := hu.get j y hy
      exact k2 _ _ _ _ (h4 hk j x k1)
  | isln => exact .isln _ _
theorem Up.lb (b : Bool) : Up (.sb b) (.lit (.bool b)) := fun w I ρ cv h => by cases h; exact .lit _ _
def noL (s : StP) : Prop := s.has = false → s.l.ln = 0 ∧ s.m.ln = 0
theorem rsC_up {s : StP} (h : noL s) : UpLs (rsC s) s.cells := by
  obtain ⟨r, n, hs, ⟨b1, n1, t1, l1, c1⟩, ⟨b2, n2, t2, l2, c2⟩⟩ := s
  cases hs with
  | true => exact ⟨Up.refl _, Up.refl _, Up.lb _, Up.refl _, Up.refl _, Up.refl _, Up.refl _, Up.refl _, Up.refl _, Up.refl _, Up.refl _, trivial⟩
  | false =>
    obtain ⟨e1, e2⟩ := h rfl
    simp only at e1 e2
    subst e1; subst e2
    exact ⟨Up.refl _, Up.refl _, Up.lb _, Up.refl _, Up.refl _, Up.refl _, Up.nil _, Up.refl _, Up.refl _, Up.refl _, Up.nil _, trivial⟩
theorem rsCs_up : ∀ {l : List StP}, (∀ s ∈ l, noL s) → UpLs (rsCs l) (cellsSs l)
  | [], _ => trivial
  | s :: l, h => (rsC_up (h s (by simp))).app (rsCs_up fun x hx => h x (by simp [hx]))
end Go.Proofs.YtecephhhjhpcjaaGreatDoor.Stats
end
