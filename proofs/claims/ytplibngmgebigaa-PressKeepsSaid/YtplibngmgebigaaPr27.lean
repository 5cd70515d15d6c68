/- Pr27: turns, its loops over ten lists of bytes: each keeps its mark. No conditions beyond those written. -/
import Derived.Test.YtplibngmgebigaaPr26
-- emaT
set_option linter.unusedVariables false
set_option linter.unusedSimpArgs false
namespace Go.Proofs.Ytplibngmgebigaa.Press
open Go Go.Proofs.Ytplibngmgebigaa Go.Proofs.Ytplibngmgebigaa.Em

/-- the code behind so many pieces -/
def seqT : Nat → EC → EC
  | n + 1, .seq _ b => seqT n b
  | _, c => c

/-- the mark of the list x -/
def mkA (A : Ar) (x : Int) : EV := .lit (.int .u8 (A.wr .u8 (A.ib .add .i64 x 1)))

theorem clL_mark (A : Ar) (x : Int) (n : Nat) : clL (List.replicate n (mkA A x)) = true := clL_of fun y hy => by
  rw [List.eq_of_mem_replicate hy]; rfl

theorem look_rep (v : EV) (n i : Nat) (h : i < n) : ((List.replicate n v).drop i).take 1 = [v] := by
  rw [List.drop_replicate, List.take_replicate, show min 1 (n - i) = 1 by omega]; rfl

theorem set_mark (v : EV) (k : Nat) (rest : List EV) (h : 0 < rest.length) : stdA.setl (List.replicate k v ++ rest) k [v] = List.replicate (k + 1) v ++ rest.tail := by
  obtain ⟨x, r, rfl⟩ : ∃ x r, rest = x :: r := by
    cases rest with
    | nil => simp at h
    | cons x r => exact ⟨x, r, rfl⟩
  rw [s_setl, List.take_left' (by simp), List.replicate_succ', List.drop_append]
  simp

set_option maxHeartbeats 8000000 in
theorem turns3 {I0 : Imm} {ρ0 : Ren} {w0 : World} {Q : Exit → Act → World → Prop} (hρ : ρ0.length = 0) (hQ : EndsQ [] I0 ρ0 w0 Q (FinR F19.rs fun v h => v = .lit (.bool true)))
    (N rn : Nat) (hN : N ≤ 1000000) (hrn : rn ≤ 1000000) (L : List EV) (hL : L = [.sl 1 1 0 rn none, .sl 1 2 0 N none, .sl 1 3 0 rn none, .sl 1 4 0 N none, .sl 1 5 0 rn none, .sl 1 6 0 N none, .sl 1 7 0 rn none, .sl 1 8 0 N none, .sl 1 9 0 rn none, .sl 1 10 0 N none]) (o0 o1 o2 o3 o4 o5 o6 o7 o8 o9 : List EV)
    (k0 : o0 = List.replicate rn (mkA stdA 0)) (k1 : o1 = List.replicate N (mkA stdA 1)) (k2 : o2 = List.replicate rn (mkA stdA 2)) (k3 : o3 = List.replicate N (mkA stdA 3)) (k4 : o4 = List.replicate rn (mkA stdA 4)) (k5 : o5 = List.replicate N (mkA stdA 5)) (k6 : o6 = List.replicate rn (mkA stdA 6)) (k7 : o7 = List.replicate N (mkA stdA 7)) (k8 : o8 = List.replicate rn (mkA stdA 8)) (k9 : o9 = List.replicate N (mkA stdA 9)) :
    OKs Try.prog [] I0 ρ0 w0 Q [.c (seqT 4 F19.body)] ⟨mkT 111 [(7, .sl 1 0 0 10 none)], [.blk L, .blk o0, .blk o1, .blk o2, .blk o3, .blk o4, .blk o5, .blk o6, .blk o7, .blk o8, .blk o9]⟩ := by
  obtain ⟨A, hA⟩ : ∃ A, A = stdA := ⟨_, rfl⟩
  rw [← hA] at k0 k1 k2 k3 k4 k5 k6 k7 k8 k9
  with_reducible refine runS hA hd hQ 60 ?hk ?_
  case hk => exact trivial
  conv => arg 8; cbv
  try simp only [OK]
  refine OKs.mask (msk 111 [7, 85, 86, 87]) ?_
  refine OKs.loop (fun s => ∃ x : Int, s = ⟨mkT 111 [(7, .sl 1 0 0 10 none), (85, .sl 1 0 0 10 none), (86, .lit (.int .i64 (A.ofn 10))), (87, .lit (.int .i64 x))], [.blk L, .blk o0, .blk o1, .blk o2, .blk o3, .blk o4, .blk o5, .blk o6, .blk o7, .blk o8, .blk o9]⟩ ∧ 0 ≤ x ∧ x ≤ 10) (fun s => (10 - intN (getT s.t 87)).toNat) (fun s hs ih => ?_)
    ⟨0, rfl, by omega, by omega⟩
  obtain ⟨x, rfl, hx0, hx1⟩ := hs
  with_reducible refine runS hA hd hQ 60 ?hk ?_
  case hk => exact trivial
  conv => arg 8; cbv
  try simp only [OK]
  refine ⟨fun h1 => ?_, fun h1 => ?_⟩ <;> simp (disch := omega) only [hA, OK, emaT] at h1
  · with_reducible refine runK hA hd hQ 60 ?hk ?_
    case hk => exact trivial
    conv => arg 8; cbv
    try simp only [OK]
    have hx : x = 0 ∨ x = 1 ∨ x = 2 ∨ x = 3 ∨ x = 4 ∨ x = 5 ∨ x = 6 ∨ x = 7 ∨ x = 8 ∨ x = 9 := by omega
    rcases hx with hx | hx | hx | hx | hx | hx | hx | hx | hx | hx
    · refine ⟨by simp (disch := omega) only [hA, OK, emaT] <;> omega, [.sl 1 1 0 rn none], _, rfl, by simp (disch := omega) only [hA, OK, emaT] <;> (rw [hx, hL]; rfl), rfl, ?_⟩
      with_reducible refine runK hA hd hQ 60 ?hk ?_
      case hk => exact trivial
      conv => arg 8; cbv
      try simp only [OK]
      refine OKs.mask (msk 111 [7, 15, 85, 86, 87, 94, 95]) ?_
      refine OKs.loop (fun s => ∃ k : Int, s = ⟨mkT 111 [(7, .sl 1 0 0 10 none), (15, .lit (.int .i64 x)), (85, .sl 1 0 0 10 none), (86, .lit (.int .i64 (A.ofn 10))), (87, .lit (.int .i64 x)), (94, .lit (.int .i64 (A.ofn rn))), (95, .lit (.int .i64 k))], [.blk L, .blk o0, .blk o1, .blk o2, .blk o3, .blk o4, .blk o5, .blk o6, .blk o7, .blk o8, .blk o9]⟩ ∧ 0 ≤ k ∧ k ≤ rn) (fun s => (rn - intN (getT s.t 95)).toNat) (fun s hs ih2 => ?_)
        ⟨0, rfl, by omega, by omega⟩
      obtain ⟨k, rfl, hk0, hk1⟩ := hs
      with_reducible refine runS hA hd hQ 60 ?hk ?_
      case hk => exact trivial
      conv => arg 8; cbv
      try simp only [OK]
      refine ⟨fun h2 => ?_, fun h2 => ?_⟩ <;> simp (disch := omega) only [hA, OK, emaT] at h2
      · with_reducible refine runK hA hd hQ 60 ?hk ?_
        case hk => exact trivial
        conv => arg 8; cbv
        try simp only [OK]
        refine ⟨by simp (disch := omega) only [hA, OK, emaT] <;> omega, [.sl 1 1 0 rn none], _, rfl, by simp (disch := omega) only [hA, OK, emaT] <;> (rw [hx, hL]; rfl), rfl, ?_⟩
        with_reducible refine runK hA hd hQ 60 ?hk ?_
        case hk => exact trivial
        conv => arg 8; cbv
        try simp only [OK]
        refine ⟨by simp (disch := omega) only [hA, OK, emaT] <;> omega, [mkA A x], _, rfl, by (simp (disch := omega) only [hA, OK, emaT] <;> (rw [k0, hx, hA]; exact look_rep _ _ _ (by omega))), rfl, ?_⟩
        with_reducible refine runK hA hd hQ 60 ?hk ?_
        case hk => exact trivial
        conv => arg 8; cbv
        try simp only [OK]
        refine ⟨fun h3 => ?_, fun h3 => ?_⟩
        · with_reducible exfalso; (simp (disch := omega) only [hA, OK, emaT, reduceCtorEq, not_true_eq_false, not_false_eq_true] at h3 <;> omega)
        with_reducible refine runK hA hd hQ 60 ?hk ?_
        case hk => exact trivial
        conv => arg 8; cbv
        try simp only [OK]
        refine OKs.mask (msk 111 [7, 15, 85, 86, 87, 94, 95]) ?_
        refine ih2 _ ⟨_, rfl, ?_, ?_⟩ (show (rn - A.ib .add .i64 k 1).toNat < (rn - k).toNat from ?_)
        all_goals (try simp (disch := omega) only [hA, OK, emaT])
        all_goals omega
      · with_reducible refine runK hA hd hQ 60 ?hk ?_
        case hk => exact trivial
        conv => arg 8; cbv
        try simp only [OK]
        refine OKs.mask (msk 111 [7, 85, 86, 87]) ?_
        refine ih _ ⟨_, rfl, ?_, ?_⟩ (show (10 - A.ib .add .i64 x 1).toNat < (10 - x).toNat from ?_)
        all_goals (try simp (disch := omega) only [hA, OK, emaT])
        all_goals omega
    · refine ⟨by simp (disch := omega) only [hA, OK, emaT] <;> omega, [.sl 1 2 0 N none], _, rfl, by simp (disch := omega) only [hA, OK, emaT] <;> (rw [hx, hL]; rfl), rfl, ?_⟩
      with_reducible refine runK hA hd hQ 60 ?hk ?_
      case hk => exact trivial
      conv => arg 8; cbv
      try simp only [OK]
      refine OKs.mask (msk 111 [7, 15, 85, 86, 87, 94, 95]) ?_
      refine OKs.loop (fun s => ∃ k : Int, s = ⟨mkT 111 [(7, .sl 1 0 0 10 none), (15, .lit (.int .i64 x)), (85, .sl 1 0 0 10 none), (86, .lit (.int .i64 (A.ofn 10))), (87, .lit (.int .i64 x)), (94, .lit (.int .i64 (A.ofn N))), (95, .lit (.int .i64 k))], [.blk L, .blk o0, .blk o1, .blk o2, .blk o3, .blk o4, .blk o5, .blk o6, .blk o7, .blk o8, .blk o9]⟩ ∧ 0 ≤ k ∧ k ≤ N) (fun s => (N - intN (getT s.t 95)).toNat) (fun s hs ih2 => ?_)
        ⟨0, rfl, by omega, by omega⟩
      obtain ⟨k, rfl, hk0, hk1⟩ := hs
      with_reducible refine runS hA hd hQ 60 ?hk ?_
      case hk => exact trivial
      conv => arg 8; cbv
      try simp only [OK]
      refine ⟨fun h2 => ?_, fun h2 => ?_⟩ <;> simp (disch := omega) only [hA, OK, emaT] at h2
      · with_reducible refine runK hA hd hQ 60 ?hk ?_
        case hk => exact trivial
        conv => arg 8; cbv
        try simp only [OK]
        refine ⟨by simp (disch := omega) only [hA, OK, emaT] <;> omega, [.sl 1 2 0 N none], _, rfl, by simp (disch := omega) only [hA, OK, emaT] <;> (rw [hx, hL]; rfl), rfl, ?_⟩
        with_reducible refine runK hA hd hQ 60 ?hk ?_
        case hk => exact trivial
        conv => arg 8; cbv
        try simp only [OK]
        refine ⟨by simp (disch := omega) only [hA, OK, emaT] <;> omega, [mkA A x], _, rfl, by (simp (disch := omega) only [hA, OK, emaT] <;> (rw [k1, hx, hA]; exact look_rep _ _ _ (by omega))), rfl, ?_⟩
        with_reducible refine runK hA hd hQ 60 ?hk ?_
        case hk => exact trivial
        conv => arg 8; cbv
        try simp only [OK]
        refine ⟨fun h3 => ?_, fun h3 => ?_⟩
        · with_reducible exfalso; (simp (disch := omega) only [hA, OK, emaT, reduceCtorEq, not_true_eq_false, not_false_eq_true] at h3 <;> omega)
        with_reducible refine runK hA hd hQ 60 ?hk ?_
        case hk => exact trivial
        conv => arg 8; cbv
        try simp only [OK]
        refine OKs.mask (msk 111 [7, 15, 85, 86, 87, 94, 95]) ?_
        refine ih2 _ ⟨_, rfl, ?_, ?_⟩ (show (N - A.ib .add .i64 k 1).toNat < (N - k).toNat from ?_)
        all_goals (try simp (disch := omega) only [hA, OK, emaT])
        all_goals omega
      · with_reducible refine runK hA hd hQ 60 ?hk ?_
        case hk => exact trivial
        conv => arg 8; cbv
        try simp only [OK]
        refine OKs.mask (msk 111 [7, 85, 86, 87]) ?_
        refine ih _ ⟨_, rfl, ?_, ?_⟩ (show (10 - A.ib .add .i64 x 1).toNat < (10 - x).toNat from ?_)
        all_goals (try simp (disch := omega) only [hA, OK, emaT])
        all_goals omega
    · refine ⟨by simp (disch := omega) only [hA, OK, emaT] <;> omega, [.sl 1 3 0 rn none], _, rfl, by simp (disch := omega) only [hA, OK, emaT] <;> (rw [hx, hL]; rfl), rfl, ?_⟩
      with_reducible refine runK hA hd hQ 60 ?hk ?_
      case hk => exact trivial
      conv => arg 8; cbv
      try simp only [OK]
      refine OKs.mask (msk 111 [7, 15, 85, 86, 87, 94, 95]) ?_
      refine OKs.loop (fun s => ∃ k : Int, s = ⟨mkT 111 [(7, .sl 1 0 0 10 none), (15, .lit (.int .i64 x)), (85, .sl 1 0 0 10 none), (86, .lit (.int .i64 (A.ofn 10))), (87, .lit (.int .i64 x)), (94, .lit (.int .i64 (A.ofn rn))), (95, .lit (.int .i64 k))], [.blk L, .blk o0, .blk o1, .blk o2, .blk o3, .blk o4, .blk o5, .blk o6, .blk o7, .blk o8, .blk o9]⟩ ∧ 0 ≤ k ∧ k ≤ rn) (fun s => (rn - intN (getT s.t 95)).toNat) (fun s hs ih2 => ?_)
        ⟨0, rfl, by omega, by omega⟩
      obtain ⟨k, rfl, hk0, hk1⟩ := hs
      with_reducible refine runS hA hd hQ 60 ?hk ?_
      case hk => exact trivial
      conv => arg 8; cbv
      try simp only [OK]
      refine ⟨fun h2 => ?_, fun h2 => ?_⟩ <;> simp (disch := omega) only [hA, OK, emaT] at h2
      · with_reducible refine runK hA hd hQ 60 ?hk ?_
        case hk => exact trivial
        conv => arg 8; cbv
        try simp only [OK]
        refine ⟨by simp (disch := omega) only [hA, OK, emaT] <;> omega, [.sl 1 3 0 rn none], _, rfl, by simp (disch := omega) only [hA, OK, emaT] <;> (rw [hx, hL]; rfl), rfl, ?_⟩
        with_reducible refine runK hA hd hQ 60 ?hk ?_
        case hk => exact trivial
        conv => arg 8; cbv
        try simp only [OK]
        refine ⟨by simp (disch := omega) only [hA, OK, emaT] <;> omega, [mkA A x], _, rfl, by (simp (disch := omega) only [hA, OK, emaT] <;> (rw [k2, hx, hA]; exact look_rep _ _ _ (by omega))), rfl, ?_⟩
        with_reducible refine runK hA hd hQ 60 ?hk ?_
        case hk => exact trivial
        conv => arg 8; cbv
        try simp only [OK]
        refine ⟨fun h3 => ?_, fun h3 => ?_⟩
        · with_reducible exfalso; (simp (disch := omega) only [hA, OK, emaT, reduceCtorEq, not_true_eq_false, not_false_eq_true] at h3 <;> omega)
        with_reducible refine runK hA hd hQ 60 ?hk ?_
        case hk => exact trivial
        conv => arg 8; cbv
        try simp only [OK]
        refine OKs.mask (msk 111 [7, 15, 85, 86, 87, 94, 95]) ?_
        refine ih2 _ ⟨_, rfl, ?_, ?_⟩ (show (rn - A.ib .add .i64 k 1).toNat < (rn - k).toNat from ?_)
        all_goals (try simp (disch := omega) only [hA, OK, emaT])
        all_goals omega
      · with_reducible refine runK hA hd hQ 60 ?hk ?_
        case hk => exact trivial
        conv => arg 8; cbv
        try simp only [OK]
        refine OKs.mask (msk 111 [7, 85, 86, 87]) ?_
        refine ih _ ⟨_, rfl, ?_, ?_⟩ (show (10 - A.ib .add .i64 x 1).toNat < (10 - x).toNat from ?_)
        all_goals (try simp (disch := omega) only [hA, OK, emaT])
        all_goals omega
    · refine ⟨by simp (disch := omega) only [hA, OK, emaT] <;> omega, [.sl 1 4 0 N none], _, rfl, by simp (disch := omega) only [hA, OK, emaT] <;> (rw [hx, hL]; rfl), rfl, ?_⟩
      with_reducible refine runK hA hd hQ 60 ?hk ?_
      case hk => exact trivial
      conv => arg 8; cbv
      try simp only [OK]
      refine OKs.mask (msk 111 [7, 15, 85, 86, 87, 94, 95]) ?_
      refine OKs.loop (fun s => ∃ k : Int, s = ⟨mkT 111 [(7, .sl 1 0 0 10 none), (15, .lit (.int .i64 x)), (85, .sl 1 0 0 10 none), (86, .lit (.int .i64 (A.ofn 10))), (87, .lit (.int .i64 x)), (94, .lit (.int .i64 (A.ofn N))), (95, .lit (.int .i64 k))], [.blk L, .blk o0, .blk o1, .blk o2, .blk o3, .blk o4, .blk o5, .blk o6, .blk o7, .blk o8, .blk o9]⟩ ∧ 0 ≤ k ∧ k ≤ N) (fun s => (N - intN (getT s.t 95)).toNat) (fun s hs ih2 => ?_)
        ⟨0, rfl, by omega, by omega⟩
      obtain ⟨k, rfl, hk0, hk1⟩ := hs
      with_reducible refine runS hA hd hQ 60 ?hk ?_
      case hk => exact trivial
      conv => arg 8; cbv
      try simp only [OK]
      refine ⟨fun h2 => ?_, fun h2 => ?_⟩ <;> simp (disch := omega) only [hA, OK, emaT] at h2
      · with_reducible refine runK hA hd hQ 60 ?hk ?_
        case hk => exact trivial
        conv => arg 8; cbv
        try simp only [OK]
        refine ⟨by simp (disch := omega) only [hA, OK, emaT] <;> omega, [.sl 1 4 0 N none], _, rfl, by simp (disch := omega) only [hA, OK, emaT] <;> (rw [hx, hL]; rfl), rfl, ?_⟩
        with_reducible refine runK hA hd hQ 60 ?hk ?_
        case hk => exact trivial
        conv => arg 8; cbv
        try simp only [OK]
        refine ⟨by simp (disch := omega) only [hA, OK, emaT] <;> omega, [mkA A x], _, rfl, by (simp (disch := omega) only [hA, OK, emaT] <;> (rw [k3, hx, hA]; exact look_rep _ _ _ (by omega))), rfl, ?_⟩
        with_reducible refine runK hA hd hQ 60 ?hk ?_
        case hk => exact trivial
        conv => arg 8; cbv
        try simp only [OK]
        refine ⟨fun h3 => ?_, fun h3 => ?_⟩
        · with_reducible exfalso; (simp (disch := omega) only [hA, OK, emaT, reduceCtorEq, not_true_eq_false, not_false_eq_true] at h3 <;> omega)
        with_reducible refine runK hA hd hQ 60 ?hk ?_
        case hk => exact trivial
        conv => arg 8; cbv
        try simp only [OK]
        refine OKs.mask (msk 111 [7, 15, 85, 86, 87, 94, 95]) ?_
        refine ih2 _ ⟨_, rfl, ?_, ?_⟩ (show (N - A.ib .add .i64 k 1).toNat < (N - k).toNat from ?_)
        all_goals (try simp (disch := omega) only [hA, OK, emaT])
        all_goals omega
      · with_reducible refine runK hA hd hQ 60 ?hk ?_
        case hk => exact trivial
        conv => arg 8; cbv
        try simp only [OK]
        refine OKs.mask (msk 111 [7, 85, 86, 87]) ?_
        refine ih _ ⟨_, rfl, ?_, ?_⟩ (show (10 - A.ib .add .i64 x 1).toNat < (10 - x).toNat from ?_)
        all_goals (try simp (disch := omega) only [hA, OK, emaT])
        all_goals omega
    · refine ⟨by simp (disch := omega) only [hA, OK, emaT] <;> omega, [.sl 1 5 0 rn none], _, rfl, by simp (disch := omega) only [hA, OK, emaT] <;> (rw [hx, hL]; rfl), rfl, ?_⟩
      with_reducible refine runK hA hd hQ 60 ?hk ?_
      case hk => exact trivial
      conv => arg 8; cbv
      try simp only [OK]
      refine OKs.mask (msk 111 [7, 15, 85, 86, 87, 94, 95]) ?_
      refine OKs.loop (fun s => ∃ k : Int, s = ⟨mkT 111 [(7, .sl 1 0 0 10 none), (15, .lit (.int .i64 x)), (85, .sl 1 0 0 10 none), (86, .lit (.int .i64 (A.ofn 10))), (87, .lit (.int .i64 x)), (94, .lit (.int .i64 (A.ofn rn))), (95, .lit (.int .i64 k))], [.blk L, .blk o0, .blk o1, .blk o2, .blk o3, .blk o4, .blk o5, .blk o6, .blk o7, .blk o8, .blk o9]⟩ ∧ 0 ≤ k ∧ k ≤ rn) (fun s => (rn - intN (getT s.t 95)).toNat) (fun s hs ih2 => ?_)
        ⟨0, rfl, by omega, by omega⟩
      obtain ⟨k, rfl, hk0, hk1⟩ := hs
      with_reducible refine runS hA hd hQ 60 ?hk ?_
      case hk => exact trivial
      conv => arg 8; cbv
      try simp only [OK]
      refine ⟨fun h2 => ?_, fun h2 => ?_⟩ <;> simp (disch := omega) only [hA, OK, emaT] at h2
      · with_reducible refine runK hA hd hQ 60 ?hk ?_
        case hk => exact trivial
        conv => arg 8; cbv
        try simp only [OK]
        refine ⟨by simp (disch := omega) only [hA, OK, emaT] <;> omega, [.sl 1 5 0 rn none], _, rfl, by simp (disch := omega) only [hA, OK, emaT] <;> (rw [hx, hL]; rfl), rfl, ?_⟩
        with_reducible refine runK hA hd hQ 60 ?hk ?_
        case hk => exact trivial
        conv => arg 8; cbv
        try simp only [OK]
        refine ⟨by simp (disch := omega) only [hA, OK, emaT] <;> omega, [mkA A x], _, rfl, by (simp (disch := omega) only [hA, OK, emaT] <;> (rw [k4, hx, hA]; exact look_rep _ _ _ (by omega))), rfl, ?_⟩
        with_reducible refine runK hA hd hQ 60 ?hk ?_
        case hk => exact trivial
        conv => arg 8; cbv
        try simp only [OK]
        refine ⟨fun h3 => ?_, fun h3 => ?_⟩
        · with_reducible exfalso; (simp (disch := omega) only [hA, OK, emaT, reduceCtorEq, not_true_eq_false, not_false_eq_true] at h3 <;> omega)
        with_reducible refine runK hA hd hQ 60 ?hk ?_
        case hk => exact trivial
        conv => arg 8; cbv
        try simp only [OK]
        refine OKs.mask (msk 111 [7, 15, 85, 86, 87, 94, 95]) ?_
        refine ih2 _ ⟨_, rfl, ?_, ?_⟩ (show (rn - A.ib .add .i64 k 1).toNat < (rn - k).toNat from ?_)
        all_goals (try simp (disch := omega) only [hA, OK, emaT])
        all_goals omega
      · with_reducible refine runK hA hd hQ 60 ?hk ?_
        case hk => exact trivial
        conv => arg 8; cbv
        try simp only [OK]
        refine OKs.mask (msk 111 [7, 85, 86, 87]) ?_
        refine ih _ ⟨_, rfl, ?_, ?_⟩ (show (10 - A.ib .add .i64 x 1).toNat < (10 - x).toNat from ?_)
        all_goals (try simp (disch := omega) only [hA, OK, emaT])
        all_goals omega
    · refine ⟨by simp (disch := omega) only [hA, OK, emaT] <;> omega, [.sl 1 6 0 N none], _, rfl, by simp (disch := omega) only [hA, OK, emaT] <;> (rw [hx, hL]; rfl), rfl, ?_⟩
      with_reducible refine runK hA hd hQ 60 ?hk ?_
      case hk => exact trivial
      conv => arg 8; cbv
      try simp only [OK]
      refine OKs.mask (msk 111 [7, 15, 85, 86, 87, 94, 95]) ?_
      refine OKs.loop (fun s => ∃ k : Int, s = ⟨mkT 111 [(7, .sl 1 0 0 10 none), (15, .lit (.int .i64 x)), (85, .sl 1 0 0 10 none), (86, .lit (.int .i64 (A.ofn 10))), (87, .lit (.int .i64 x)), (94, .lit (.int .i64 (A.ofn N))), (95, .lit (.int .i64 k))], [.blk L, .blk o0, .blk o1, .blk o2, .blk o3, .blk o4, .blk o5, .blk o6, .blk o7, .blk o8, .blk o9]⟩ ∧ 0 ≤ k ∧ k ≤ N) (fun s => (N - intN (getT s.t 95)).toNat) (fun s hs ih2 => ?_)
        ⟨0, rfl, by omega, by omega⟩
      obtain ⟨k, rfl, hk0, hk1⟩ := hs
      with_reducible refine runS hA hd hQ 60 ?hk ?_
      case hk => exact trivial
      conv => arg 8; cbv
      try simp only [OK]
      refine ⟨fun h2 => ?_, fun h2 => ?_⟩ <;> simp (disch := omega) only [hA, OK, emaT] at h2
      · with_reducible refine runK hA hd hQ 60 ?hk ?_
        case hk => exact trivial
        conv => arg 8; cbv
        try simp only [OK]
        refine ⟨by simp (disch := omega) only [hA, OK, emaT] <;> omega, [.sl 1 6 0 N none], _, rfl, by simp (disch := omega) only [hA, OK, emaT] <;> (rw [hx, hL]; rfl), rfl, ?_⟩
        with_reducible refine runK hA hd hQ 60 ?hk ?_
        case hk => exact trivial
        conv => arg 8; cbv
        try simp only [OK]
        refine ⟨by simp (disch := omega) only [hA, OK, emaT] <;> omega, [mkA A x], _, rfl, by (simp (disch := omega) only [hA, OK, emaT] <;> (rw [k5, hx, hA]; exact look_rep _ _ _ (by omega))), rfl, ?_⟩
        with_reducible refine runK hA hd hQ 60 ?hk ?_
        case hk => exact trivial
        conv => arg 8; cbv
        try simp only [OK]
        refine ⟨fun h3 => ?_, fun h3 => ?_⟩
        · with_reducible exfalso; (simp (disch := omega) only [hA, OK, emaT, reduceCtorEq, not_true_eq_false, not_false_eq_true] at h3 <;> omega)
        with_reducible refine runK hA hd hQ 60 ?hk ?_
        case hk => exact trivial
        conv => arg 8; cbv
        try simp only [OK]
        refine OKs.mask (msk 111 [7, 15, 85, 86, 87, 94, 95]) ?_
        refine ih2 _ ⟨_, rfl, ?_, ?_⟩ (show (N - A.ib .add .i64 k 1).toNat < (N - k).toNat from ?_)
        all_goals (try simp (disch := omega) only [hA, OK, emaT])
        all_goals omega
      · with_reducible refine runK hA hd hQ 60 ?hk ?_
        case hk => exact trivial
        conv => arg 8; cbv
        try simp only [OK]
        refine OKs.mask (msk 111 [7, 85, 86, 87]) ?_
        refine ih _ ⟨_, rfl, ?_, ?_⟩ (show (10 - A.ib .add .i64 x 1).toNat < (10 - x).toNat from ?_)
        all_goals (try simp (disch := omega) only [hA, OK, emaT])
        all_goals omega
    · refine ⟨by simp (disch := omega) only [hA, OK, emaT] <;> omega, [.sl 1 7 0 rn none], _, rfl, by simp (disch := omega) only [hA, OK, emaT] <;> (rw [hx, hL]; rfl), rfl, ?_⟩
      with_reducible refine runK hA hd hQ 60 ?hk ?_
      case hk => exact trivial
      conv => arg 8; cbv
      try simp only [OK]
      refine OKs.mask (msk 111 [7, 15, 85, 86, 87, 94, 95]) ?_
      refine OKs.loop (fun s => ∃ k : Int, s = ⟨mkT 111 [(7, .sl 1 0 0 10 none), (15, .lit (.int .i64 x)), (85, .sl 1 0 0 10 none), (86, .lit (.int .i64 (A.ofn 10))), (87, .lit (.int .i64 x)), (94, .lit (.int .i64 (A.ofn rn))), (95, .lit (.int .i64 k))], [.blk L, .blk o0, .blk o1, .blk o2, .blk o3, .blk o4, .blk o5, .blk o6, .blk o7, .blk o8, .blk o9]⟩ ∧ 0 ≤ k ∧ k ≤ rn) (fun s => (rn - intN (getT s.t 95)).toNat) (fun s hs ih2 => ?_)
        ⟨0, rfl, by omega, by omega⟩
      obtain ⟨k, rfl, hk0, hk1⟩ := hs
      with_reducible refine runS hA hd hQ 60 ?hk ?_
      case hk => exact trivial
      conv => arg 8; cbv
      try simp only [OK]
      refine ⟨fun h2 => ?_, fun h2 => ?_⟩ <;> simp (disch := omega) only [hA, OK, emaT] at h2
      · with_reducible refine runK hA hd hQ 60 ?hk ?_
        case hk => exact trivial
        conv => arg 8; cbv
        try simp only [OK]
        refine ⟨by simp (disch := omega) only [hA, OK, emaT] <;> omega, [.sl 1 7 0 rn none], _, rfl, by simp (disch := omega) only [hA, OK, emaT] <;> (rw [hx, hL]; rfl), rfl, ?_⟩
        with_reducible refine runK hA hd hQ 60 ?hk ?_
        case hk => exact trivial
        conv => arg 8; cbv
        try simp only [OK]
        refine ⟨by simp (disch := omega) only [hA, OK, emaT] <;> omega, [mkA A x], _, rfl, by (simp (disch := omega) only [hA, OK, emaT] <;> (rw [k6, hx, hA]; exact look_rep _ _ _ (by omega))), rfl, ?_⟩
        with_reducible refine runK hA hd hQ 60 ?hk ?_
        case hk => exact trivial
        conv => arg 8; cbv
        try simp only [OK]
        refine ⟨fun h3 => ?_, fun h3 => ?_⟩
        · with_reducible exfalso; (simp (disch := omega) only [hA, OK, emaT, reduceCtorEq, not_true_eq_false, not_false_eq_true] at h3 <;> omega)
        with_reducible refine runK hA hd hQ 60 ?hk ?_
        case hk => exact trivial
        conv => arg 8; cbv
        try simp only [OK]
        refine OKs.mask (msk 111 [7, 15, 85, 86, 87, 94, 95]) ?_
        refine ih2 _ ⟨_, rfl, ?_, ?_⟩ (show (rn - A.ib .add .i64 k 1).toNat < (rn - k).toNat from ?_)
        all_goals (try simp (disch := omega) only [hA, OK, emaT])
        all_goals omega
      · with_reducible refine runK hA hd hQ 60 ?hk ?_
        case hk => exact trivial
        conv => arg 8; cbv
        try simp only [OK]
        refine OKs.mask (msk 111 [7, 85, 86, 87]) ?_
        refine ih _ ⟨_, rfl, ?_, ?_⟩ (show (10 - A.ib .add .i64 x 1).toNat < (10 - x).toNat from ?_)
        all_goals (try simp (disch := omega) only [hA, OK, emaT])
        all_goals omega
    · refine ⟨by simp (disch := omega) only [hA, OK, emaT] <;> omega, [.sl 1 8 0 N none], _, rfl, by simp (disch := omega) only [hA, OK, emaT] <;> (rw [hx, hL]; rfl), rfl, ?_⟩
      with_reducible refine runK hA hd hQ 60 ?hk ?_
      case hk => exact trivial
      conv => arg 8; cbv
      try simp only [OK]
      refine OKs.mask (msk 111 [7, 15, 85, 86, 87, 94, 95]) ?_
      refine OKs.loop (fun s => ∃ k : Int, s = ⟨mkT 111 [(7, .sl 1 0 0 10 none), (15, .lit (.int .i64 x)), (85, .sl 1 0 0 10 none), (86, .lit (.int .i64 (A.ofn 10))), (87, .lit (.int .i64 x)), (94, .lit (.int .i64 (A.ofn N))), (95, .lit (.int .i64 k))], [.blk L, .blk o0, .blk o1, .blk o2, .blk o3, .blk o4, .blk o5, .blk o6, .blk o7, .blk o8, .blk o9]⟩ ∧ 0 ≤ k ∧ k ≤ N) (fun s => (N - intN (getT s.t 95)).toNat) (fun s hs ih2 => ?_)
        ⟨0, rfl, by omega, by omega⟩
      obtain ⟨k, rfl, hk0, hk1⟩ := hs
      with_reducible refine runS hA hd hQ 60 ?hk ?_
      case hk => exact trivial
      conv => arg 8; cbv
      try simp only [OK]
      refine ⟨fun h2 => ?_, fun h2 => ?_⟩ <;> simp (disch := omega) only [hA, OK, emaT] at h2
      · with_reducible refine runK hA hd hQ 60 ?hk ?_
        case hk => exact trivial
        conv => arg 8; cbv
        try simp only [OK]
        refine ⟨by simp (disch := omega) only [hA, OK, emaT] <;> omega, [.sl 1 8 0 N none], _, rfl, by simp (disch := omega) only [hA, OK, emaT] <;> (rw [hx, hL]; rfl), rfl, ?_⟩
        with_reducible refine runK hA hd hQ 60 ?hk ?_
        case hk => exact trivial
        conv => arg 8; cbv
        try simp only [OK]
        refine ⟨by simp (disch := omega) only [hA, OK, emaT] <;> omega, [mkA A x], _, rfl, by (simp (disch := omega) only [hA, OK, emaT] <;> (rw [k7, hx, hA]; exact look_rep _ _ _ (by omega))), rfl, ?_⟩
        with_reducible refine runK hA hd hQ 60 ?hk ?_
        case hk => exact trivial
        conv => arg 8; cbv
        try simp only [OK]
        refine ⟨fun h3 => ?_, fun h3 => ?_⟩
        · with_reducible exfalso; (simp (disch := omega) only [hA, OK, emaT, reduceCtorEq, not_true_eq_false, not_false_eq_true] at h3 <;> omega)
        with_reducible refine runK hA hd hQ 60 ?hk ?_
        case hk => exact trivial
        conv => arg 8; cbv
        try simp only [OK]
        refine OKs.mask (msk 111 [7, 15, 85, 86, 87, 94, 95]) ?_
        refine ih2 _ ⟨_, rfl, ?_, ?_⟩ (show (N - A.ib .add .i64 k 1).toNat < (N - k).toNat from ?_)
        all_goals (try simp (disch := omega) only [hA, OK, emaT])
        all_goals omega
      · with_reducible refine runK hA hd hQ 60 ?hk ?_
        case hk => exact trivial
        conv => arg 8; cbv
        try simp only [OK]
        refine OKs.mask (msk 111 [7, 85, 86, 87]) ?_
        refine ih _ ⟨_, rfl, ?_, ?_⟩ (show (10 - A.ib .add .i64 x 1).toNat < (10 - x).toNat from ?_)
        all_goals (try simp (disch := omega) only [hA, OK, emaT])
        all_goals omega
    · refine ⟨by simp (disch := omega) only [hA, OK, emaT] <;> omega, [.sl 1 9 0 rn none], _, rfl, by simp (disch := omega) only [hA, OK, emaT] <;> (rw [hx, hL]; rfl), rfl, ?_⟩
      with_reducible refine runK hA hd hQ 60 ?hk ?_
      case hk => exact trivial
      conv => arg 8; cbv
      try simp only [OK]
      refine OKs.mask (msk 111 [7, 15, 85, 86, 87, 94, 95]) ?_
      refine OKs.loop (fun s => ∃ k : Int, s = ⟨mkT 111 [(7, .sl 1 0 0 10 none), (15, .lit (.int .i64 x)), (85, .sl 1 0 0 10 none), (86, .lit (.int .i64 (A.ofn 10))), (87, .lit (.int .i64 x)), (94, .lit (.int .i64 (A.ofn rn))), (95, .lit (.int .i64 k))], [.blk L, .blk o0, .blk o1, .blk o2, .blk o3, .blk o4, .blk o5, .blk o6, .blk o7, .blk o8, .blk o9]⟩ ∧ 0 ≤ k ∧ k ≤ rn) (fun s => (rn - intN (getT s.t 95)).toNat) (fun s hs ih2 => ?_)
        ⟨0, rfl, by omega, by omega⟩
      obtain ⟨k, rfl, hk0, hk1⟩ := hs
      with_reducible refine runS hA hd hQ 60 ?hk ?_
      case hk => exact trivial
      conv => arg 8; cbv
      try simp only [OK]
      refine ⟨fun h2 => ?_, fun h2 => ?_⟩ <;> simp (disch := omega) only [hA, OK, emaT] at h2
      · with_reducible refine runK hA hd hQ 60 ?hk ?_
        case hk => exact trivial
        conv => arg 8; cbv
        try simp only [OK]
        refine ⟨by simp (disch := omega) only [hA, OK, emaT] <;> omega, [.sl 1 9 0 rn none], _, rfl, by simp (disch := omega) only [hA, OK, emaT] <;> (rw [hx, hL]; rfl), rfl, ?_⟩
        with_reducible refine runK hA hd hQ 60 ?hk ?_
        case hk => exact trivial
        conv => arg 8; cbv
        try simp only [OK]
        refine ⟨by simp (disch := omega) only [hA, OK, emaT] <;> omega, [mkA A x], _, rfl, by (simp (disch := omega) only [hA, OK, emaT] <;> (rw [k8, hx, hA]; exact look_rep _ _ _ (by omega))), rfl, ?_⟩
        with_reducible refine runK hA hd hQ 60 ?hk ?_
        case hk => exact trivial
        conv => arg 8; cbv
        try simp only [OK]
        refine ⟨fun h3 => ?_, fun h3 => ?_⟩
        · with_reducible exfalso; (simp (disch := omega) only [hA, OK, emaT, reduceCtorEq, not_true_eq_false, not_false_eq_true] at h3 <;> omega)
        with_reducible refine runK hA hd hQ 60 ?hk ?_
        case hk => exact trivial
        conv => arg 8; cbv
        try simp only [OK]
        refine OKs.mask (msk 111 [7, 15, 85, 86, 87, 94, 95]) ?_
        refine ih2 _ ⟨_, rfl, ?_, ?_⟩ (show (rn - A.ib .add .i64 k 1).toNat < (rn - k).toNat from ?_)
        all_goals (try simp (disch := omega) only [hA, OK, emaT])
        all_goals omega
      · with_reducible refine runK hA hd hQ 60 ?hk ?_
        case hk => exact trivial
        conv => arg 8; cbv
        try simp only [OK]
        refine OKs.mask (msk 111 [7, 85, 86, 87]) ?_
        refine ih _ ⟨_, rfl, ?_, ?_⟩ (show (10 - A.ib .add .i64 x 1).toNat < (10 - x).toNat from ?_)
        all_goals (try simp (disch := omega) only [hA, OK, emaT])
        all_goals omega
    · refine ⟨by simp (disch := omega) only [hA, OK, emaT] <;> omega, [.sl 1 10 0 N none], _, rfl, by simp (disch := omega) only [hA, OK, emaT] <;> (rw [hx, hL]; rfl), rfl, ?_⟩
      with_reducible refine runK hA hd hQ 60 ?hk ?_
      case hk => exact trivial
      conv => arg 8; cbv
      try simp only [OK]
      refine OKs.mask (msk 111 [7, 15, 85, 86, 87, 94, 95]) ?_
      refine OKs.loop (fun s => ∃ k : Int, s = ⟨mkT 111 [(7, .sl 1 0 0 10 none), (15, .lit (.int .i64 x)), (85, .sl 1 0 0 10 none), (86, .lit (.int .i64 (A.ofn 10))), (87, .lit (.int .i64 x)), (94, .lit (.int .i64 (A.ofn N))), (95, .lit (.int .i64 k))], [.blk L, .blk o0, .blk o1, .blk o2, .blk o3, .blk o4, .blk o5, .blk o6, .blk o7, .blk o8, .blk o9]⟩ ∧ 0 ≤ k ∧ k ≤ N) (fun s => (N - intN (getT s.t 95)).toNat) (fun s hs ih2 => ?_)
        ⟨0, rfl, by omega, by omega⟩
      obtain ⟨k, rfl, hk0, hk1⟩ := hs
      with_reducible refine runS hA hd hQ 60 ?hk ?_
      case hk => exact trivial
      conv => arg 8; cbv
      try simp only [OK]
      refine ⟨fun h2 => ?_, fun h2 => ?_⟩ <;> simp (disch := omega) only [hA, OK, emaT] at h2
      · with_reducible refine runK hA hd hQ 60 ?hk ?_
        case hk => exact trivial
        conv => arg 8; cbv
        try simp only [OK]
        refine ⟨by simp (disch := omega) only [hA, OK, emaT] <;> omega, [.sl 1 10 0 N none], _, rfl, by simp (disch := omega) only [hA, OK, emaT] <;> (rw [hx, hL]; rfl), rfl, ?_⟩
        with_reducible refine runK hA hd hQ 60 ?hk ?_
        case hk => exact trivial
        conv => arg 8; cbv
        try simp only [OK]
        refine ⟨by simp (disch := omega) only [hA, OK, emaT] <;> omega, [mkA A x], _, rfl, by (simp (disch := omega) only [hA, OK, emaT] <;> (rw [k9, hx, hA]; exact look_rep _ _ _ (by omega))), rfl, ?_⟩
        with_reducible refine runK hA hd hQ 60 ?hk ?_
        case hk => exact trivial
        conv => arg 8; cbv
        try simp only [OK]
        refine ⟨fun h3 => ?_, fun h3 => ?_⟩
        · with_reducible exfalso; (simp (disch := omega) only [hA, OK, emaT, reduceCtorEq, not_true_eq_false, not_false_eq_true] at h3 <;> omega)
        with_reducible refine runK hA hd hQ 60 ?hk ?_
        case hk => exact trivial
        conv => arg 8; cbv
        try simp only [OK]
        refine OKs.mask (msk 111 [7, 15, 85, 86, 87, 94, 95]) ?_
        refine ih2 _ ⟨_, rfl, ?_, ?_⟩ (show (N - A.ib .add .i64 k 1).toNat < (N - k).toNat from ?_)
        all_goals (try simp (disch := omega) only [hA, OK, emaT])
        all_goals omega
      · with_reducible refine runK hA hd hQ 60 ?hk ?_
        case hk => exact trivial
        conv => arg 8; cbv
        try simp only [OK]
        refine OKs.mask (msk 111 [7, 85, 86, 87]) ?_
        refine ih _ ⟨_, rfl, ?_, ?_⟩ (show (10 - A.ib .add .i64 x 1).toNat < (10 - x).toNat from ?_)
        all_goals (try simp (disch := omega) only [hA, OK, emaT])
        all_goals omega
  · with_reducible refine runK hA hd hQ 60 ?hk ?_
    case hk => exact trivial
    conv => arg 8; cbv
    try simp only [OK]
    exact ⟨_, rfl, rfl⟩

set_option maxHeartbeats 8000000 in
theorem turns2 {I0 : Imm} {ρ0 : Ren} {w0 : World} {Q : Exit → Act → World → Prop} (hρ : ρ0.length = 0) (hQ : EndsQ [] I0 ρ0 w0 Q (FinR F19.rs fun v h => v = .lit (.bool true)))
    (N rn : Nat) (hN : N ≤ 1000000) (hrn : rn ≤ 1000000) (L : List EV) (hL : L = [.sl 1 1 0 rn none, .sl 1 2 0 N none, .sl 1 3 0 rn none, .sl 1 4 0 N none, .sl 1 5 0 rn none, .sl 1 6 0 N none, .sl 1 7 0 rn none, .sl 1 8 0 N none, .sl 1 9 0 rn none, .sl 1 10 0 N none]) (o0 o1 o2 o3 o4 o5 o6 o7 o8 o9 : List EV)
    (k0 : o0.length = rn) (k1 : o1.length = N) (k2 : o2.length = rn) (k3 : o3.length = N) (k4 : o4.length = rn) (k5 : o5.length = N) (k6 : o6.length = rn) (k7 : o7.length = N) (k8 : o8.length = rn) (k9 : o9.length = N) :
    OKs Try.prog [] I0 ρ0 w0 Q [.c (seqT 3 F19.body)] ⟨mkT 111 [(7, .sl 1 0 0 10 none)], [.blk L, .blk o0, .blk o1, .blk o2, .blk o3, .blk o4, .blk o5, .blk o6, .blk o7, .blk o8, .blk o9]⟩ := by
  obtain ⟨A, hA⟩ : ∃ A, A = stdA := ⟨_, rfl⟩
  with_reducible refine runS hA hd hQ 60 ?hk ?_
  case hk => exact trivial
  conv => arg 8; cbv
  try simp only [OK]
  refine OKs.mask (msk 111 [7, 61, 62, 63]) ?_
  refine OKs.loop (fun s => ∃ (x : Int) (o0 o1 o2 o3 o4 o5 o6 o7 o8 o9 : List EV), s = ⟨mkT 111 [(7, .sl 1 0 0 10 none), (61, .sl 1 0 0 10 none), (62, .lit (.int .i64 (A.ofn 10))), (63, .lit (.int .i64 x))], [.blk L, .blk o0, .blk o1, .blk o2, .blk o3, .blk o4, .blk o5, .blk o6, .blk o7, .blk o8, .blk o9]⟩ ∧ 0 ≤ x ∧ x ≤ 10 ∧ o0.length = rn ∧ o1.length = N ∧ o2.length = rn ∧ o3.length = N ∧ o4.length = rn ∧ o5.length = N ∧ o6.length = rn ∧ o7.length = N ∧ o8.length = rn ∧ o9.length = N ∧ (0 < x → o0 = List.replicate rn (mkA A 0)) ∧ (1 < x → o1 = List.replicate N (mkA A 1)) ∧ (2 < x → o2 = List.replicate rn (mkA A 2)) ∧ (3 < x → o3 = List.replicate N (mkA A 3)) ∧ (4 < x → o4 = List.replicate rn (mkA A 4)) ∧ (5 < x → o5 = List.replicate N (mkA A 5)) ∧ (6 < x → o6 = List.replicate rn (mkA A 6)) ∧ (7 < x → o7 = List.replicate N (mkA A 7)) ∧ (8 < x → o8 = List.replicate rn (mkA A 8)) ∧ (9 < x → o9 = List.replicate N (mkA A 9))) (fun s => (10 - intN (getT s.t 63)).toNat) (fun s hs ih => ?_)
    ⟨0, _, _, _, _, _, _, _, _, _, _, rfl, by omega, by omega, k0, k1, k2, k3, k4, k5, k6, k7, k8, k9, fun h => absurd h (by omega), fun h => absurd h (by omega), fun h => absurd h (by omega), fun h => absurd h (by omega), fun h => absurd h (by omega), fun h => absurd h (by omega), fun h => absurd h (by omega), fun h => absurd h (by omega), fun h => absurd h (by omega), fun h => absurd h (by omega)⟩
  clear k0 k1 k2 k3 k4 k5 k6 k7 k8 k9 o0 o1 o2 o3 o4 o5 o6 o7 o8 o9
  obtain ⟨x, o0, o1, o2, o3, o4, o5, o6, o7, o8, o9, rfl, hx0, hx1, k0, k1, k2, k3, k4, k5, k6, k7, k8, k9, m0, m1, m2, m3, m4, m5, m6, m7, m8, m9⟩ := hs
  with_reducible refine runS hA hd hQ 60 ?hk ?_
  case hk => exact trivial
  conv => arg 8; cbv
  try simp only [OK]
  refine ⟨fun h1 => ?_, fun h1 => ?_⟩ <;> simp (disch := omega) only [hA, OK, emaT] at h1
  · with_reducible refine runK hA hd hQ 60 ?hk ?_
    case hk => exact trivial
    conv => arg 8; cbv
    try simp only [OK]
    have hx : x = 0 ∨ x = 1 ∨ x = 2 ∨ x = 3 ∨ x = 4 ∨ x = 5 ∨ x = 6 ∨ x = 7 ∨ x = 8 ∨ x = 9 := by omega
    rcases hx with hx | hx | hx | hx | hx | hx | hx | hx | hx | hx
    · refine ⟨by simp (disch := omega) only [hA, OK, emaT] <;> omega, [.sl 1 1 0 rn none], _, rfl, by simp (disch := omega) only [hA, OK, emaT] <;> (rw [hx, hL]; rfl), rfl, ?_⟩
      with_reducible refine runK hA hd hQ 60 ?hk ?_
      case hk => exact trivial
      conv => arg 8; cbv
      try simp only [OK]
      refine OKs.mask (msk 111 [7, 13, 61, 62, 63, 70, 71]) ?_
      refine OKs.loop (fun s => ∃ (k : Int) (o rest : List EV), s = ⟨mkT 111 [(7, .sl 1 0 0 10 none), (13, .lit (.int .i64 x)), (61, .sl 1 0 0 10 none), (62, .lit (.int .i64 (A.ofn 10))), (63, .lit (.int .i64 x)), (70, .lit (.int .i64 (A.ofn rn))), (71, .lit (.int .i64 k))], [.blk L, .blk o, .blk o1, .blk o2, .blk o3, .blk o4, .blk o5, .blk o6, .blk o7, .blk o8, .blk o9]⟩ ∧ 0 ≤ k ∧ k ≤ rn ∧ o = List.replicate k.toNat (mkA A x) ++ rest ∧ k.toNat + rest.length = rn) (fun s => (rn - intN (getT s.t 71)).toNat) (fun s hs ih2 => ?_)
        ⟨0, o0, o0, rfl, by omega, by omega, by simp, by simp; exact k0⟩
      obtain ⟨k, o, rest, rfl, hk0, hk1, ho, hrest⟩ := hs
      have hol : o.length = rn := by rw [ho]; simp; omega
      with_reducible refine runS hA hd hQ 60 ?hk ?_
      case hk => exact trivial
      conv => arg 8; cbv
      try simp only [OK]
      refine ⟨fun h2 => ?_, fun h2 => ?_⟩ <;> simp (disch := omega) only [hA, OK, emaT] at h2
      · with_reducible refine runK hA hd hQ 60 ?hk ?_
        case hk => exact trivial
        conv => arg 8; cbv
        try simp only [OK]
        refine ⟨by simp (disch := omega) only [hA, OK, emaT] <;> omega, [.sl 1 1 0 rn none], _, rfl, by simp (disch := omega) only [hA, OK, emaT] <;> (rw [hx, hL]; rfl), rfl, ?_⟩
        with_reducible refine runK hA hd hQ 60 ?hk ?_
        case hk => exact trivial
        conv => arg 8; cbv
        try simp only [OK]
        refine ⟨by simp (disch := omega) only [hA, OK, emaT] <;> omega, by simp (disch := omega) only [hA, OK, emaT] <;> omega, ?_⟩
        refine OKs.mask (msk 111 [7, 13, 61, 62, 63, 70, 71]) ?_
        refine ih2 _ ⟨_, _, rest.tail, rfl, ?_, ?_, ?_, ?_⟩ (show (rn - A.ib .add .i64 k 1).toNat < (rn - k).toNat from ?_)
        · simp (disch := omega) only [hA, OK, emaT] <;> omega
        · simp (disch := omega) only [hA, OK, emaT] <;> omega
        · show A.setl o (A.idx 0 k 1) [mkA A x] = List.replicate (A.ib .add .i64 k 1).toNat (mkA A x) ++ rest.tail
          rw [ho, hA, s_idx, s_add _ _ (by omega) (by omega), show 0 + k.toNat * 1 = k.toNat by omega, set_mark _ _ _ (by omega), show (k + 1).toNat = k.toNat + 1 by omega]
        · rw [List.length_tail]; simp (disch := omega) only [hA, OK, emaT] <;> omega
        · simp (disch := omega) only [hA, OK, emaT] <;> omega
      · with_reducible refine runK hA hd hQ 60 ?hk ?_
        case hk => exact trivial
        conv => arg 8; cbv
        try simp only [OK]
        have hr0 : rest = [] := List.length_eq_zero_iff.1 (by omega)
        have hon : o = List.replicate rn (mkA A 0) := by rw [ho, hr0, hx, show k.toNat = rn by omega]; simp
        refine OKs.mask (msk 111 [7, 61, 62, 63]) ?_
        have hx2 : A.ib .add .i64 x 1 = 1 := by simp (disch := omega) only [hA, OK, emaT] <;> omega
        refine ih _ ⟨A.ib .add .i64 x 1, _, _, _, _, _, _, _, _, _, _, rfl, ?_, ?_, hol, k1, k2, k3, k4, k5, k6, k7, k8, k9, fun h => hon, fun h => absurd h (by omega), fun h => absurd h (by omega), fun h => absurd h (by omega), fun h => absurd h (by omega), fun h => absurd h (by omega), fun h => absurd h (by omega), fun h => absurd h (by omega), fun h => absurd h (by omega), fun h => absurd h (by omega)⟩ (show (10 - A.ib .add .i64 x 1).toNat < (10 - x).toNat from ?_)
        all_goals omega
    · refine ⟨by simp (disch := omega) only [hA, OK, emaT] <;> omega, [.sl 1 2 0 N none], _, rfl, by simp (disch := omega) only [hA, OK, emaT] <;> (rw [hx, hL]; rfl), rfl, ?_⟩
      with_reducible refine runK hA hd hQ 60 ?hk ?_
      case hk => exact trivial
      conv => arg 8; cbv
      try simp only [OK]
      refine OKs.mask (msk 111 [7, 13, 61, 62, 63, 70, 71]) ?_
      refine OKs.loop (fun s => ∃ (k : Int) (o rest : List EV), s = ⟨mkT 111 [(7, .sl 1 0 0 10 none), (13, .lit (.int .i64 x)), (61, .sl 1 0 0 10 none), (62, .lit (.int .i64 (A.ofn 10))), (63, .lit (.int .i64 x)), (70, .lit (.int .i64 (A.ofn N))), (71, .lit (.int .i64 k))], [.blk L, .blk o0, .blk o, .blk o2, .blk o3, .blk o4, .blk o5, .blk o6, .blk o7, .blk o8, .blk o9]⟩ ∧ 0 ≤ k ∧ k ≤ N ∧ o = List.replicate k.toNat (mkA A x) ++ rest ∧ k.toNat + rest.length = N) (fun s => (N - intN (getT s.t 71)).toNat) (fun s hs ih2 => ?_)
        ⟨0, o1, o1, rfl, by omega, by omega, by simp, by simp; exact k1⟩
      obtain ⟨k, o, rest, rfl, hk0, hk1, ho, hrest⟩ := hs
      have hol : o.length = N := by rw [ho]; simp; omega
      with_reducible refine runS hA hd hQ 60 ?hk ?_
      case hk => exact trivial
      conv => arg 8; cbv
      try simp only [OK]
      refine ⟨fun h2 => ?_, fun h2 => ?_⟩ <;> simp (disch := omega) only [hA, OK, emaT] at h2
      · with_reducible refine runK hA hd hQ 60 ?hk ?_
        case hk => exact trivial
        conv => arg 8; cbv
        try simp only [OK]
        refine ⟨by simp (disch := omega) only [hA, OK, emaT] <;> omega, [.sl 1 2 0 N none], _, rfl, by simp (disch := omega) only [hA, OK, emaT] <;> (rw [hx, hL]; rfl), rfl, ?_⟩
        with_reducible refine runK hA hd hQ 60 ?hk ?_
        case hk => exact trivial
        conv => arg 8; cbv
        try simp only [OK]
        refine ⟨by simp (disch := omega) only [hA, OK, emaT] <;> omega, by simp (disch := omega) only [hA, OK, emaT] <;> omega, ?_⟩
        refine OKs.mask (msk 111 [7, 13, 61, 62, 63, 70, 71]) ?_
        refine ih2 _ ⟨_, _, rest.tail, rfl, ?_, ?_, ?_, ?_⟩ (show (N - A.ib .add .i64 k 1).toNat < (N - k).toNat from ?_)
        · simp (disch := omega) only [hA, OK, emaT] <;> omega
        · simp (disch := omega) only [hA, OK, emaT] <;> omega
        · show A.setl o (A.idx 0 k 1) [mkA A x] = List.replicate (A.ib .add .i64 k 1).toNat (mkA A x) ++ rest.tail
          rw [ho, hA, s_idx, s_add _ _ (by omega) (by omega), show 0 + k.toNat * 1 = k.toNat by omega, set_mark _ _ _ (by omega), show (k + 1).toNat = k.toNat + 1 by omega]
        · rw [List.length_tail]; simp (disch := omega) only [hA, OK, emaT] <;> omega
        · simp (disch := omega) only [hA, OK, emaT] <;> omega
      · with_reducible refine runK hA hd hQ 60 ?hk ?_
        case hk => exact trivial
        conv => arg 8; cbv
        try simp only [OK]
        have hr0 : rest = [] := List.length_eq_zero_iff.1 (by omega)
        have hon : o = List.replicate N (mkA A 1) := by rw [ho, hr0, hx, show k.toNat = N by omega]; simp
        refine OKs.mask (msk 111 [7, 61, 62, 63]) ?_
        have hx2 : A.ib .add .i64 x 1 = 2 := by simp (disch := omega) only [hA, OK, emaT] <;> omega
        refine ih _ ⟨A.ib .add .i64 x 1, _, _, _, _, _, _, _, _, _, _, rfl, ?_, ?_, k0, hol, k2, k3, k4, k5, k6, k7, k8, k9, fun h => m0 (by omega), fun h => hon, fun h => absurd h (by omega), fun h => absurd h (by omega), fun h => absurd h (by omega), fun h => absurd h (by omega), fun h => absurd h (by omega), fun h => absurd h (by omega), fun h => absurd h (by omega), fun h => absurd h (by omega)⟩ (show (10 - A.ib .add .i64 x 1).toNat < (10 - x).toNat from ?_)
        all_goals omega
    · refine ⟨by simp (disch := omega) only [hA, OK, emaT] <;> omega, [.sl 1 3 0 rn none], _, rfl, by simp (disch := omega) only [hA, OK, emaT] <;> (rw [hx, hL]; rfl), rfl, ?_⟩
      with_reducible refine runK hA hd hQ 60 ?hk ?_
      case hk => exact trivial
      conv => arg 8; cbv
      try simp only [OK]
      refine OKs.mask (msk 111 [7, 13, 61, 62, 63, 70, 71]) ?_
      refine OKs.loop (fun s => ∃ (k : Int) (o rest : List EV), s = ⟨mkT 111 [(7, .sl 1 0 0 10 none), (13, .lit (.int .i64 x)), (61, .sl 1 0 0 10 none), (62, .lit (.int .i64 (A.ofn 10))), (63, .lit (.int .i64 x)), (70, .lit (.int .i64 (A.ofn rn))), (71, .lit (.int .i64 k))], [.blk L, .blk o0, .blk o1, .blk o, .blk o3, .blk o4, .blk o5, .blk o6, .blk o7, .blk o8, .blk o9]⟩ ∧ 0 ≤ k ∧ k ≤ rn ∧ o = List.replicate k.toNat (mkA A x) ++ rest ∧ k.toNat + rest.length = rn) (fun s => (rn - intN (getT s.t 71)).toNat) (fun s hs ih2 => ?_)
        ⟨0, o2, o2, rfl, by omega, by omega, by simp, by simp; exact k2⟩
      obtain ⟨k, o, rest, rfl, hk0, hk1, ho, hrest⟩ := hs
      have hol : o.length = rn := by rw [ho]; simp; omega
      with_reducible refine runS hA hd hQ 60 ?hk ?_
      case hk => exact trivial
      conv => arg 8; cbv
      try simp only [OK]
      refine ⟨fun h2 => ?_, fun h2 => ?_⟩ <;> simp (disch := omega) only [hA, OK, emaT] at h2
      · with_reducible refine runK hA hd hQ 60 ?hk ?_
        case hk => exact trivial
        conv => arg 8; cbv
        try simp only [OK]
        refine ⟨by simp (disch := omega) only [hA, OK, emaT] <;> omega, [.sl 1 3 0 rn none], _, rfl, by simp (disch := omega) only [hA, OK, emaT] <;> (rw [hx, hL]; rfl), rfl, ?_⟩
        with_reducible refine runK hA hd hQ 60 ?hk ?_
        case hk => exact trivial
        conv => arg 8; cbv
        try simp only [OK]
        refine ⟨by simp (disch := omega) only [hA, OK, emaT] <;> omega, by simp (disch := omega) only [hA, OK, emaT] <;> omega, ?_⟩
        refine OKs.mask (msk 111 [7, 13, 61, 62, 63, 70, 71]) ?_
        refine ih2 _ ⟨_, _, rest.tail, rfl, ?_, ?_, ?_, ?_⟩ (show (rn - A.ib .add .i64 k 1).toNat < (rn - k).toNat from ?_)
        · simp (disch := omega) only [hA, OK, emaT] <;> omega
        · simp (disch := omega) only [hA, OK, emaT] <;> omega
        · show A.setl o (A.idx 0 k 1) [mkA A x] = List.replicate (A.ib .add .i64 k 1).toNat (mkA A x) ++ rest.tail
          rw [ho, hA, s_idx, s_add _ _ (by omega) (by omega), show 0 + k.toNat * 1 = k.toNat by omega, set_mark _ _ _ (by omega), show (k + 1).toNat = k.toNat + 1 by omega]
        · rw [List.length_tail]; simp (disch := omega) only [hA, OK, emaT] <;> omega
        · simp (disch := omega) only [hA, OK, emaT] <;> omega
      · with_reducible refine runK hA hd hQ 60 ?hk ?_
        case hk => exact trivial
        conv => arg 8; cbv
        try simp only [OK]
        have hr0 : rest = [] := List.length_eq_zero_iff.1 (by omega)
        have hon : o = List.replicate rn (mkA A 2) := by rw [ho, hr0, hx, show k.toNat = rn by omega]; simp
        refine OKs.mask (msk 111 [7, 61, 62, 63]) ?_
        have hx2 : A.ib .add .i64 x 1 = 3 := by simp (disch := omega) only [hA, OK, emaT] <;> omega
        refine ih _ ⟨A.ib .add .i64 x 1, _, _, _, _, _, _, _, _, _, _, rfl, ?_, ?_, k0, k1, hol, k3, k4, k5, k6, k7, k8, k9, fun h => m0 (by omega), fun h => m1 (by omega), fun h => hon, fun h => absurd h (by omega), fun h => absurd h (by omega), fun h => absurd h (by omega), fun h => absurd h (by omega), fun h => absurd h (by omega), fun h => absurd h (by omega), fun h => absurd h (by omega)⟩ (show (10 - A.ib .add .i64 x 1).toNat < (10 - x).toNat from ?_)
        all_goals omega
    · refine ⟨by simp (disch := omega) only [hA, OK, emaT] <;> omega, [.sl 1 4 0 N none], _, rfl, by simp (disch := omega) only [hA, OK, emaT] <;> (rw [hx, hL]; rfl), rfl, ?_⟩
      with_reducible refine runK hA hd hQ 60 ?hk ?_
      case hk => exact trivial
      conv => arg 8; cbv
      try simp only [OK]
      refine OKs.mask (msk 111 [7, 13, 61, 62, 63, 70, 71]) ?_
      refine OKs.loop (fun s => ∃ (k : Int) (o rest : List EV), s = ⟨mkT 111 [(7, .sl 1 0 0 10 none), (13, .lit (.int .i64 x)), (61, .sl 1 0 0 10 none), (62, .lit (.int .i64 (A.ofn 10))), (63, .lit (.int .i64 x)), (70, .lit (.int .i64 (A.ofn N))), (71, .lit (.int .i64 k))], [.blk L, .blk o0, .blk o1, .blk o2, .blk o, .blk o4, .blk o5, .blk o6, .blk o7, .blk o8, .blk o9]⟩ ∧ 0 ≤ k ∧ k ≤ N ∧ o = List.replicate k.toNat (mkA A x) ++ rest ∧ k.toNat + rest.length = N) (fun s => (N - intN (getT s.t 71)).toNat) (fun s hs ih2 => ?_)
        ⟨0, o3, o3, rfl, by omega, by omega, by simp, by simp; exact k3⟩
      obtain ⟨k, o, rest, rfl, hk0, hk1, ho, hrest⟩ := hs
      have hol : o.length = N := by rw [ho]; simp; omega
      with_reducible refine runS hA hd hQ 60 ?hk ?_
      case hk => exact trivial
      conv => arg 8; cbv
      try simp only [OK]
      refine ⟨fun h2 => ?_, fun h2 => ?_⟩ <;> simp (disch := omega) only [hA, OK, emaT] at h2
      · with_reducible refine runK hA hd hQ 60 ?hk ?_
        case hk => exact trivial
        conv => arg 8; cbv
        try simp only [OK]
        refine ⟨by simp (disch := omega) only [hA, OK, emaT] <;> omega, [.sl 1 4 0 N none], _, rfl, by simp (disch := omega) only [hA, OK, emaT] <;> (rw [hx, hL]; rfl), rfl, ?_⟩
        with_reducible refine runK hA hd hQ 60 ?hk ?_
        case hk => exact trivial
        conv => arg 8; cbv
        try simp only [OK]
        refine ⟨by simp (disch := omega) only [hA, OK, emaT] <;> omega, by simp (disch := omega) only [hA, OK, emaT] <;> omega, ?_⟩
        refine OKs.mask (msk 111 [7, 13, 61, 62, 63, 70, 71]) ?_
        refine ih2 _ ⟨_, _, rest.tail, rfl, ?_, ?_, ?_, ?_⟩ (show (N - A.ib .add .i64 k 1).toNat < (N - k).toNat from ?_)
        · simp (disch := omega) only [hA, OK, emaT] <;> omega
        · simp (disch := omega) only [hA, OK, emaT] <;> omega
        · show A.setl o (A.idx 0 k 1) [mkA A x] = List.replicate (A.ib .add .i64 k 1).toNat (mkA A x) ++ rest.tail
          rw [ho, hA, s_idx, s_add _ _ (by omega) (by omega), show 0 + k.toNat * 1 = k.toNat by omega, set_mark _ _ _ (by omega), show (k + 1).toNat = k.toNat + 1 by omega]
        · rw [List.length_tail]; simp (disch := omega) only [hA, OK, emaT] <;> omega
        · simp (disch := omega) only [hA, OK, emaT] <;> omega
      · with_reducible refine runK hA hd hQ 60 ?hk ?_
        case hk => exact trivial
        conv => arg 8; cbv
        try simp only [OK]
        have hr0 : rest = [] := List.length_eq_zero_iff.1 (by omega)
        have hon : o = List.replicate N (mkA A 3) := by rw [ho, hr0, hx, show k.toNat = N by omega]; simp
        refine OKs.mask (msk 111 [7, 61, 62, 63]) ?_
        have hx2 : A.ib .add .i64 x 1 = 4 := by simp (disch := omega) only [hA, OK, emaT] <;> omega
        refine ih _ ⟨A.ib .add .i64 x 1, _, _, _, _, _, _, _, _, _, _, rfl, ?_, ?_, k0, k1, k2, hol, k4, k5, k6, k7, k8, k9, fun h => m0 (by omega), fun h => m1 (by omega), fun h => m2 (by omega), fun h => hon, fun h => absurd h (by omega), fun h => absurd h (by omega), fun h => absurd h (by omega), fun h => absurd h (by omega), fun h => absurd h (by omega), fun h => absurd h (by omega)⟩ (show (10 - A.ib .add .i64 x 1).toNat < (10 - x).toNat from ?_)
        all_goals omega
    · refine ⟨by simp (disch := omega) only [hA, OK, emaT] <;> omega, [.sl 1 5 0 rn none], _, rfl, by simp (disch := omega) only [hA, OK, emaT] <;> (rw [hx, hL]; rfl), rfl, ?_⟩
      with_reducible refine runK hA hd hQ 60 ?hk ?_
      case hk => exact trivial
      conv => arg 8; cbv
      try simp only [OK]
      refine OKs.mask (msk 111 [7, 13, 61, 62, 63, 70, 71]) ?_
      refine OKs.loop (fun s => ∃ (k : Int) (o rest : List EV), s = ⟨mkT 111 [(7, .sl 1 0 0 10 none), (13, .lit (.int .i64 x)), (61, .sl 1 0 0 10 none), (62, .lit (.int .i64 (A.ofn 10))), (63, .lit (.int .i64 x)), (70, .lit (.int .i64 (A.ofn rn))), (71, .lit (.int .i64 k))], [.blk L, .blk o0, .blk o1, .blk o2, .blk o3, .blk o, .blk o5, .blk o6, .blk o7, .blk o8, .blk o9]⟩ ∧ 0 ≤ k ∧ k ≤ rn ∧ o = List.replicate k.toNat (mkA A x) ++ rest ∧ k.toNat + rest.length = rn) (fun s => (rn - intN (getT s.t 71)).toNat) (fun s hs ih2 => ?_)
        ⟨0, o4, o4, rfl, by omega, by omega, by simp, by simp; exact k4⟩
      obtain ⟨k, o, rest, rfl, hk0, hk1, ho, hrest⟩ := hs
      have hol : o.length = rn := by rw [ho]; simp; omega
      with_reducible refine runS hA hd hQ 60 ?hk ?_
      case hk => exact trivial
      conv => arg 8; cbv
      try simp only [OK]
      refine ⟨fun h2 => ?_, fun h2 => ?_⟩ <;> simp (disch := omega) only [hA, OK, emaT] at h2
      · with_reducible refine runK hA hd hQ 60 ?hk ?_
        case hk => exact trivial
        conv => arg 8; cbv
        try simp only [OK]
        refine ⟨by simp (disch := omega) only [hA, OK, emaT] <;> omega, [.sl 1 5 0 rn none], _, rfl, by simp (disch := omega) only [hA, OK, emaT] <;> (rw [hx, hL]; rfl), rfl, ?_⟩
        with_reducible refine runK hA hd hQ 60 ?hk ?_
        case hk => exact trivial
        conv => arg 8; cbv
        try simp only [OK]
        refine ⟨by simp (disch := omega) only [hA, OK, emaT] <;> omega, by simp (disch := omega) only [hA, OK, emaT] <;> omega, ?_⟩
        refine OKs.mask (msk 111 [7, 13, 61, 62, 63, 70, 71]) ?_
        refine ih2 _ ⟨_, _, rest.tail, rfl, ?_, ?_, ?_, ?_⟩ (show (rn - A.ib .add .i64 k 1).toNat < (rn - k).toNat from ?_)
        · simp (disch := omega) only [hA, OK, emaT] <;> omega
        · simp (disch := omega) only [hA, OK, emaT] <;> omega
        · show A.setl o (A.idx 0 k 1) [mkA A x] = List.replicate (A.ib .add .i64 k 1).toNat (mkA A x) ++ rest.tail
          rw [ho, hA, s_idx, s_add _ _ (by omega) (by omega), show 0 + k.toNat * 1 = k.toNat by omega, set_mark _ _ _ (by omega), show (k + 1).toNat = k.toNat + 1 by omega]
        · rw [List.length_tail]; simp (disch := omega) only [hA, OK, emaT] <;> omega
        · simp (disch := omega) only [hA, OK, emaT] <;> omega
      · with_reducible refine runK hA hd hQ 60 ?hk ?_
        case hk => exact trivial
        conv => arg 8; cbv
        try simp only [OK]
        have hr0 : rest = [] := List.length_eq_zero_iff.1 (by omega)
        have hon : o = List.replicate rn (mkA A 4) := by rw [ho, hr0, hx, show k.toNat = rn by omega]; simp
        refine OKs.mask (msk 111 [7, 61, 62, 63]) ?_
        have hx2 : A.ib .add .i64 x 1 = 5 := by simp (disch := omega) only [hA, OK, emaT] <;> omega
        refine ih _ ⟨A.ib .add .i64 x 1, _, _, _, _, _, _, _, _, _, _, rfl, ?_, ?_, k0, k1, k2, k3, hol, k5, k6, k7, k8, k9, fun h => m0 (by omega), fun h => m1 (by omega), fun h => m2 (by omega), fun h => m3 (by omega), fun h => hon, fun h => absurd h (by omega), fun h => absurd h (by omega), fun h => absurd h (by omega), fun h => absurd h (by omega), fun h => absurd h (by omega)⟩ (show (10 - A.ib .add .i64 x 1).toNat < (10 - x).toNat from ?_)
        all_goals omega
    · refine ⟨by simp (disch := omega) only [hA, OK, emaT] <;> omega, [.sl 1 6 0 N none], _, rfl, by simp (disch := omega) only [hA, OK, emaT] <;> (rw [hx, hL]; rfl), rfl, ?_⟩
      with_reducible refine runK hA hd hQ 60 ?hk ?_
      case hk => exact trivial
      conv => arg 8; cbv
      try simp only [OK]
      refine OKs.mask (msk 111 [7, 13, 61, 62, 63, 70, 71]) ?_
      refine OKs.loop (fun s => ∃ (k : Int) (o rest : List EV), s = ⟨mkT 111 [(7, .sl 1 0 0 10 none), (13, .lit (.int .i64 x)), (61, .sl 1 0 0 10 none), (62, .lit (.int .i64 (A.ofn 10))), (63, .lit (.int .i64 x)), (70, .lit (.int .i64 (A.ofn N))), (71, .lit (.int .i64 k))], [.blk L, .blk o0, .blk o1, .blk o2, .blk o3, .blk o4, .blk o, .blk o6, .blk o7, .blk o8, .blk o9]⟩ ∧ 0 ≤ k ∧ k ≤ N ∧ o = List.replicate k.toNat (mkA A x) ++ rest ∧ k.toNat + rest.length = N) (fun s => (N - intN (getT s.t 71)).toNat) (fun s hs ih2 => ?_)
        ⟨0, o5, o5, rfl, by omega, by omega, by simp, by simp; exact k5⟩
      obtain ⟨k, o, rest, rfl, hk0, hk1, ho, hrest⟩ := hs
      have hol : o.length = N := by rw [ho]; simp; omega
      with_reducible refine runS hA hd hQ 60 ?hk ?_
      case hk => exact trivial
      conv => arg 8; cbv
      try simp only [OK]
      refine ⟨fun h2 => ?_, fun h2 => ?_⟩ <;> simp (disch := omega) only [hA, OK, emaT] at h2
      · with_reducible refine runK hA hd hQ 60 ?hk ?_
        case hk => exact trivial
        conv => arg 8; cbv
        try simp only [OK]
        refine ⟨by simp (disch := omega) only [hA, OK, emaT] <;> omega, [.sl 1 6 0 N none], _, rfl, by simp (disch := omega) only [hA, OK, emaT] <;> (rw [hx, hL]; rfl), rfl, ?_⟩
        with_reducible refine runK hA hd hQ 60 ?hk ?_
        case hk => exact trivial
        conv => arg 8; cbv
        try simp only [OK]
        refine ⟨by simp (disch := omega) only [hA, OK, emaT] <;> omega, by simp (disch := omega) only [hA, OK, emaT] <;> omega, ?_⟩
        refine OKs.mask (msk 111 [7, 13, 61, 62, 63, 70, 71]) ?_
        refine ih2 _ ⟨_, _, rest.tail, rfl, ?_, ?_, ?_, ?_⟩ (show (N - A.ib .add .i64 k 1).toNat < (N - k).toNat from ?_)
        · simp (disch := omega) only [hA, OK, emaT] <;> omega
        · simp (disch := omega) only [hA, OK, emaT] <;> omega
        · show A.setl o (A.idx 0 k 1) [mkA A x] = List.replicate (A.ib .add .i64 k 1).toNat (mkA A x) ++ rest.tail
          rw [ho, hA, s_idx, s_add _ _ (by omega) (by omega), show 0 + k.toNat * 1 = k.toNat by omega, set_mark _ _ _ (by omega), show (k + 1).toNat = k.toNat + 1 by omega]
        · rw [List.length_tail]; simp (disch := omega) only [hA, OK, emaT] <;> omega
        · simp (disch := omega) only [hA, OK, emaT] <;> omega
      · with_reducible refine runK hA hd hQ 60 ?hk ?_
        case hk => exact trivial
        conv => arg 8; cbv
        try simp only [OK]
        have hr0 : rest = [] := List.length_eq_zero_iff.1 (by omega)
        have hon : o = List.replicate N (mkA A 5) := by rw [ho, hr0, hx, show k.toNat = N by omega]; simp
        refine OKs.mask (msk 111 [7, 61, 62, 63]) ?_
        have hx2 : A.ib .add .i64 x 1 = 6 := by simp (disch := omega) only [hA, OK, emaT] <;> omega
        refine ih _ ⟨A.ib .add .i64 x 1, _, _, _, _, _, _, _, _, _, _, rfl, ?_, ?_, k0, k1, k2, k3, k4, hol, k6, k7, k8, k9, fun h => m0 (by omega), fun h => m1 (by omega), fun h => m2 (by omega), fun h => m3 (by omega), fun h => m4 (by omega), fun h => hon, fun h => absurd h (by omega), fun h => absurd h (by omega), fun h => absurd h (by omega), fun h => absurd h (by omega)⟩ (show (10 - A.ib .add .i64 x 1).toNat < (10 - x).toNat from ?_)
        all_goals omega
    · refine ⟨by simp (disch := omega) only [hA, OK, emaT] <;> omega, [.sl 1 7 0 rn none], _, rfl, by simp (disch := omega) only [hA, OK, emaT] <;> (rw [hx, hL]; rfl), rfl, ?_⟩
      with_reducible refine runK hA hd hQ 60 ?hk ?_
      case hk => exact trivial
      conv => arg 8; cbv
      try simp only [OK]
      refine OKs.mask (msk 111 [7, 13, 61, 62, 63, 70, 71]) ?_
      refine OKs.loop (fun s => ∃ (k : Int) (o rest : List EV), s = ⟨mkT 111 [(7, .sl 1 0 0 10 none), (13, .lit (.int .i64 x)), (61, .sl 1 0 0 10 none), (62, .lit (.int .i64 (A.ofn 10))), (63, .lit (.int .i64 x)), (70, .lit (.int .i64 (A.ofn rn))), (71, .lit (.int .i64 k))], [.blk L, .blk o0, .blk o1, .blk o2, .blk o3, .blk o4, .blk o5, .blk o, .blk o7, .blk o8, .blk o9]⟩ ∧ 0 ≤ k ∧ k ≤ rn ∧ o = List.replicate k.toNat (mkA A x) ++ rest ∧ k.toNat + rest.length = rn) (fun s => (rn - intN (getT s.t 71)).toNat) (fun s hs ih2 => ?_)
        ⟨0, o6, o6, rfl, by omega, by omega, by simp, by simp; exact k6⟩
      obtain ⟨k, o, rest, rfl, hk0, hk1, ho, hrest⟩ := hs
      have hol : o.length = rn := by rw [ho]; simp; omega
      with_reducible refine runS hA hd hQ 60 ?hk ?_
      case hk => exact trivial
      conv => arg 8; cbv
      try simp only [OK]
      refine ⟨fun h2 => ?_, fun h2 => ?_⟩ <;> simp (disch := omega) only [hA, OK, emaT] at h2
      · with_reducible refine runK hA hd hQ 60 ?hk ?_
        case hk => exact trivial
        conv => arg 8; cbv
        try simp only [OK]
        refine ⟨by simp (disch := omega) only [hA, OK, emaT] <;> omega, [.sl 1 7 0 rn none], _, rfl, by simp (disch := omega) only [hA, OK, emaT] <;> (rw [hx, hL]; rfl), rfl, ?_⟩
        with_reducible refine runK hA hd hQ 60 ?hk ?_
        case hk => exact trivial
        conv => arg 8; cbv
        try simp only [OK]
        refine ⟨by simp (disch := omega) only [hA, OK, emaT] <;> omega, by simp (disch := omega) only [hA, OK, emaT] <;> omega, ?_⟩
        refine OKs.mask (msk 111 [7, 13, 61, 62, 63, 70, 71]) ?_
        refine ih2 _ ⟨_, _, rest.tail, rfl, ?_, ?_, ?_, ?_⟩ (show (rn - A.ib .add .i64 k 1).toNat < (rn - k).toNat from ?_)
        · simp (disch := omega) only [hA, OK, emaT] <;> omega
        · simp (disch := omega) only [hA, OK, emaT] <;> omega
        · show A.setl o (A.idx 0 k 1) [mkA A x] = List.replicate (A.ib .add .i64 k 1).toNat (mkA A x) ++ rest.tail
          rw [ho, hA, s_idx, s_add _ _ (by omega) (by omega), show 0 + k.toNat * 1 = k.toNat by omega, set_mark _ _ _ (by omega), show (k + 1).toNat = k.toNat + 1 by omega]
        · rw [List.length_tail]; simp (disch := omega) only [hA, OK, emaT] <;> omega
        · simp (disch := omega) only [hA, OK, emaT] <;> omega
      · with_reducible refine runK hA hd hQ 60 ?hk ?_
        case hk => exact trivial
        conv => arg 8; cbv
        try simp only [OK]
        have hr0 : rest = [] := List.length_eq_zero_iff.1 (by omega)
        have hon : o = List.replicate rn (mkA A 6) := by rw [ho, hr0, hx, show k.toNat = rn by omega]; simp
        refine OKs.mask (msk 111 [7, 61, 62, 63]) ?_
        have hx2 : A.ib .add .i64 x 1 = 7 := by simp (disch := omega) only [hA, OK, emaT] <;> omega
        refine ih _ ⟨A.ib .add .i64 x 1, _, _, _, _, _, _, _, _, _, _, rfl, ?_, ?_, k0, k1, k2, k3, k4, k5, hol, k7, k8, k9, fun h => m0 (by omega), fun h => m1 (by omega), fun h => m2 (by omega), fun h => m3 (by omega), fun h => m4 (by omega), fun h => m5 (by omega), fun h => hon, fun h => absurd h (by omega), fun h => absurd h (by omega), fun h => absurd h (by omega)⟩ (show (10 - A.ib .add .i64 x 1).toNat < (10 - x).toNat from ?_)
        all_goals omega
    · refine ⟨by simp (disch := omega) only [hA, OK, emaT] <;> omega, [.sl 1 8 0 N none], _, rfl, by simp (disch := omega) only [hA, OK, emaT] <;> (rw [hx, hL]; rfl), rfl, ?_⟩
      with_reducible refine runK hA hd hQ 60 ?hk ?_
      case hk => exact trivial
      conv => arg 8; cbv
      try simp only [OK]
      refine OKs.mask (msk 111 [7, 13, 61, 62, 63, 70, 71]) ?_
      refine OKs.loop (fun s => ∃ (k : Int) (o rest : List EV), s = ⟨mkT 111 [(7, .sl 1 0 0 10 none), (13, .lit (.int .i64 x)), (61, .sl 1 0 0 10 none), (62, .lit (.int .i64 (A.ofn 10))), (63, .lit (.int .i64 x)), (70, .lit (.int .i64 (A.ofn N))), (71, .lit (.int .i64 k))], [.blk L, .blk o0, .blk o1, .blk o2, .blk o3, .blk o4, .blk o5, .blk o6, .blk o, .blk o8, .blk o9]⟩ ∧ 0 ≤ k ∧ k ≤ N ∧ o = List.replicate k.toNat (mkA A x) ++ rest ∧ k.toNat + rest.length = N) (fun s => (N - intN (getT s.t 71)).toNat) (fun s hs ih2 => ?_)
        ⟨0, o7, o7, rfl, by omega, by omega, by simp, by simp; exact k7⟩
      obtain ⟨k, o, rest, rfl, hk0, hk1, ho, hrest⟩ := hs
      have hol : o.length = N := by rw [ho]; simp; omega
      with_reducible refine runS hA hd hQ 60 ?hk ?_
      case hk => exact trivial
      conv => arg 8; cbv
      try simp only [OK]
      refine ⟨fun h2 => ?_, fun h2 => ?_⟩ <;> simp (disch := omega) only [hA, OK, emaT] at h2
      · with_reducible refine runK hA hd hQ 60 ?hk ?_
        case hk => exact trivial
        conv => arg 8; cbv
        try simp only [OK]
        refine ⟨by simp (disch := omega) only [hA, OK, emaT] <;> omega, [.sl 1 8 0 N none], _, rfl, by simp (disch := omega) only [hA, OK, emaT] <;> (rw [hx, hL]; rfl), rfl, ?_⟩
        with_reducible refine runK hA hd hQ 60 ?hk ?_
        case hk => exact trivial
        conv => arg 8; cbv
        try simp only [OK]
        refine ⟨by simp (disch := omega) only [hA, OK, emaT] <;> omega, by simp (disch := omega) only [hA, OK, emaT] <;> omega, ?_⟩
        refine OKs.mask (msk 111 [7, 13, 61, 62, 63, 70, 71]) ?_
        refine ih2 _ ⟨_, _, rest.tail, rfl, ?_, ?_, ?_, ?_⟩ (show (N - A.ib .add .i64 k 1).toNat < (N - k).toNat from ?_)
        · simp (disch := omega) only [hA, OK, emaT] <;> omega
        · simp (disch := omega) only [hA, OK, emaT] <;> omega
        · show A.setl o (A.idx 0 k 1) [mkA A x] = List.replicate (A.ib .add .i64 k 1).toNat (mkA A x) ++ rest.tail
          rw [ho, hA, s_idx, s_add _ _ (by omega) (by omega), show 0 + k.toNat * 1 = k.toNat by omega, set_mark _ _ _ (by omega), show (k + 1).toNat = k.toNat + 1 by omega]
        · rw [List.length_tail]; simp (disch := omega) only [hA, OK, emaT] <;> omega
        · simp (disch := omega) only [hA, OK, emaT] <;> omega
      · with_reducible refine runK hA hd hQ 60 ?hk ?_
        case hk => exact trivial
        conv => arg 8; cbv
        try simp only [OK]
        have hr0 : rest = [] := List.length_eq_zero_iff.1 (by omega)
        have hon : o = List.replicate N (mkA A 7) := by rw [ho, hr0, hx, show k.toNat = N by omega]; simp
        refine OKs.mask (msk 111 [7, 61, 62, 63]) ?_
        have hx2 : A.ib .add .i64 x 1 = 8 := by simp (disch := omega) only [hA, OK, emaT] <;> omega
        refine ih _ ⟨A.ib .add .i64 x 1, _, _, _, _, _, _, _, _, _, _, rfl, ?_, ?_, k0, k1, k2, k3, k4, k5, k6, hol, k8, k9, fun h => m0 (by omega), fun h => m1 (by omega), fun h => m2 (by omega), fun h => m3 (by omega), fun h => m4 (by omega), fun h => m5 (by omega), fun h => m6 (by omega), fun h => hon, fun h => absurd h (by omega), fun h => absurd h (by omega)⟩ (show (10 - A.ib .add .i64 x 1).toNat < (10 - x).toNat from ?_)
        all_goals omega
    · refine ⟨by simp (disch := omega) only [hA, OK, emaT] <;> omega, [.sl 1 9 0 rn none], _, rfl, by simp (disch := omega) only [hA, OK, emaT] <;> (rw [hx, hL]; rfl), rfl, ?_⟩
      with_reducible refine runK hA hd hQ 60 ?hk ?_
      case hk => exact trivial
      conv => arg 8; cbv
      try simp only [OK]
      refine OKs.mask (msk 111 [7, 13, 61, 62, 63, 70, 71]) ?_
      refine OKs.loop (fun s => ∃ (k : Int) (o rest : List EV), s = ⟨mkT 111 [(7, .sl 1 0 0 10 none), (13, .lit (.int .i64 x)), (61, .sl 1 0 0 10 none), (62, .lit (.int .i64 (A.ofn 10))), (63, .lit (.int .i64 x)), (70, .lit (.int .i64 (A.ofn rn))), (71, .lit (.int .i64 k))], [.blk L, .blk o0, .blk o1, .blk o2, .blk o3, .blk o4, .blk o5, .blk o6, .blk o7, .blk o, .blk o9]⟩ ∧ 0 ≤ k ∧ k ≤ rn ∧ o = List.replicate k.toNat (mkA A x) ++ rest ∧ k.toNat + rest.length = rn) (fun s => (rn - intN (getT s.t 71)).toNat) (fun s hs ih2 => ?_)
        ⟨0, o8, o8, rfl, by omega, by omega, by simp, by simp; exact k8⟩
      obtain ⟨k, o, rest, rfl, hk0, hk1, ho, hrest⟩ := hs
      have hol : o.length = rn := by rw [ho]; simp; omega
      with_reducible refine runS hA hd hQ 60 ?hk ?_
      case hk => exact trivial
      conv => arg 8; cbv
      try simp only [OK]
      refine ⟨fun h2 => ?_, fun h2 => ?_⟩ <;> simp (disch := omega) only [hA, OK, emaT] at h2
      · with_reducible refine runK hA hd hQ 60 ?hk ?_
        case hk => exact trivial
        conv => arg 8; cbv
        try simp only [OK]
        refine ⟨by simp (disch := omega) only [hA, OK, emaT] <;> omega, [.sl 1 9 0 rn none], _, rfl, by simp (disch := omega) only [hA, OK, emaT] <;> (rw [hx, hL]; rfl), rfl, ?_⟩
        with_reducible refine runK hA hd hQ 60 ?hk ?_
        case hk => exact trivial
        conv => arg 8; cbv
        try simp only [OK]
        refine ⟨by simp (disch := omega) only [hA, OK, emaT] <;> omega, by simp (disch := omega) only [hA, OK, emaT] <;> omega, ?_⟩
        refine OKs.mask (msk 111 [7, 13, 61, 62, 63, 70, 71]) ?_
        refine ih2 _ ⟨_, _, rest.tail, rfl, ?_, ?_, ?_, ?_⟩ (show (rn - A.ib .add .i64 k 1).toNat < (rn - k).toNat from ?_)
        · simp (disch := omega) only [hA, OK, emaT] <;> omega
        · simp (disch := omega) only [hA, OK, emaT] <;> omega
        · show A.setl o (A.idx 0 k 1) [mkA A x] = List.replicate (A.ib .add .i64 k 1).toNat (mkA A x) ++ rest.tail
          rw [ho, hA, s_idx, s_add _ _ (by omega) (by omega), show 0 + k.toNat * 1 = k.toNat by omega, set_mark _ _ _ (by omega), show (k + 1).toNat = k.toNat + 1 by omega]
        · rw [List.length_tail]; simp (disch := omega) only [hA, OK, emaT] <;> omega
        · simp (disch := omega) only [hA, OK, emaT] <;> omega
      · with_reducible refine runK hA hd hQ 60 ?hk ?_
        case hk => exact trivial
        conv => arg 8; cbv
        try simp only [OK]
        have hr0 : rest = [] := List.length_eq_zero_iff.1 (by omega)
        have hon : o = List.replicate rn (mkA A 8) := by rw [ho, hr0, hx, show k.toNat = rn by omega]; simp
        refine OKs.mask (msk 111 [7, 61, 62, 63]) ?_
        have hx2 : A.ib .add .i64 x 1 = 9 := by simp (disch := omega) only [hA, OK, emaT] <;> omega
        refine ih _ ⟨A.ib .add .i64 x 1, _, _, _, _, _, _, _, _, _, _, rfl, ?_, ?_, k0, k1, k2, k3, k4, k5, k6, k7, hol, k9, fun h => m0 (by omega), fun h => m1 (by omega), fun h => m2 (by omega), fun h => m3 (by omega), fun h => m4 (by omega), fun h => m5 (by omega), fun h => m6 (by omega), fun h => m7 (by omega), fun h => hon, fun h => absurd h (by omega)⟩ (show (10 - A.ib .add .i64 x 1).toNat < (10 - x).toNat from ?_)
        all_goals omega
    · refine ⟨by simp (disch := omega) only [hA, OK, emaT] <;> omega, [.sl 1 10 0 N none], _, rfl, by simp (disch := omega) only [hA, OK, emaT] <;> (rw [hx, hL]; rfl), rfl, ?_⟩
      with_reducible refine runK hA hd hQ 60 ?hk ?_
      case hk => exact trivial
      conv => arg 8; cbv
      try simp only [OK]
      refine OKs.mask (msk 111 [7, 13, 61, 62, 63, 70, 71]) ?_
      refine OKs.loop (fun s => ∃ (k : Int) (o rest : List EV), s = ⟨mkT 111 [(7, .sl 1 0 0 10 none), (13, .lit (.int .i64 x)), (61, .sl 1 0 0 10 none), (62, .lit (.int .i64 (A.ofn 10))), (63, .lit (.int .i64 x)), (70, .lit (.int .i64 (A.ofn N))), (71, .lit (.int .i64 k))], [.blk L, .blk o0, .blk o1, .blk o2, .blk o3, .blk o4, .blk o5, .blk o6, .blk o7, .blk o8, .blk o]⟩ ∧ 0 ≤ k ∧ k ≤ N ∧ o = List.replicate k.toNat (mkA A x) ++ rest ∧ k.toNat + rest.length = N) (fun s => (N - intN (getT s.t 71)).toNat) (fun s hs ih2 => ?_)
        ⟨0, o9, o9, rfl, by omega, by omega, by simp, by simp; exact k9⟩
      obtain ⟨k, o, rest, rfl, hk0, hk1, ho, hrest⟩ := hs
      have hol : o.length = N := by rw [ho]; simp; omega
      with_reducible refine runS hA hd hQ 60 ?hk ?_
      case hk => exact trivial
      conv => arg 8; cbv
      try simp only [OK]
      refine ⟨fun h2 => ?_, fun h2 => ?_⟩ <;> simp (disch := omega) only [hA, OK, emaT] at h2
      · with_reducible refine runK hA hd hQ 60 ?hk ?_
        case hk => exact trivial
        conv => arg 8; cbv
        try simp only [OK]
        refine ⟨by simp (disch := omega) only [hA, OK, emaT] <;> omega, [.sl 1 10 0 N none], _, rfl, by simp (disch := omega) only [hA, OK, emaT] <;> (rw [hx, hL]; rfl), rfl, ?_⟩
        with_reducible refine runK hA hd hQ 60 ?hk ?_
        case hk => exact trivial
        conv => arg 8; cbv
        try simp only [OK]
        refine ⟨by simp (disch := omega) only [hA, OK, emaT] <;> omega, by simp (disch := omega) only [hA, OK, emaT] <;> omega, ?_⟩
        refine OKs.mask (msk 111 [7, 13, 61, 62, 63, 70, 71]) ?_
        refine ih2 _ ⟨_, _, rest.tail, rfl, ?_, ?_, ?_, ?_⟩ (show (N - A.ib .add .i64 k 1).toNat < (N - k).toNat from ?_)
        · simp (disch := omega) only [hA, OK, emaT] <;> omega
        · simp (disch := omega) only [hA, OK, emaT] <;> omega
        · show A.setl o (A.idx 0 k 1) [mkA A x] = List.replicate (A.ib .add .i64 k 1).toNat (mkA A x) ++ rest.tail
          rw [ho, hA, s_idx, s_add _ _ (by omega) (by omega), show 0 + k.toNat * 1 = k.toNat by omega, set_mark _ _ _ (by omega), show (k + 1).toNat = k.toNat + 1 by omega]
        · rw [List.length_tail]; simp (disch := omega) only [hA, OK, emaT] <;> omega
        · simp (disch := omega) only [hA, OK, emaT] <;> omega
      · with_reducible refine runK hA hd hQ 60 ?hk ?_
        case hk => exact trivial
        conv => arg 8; cbv
        try simp only [OK]
        have hr0 : rest = [] := List.length_eq_zero_iff.1 (by omega)
        have hon : o = List.replicate N (mkA A 9) := by rw [ho, hr0, hx, show k.toNat = N by omega]; simp
        refine OKs.mask (msk 111 [7, 61, 62, 63]) ?_
        have hx2 : A.ib .add .i64 x 1 = 10 := by simp (disch := omega) only [hA, OK, emaT] <;> omega
        refine ih _ ⟨A.ib .add .i64 x 1, _, _, _, _, _, _, _, _, _, _, rfl, ?_, ?_, k0, k1, k2, k3, k4, k5, k6, k7, k8, hol, fun h => m0 (by omega), fun h => m1 (by omega), fun h => m2 (by omega), fun h => m3 (by omega), fun h => m4 (by omega), fun h => m5 (by omega), fun h => m6 (by omega), fun h => m7 (by omega), fun h => m8 (by omega), fun h => hon⟩ (show (10 - A.ib .add .i64 x 1).toNat < (10 - x).toNat from ?_)
        all_goals omega
  · clear ih
    with_reducible refine runK hA hd hQ 1 ?hk ?_
    case hk => exact trivial
    conv => arg 8; cbv
    try simp only [OK]
    refine OKs.mask (msk 111 [7]) ?_
    rw [hA] at m0 m1 m2 m3 m4 m5 m6 m7 m8 m9
    exact turns3 hρ hQ N rn hN hrn L hL o0 o1 o2 o3 o4 o5 o6 o7 o8 o9 (m0 (by omega)) (m1 (by omega)) (m2 (by omega)) (m3 (by omega)) (m4 (by omega)) (m5 (by omega)) (m6 (by omega)) (m7 (by omega)) (m8 (by omega)) (m9 (by omega))


theorem turns_run0 : execV [] tab 100000 19 [.lit (.int .i64 0), .lit (.string ⟨#[]⟩), .isl 0 none []] [] = some (.lit (.bool true)) := by kernel_rfl
theorem turns_run1 : execV [] tab 100000 19 [.lit (.int .i64 1), .lit (.string ⟨#[]⟩), .isl 0 none []] [] = some (.lit (.bool true)) := by kernel_rfl
theorem turns_run2 : execV [] tab 100000 19 [.lit (.int .i64 2), .lit (.string ⟨#[]⟩), .isl 0 none []] [] = some (.lit (.bool true)) := by kernel_rfl

theorem pack_ne (how : Int) (hh : 0 ≤ how ∧ how ≤ 2) (b : List Nat) (hb : AllB b) (hl : b.length ≤ 65536) (hne : b ≠ []) : (packL how b).1 ≠ [] := fun h => by
  have h1 := op_pack how hh b hb hl 65536 4 (by omega)
  rw [h] at h1
  have h2 : opL how [] 65536 4 = ([], 0) := by unfold opL; split <;> rfl
  rw [h2] at h1
  exact hne (Prod.mk.inj h1).1.symm

theorem pack_nil (how : Int) : (packL how []).1 = [] := by
  unfold packL
  repeat' split
  all_goals rfl

theorem enc_str {l : List Nat} (h : AllB l) : stdA.enc (strE l) = bytesE l := by
  simp only [stdA, strE, bytesE, List.map_map]
  refine List.map_congr_left fun x hx => ?_
  have := h x hx
  simp only [Function.comp_apply, byteV]
  rw [UInt8.toNat_ofNat_of_lt' (by simpa using this)]

theorem bsz_str (l : List Nat) : stdA.bsz (strE l) = l.length := by
  show (strE l).size = l.length
  simp [strE, ByteArray.size]

/-- A call that hands in no own memory and gives own bytes. -/
theorem Tri.cleanO {P : Program} {G : List (List EV)} {f : FuncId} {args : List EV} {r : List Nat} {e : EV} {h : EH} (ha : clL args = true) (he : clE e = true) (he2 : niE e = true)
    (t : Tri P G f args [] fun v h => v = .tup [outE r, e] ∧ h = outH r) :
    Tri P G f args h fun v h' => (r = [] ∧ v = .tup [.lit (.slice none 0 0), e] ∧ h' = h) ∨ (r ≠ [] ∧ v = .tup [.sl 1 (sizeH h) 0 r.length none, e] ∧ h' = pushH h (.blk (bytesE r))) :=
  Tri.lendO [] (by simp) (fun w I ρ vs hr => by rw [mvL_cl _ _ _ ha] at hr; exact hr) he he2 t

end Go.Proofs.Ytplibngmgebigaa.Press
