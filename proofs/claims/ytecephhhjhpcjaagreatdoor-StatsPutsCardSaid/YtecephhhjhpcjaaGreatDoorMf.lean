/- YtecephhhjhpcjaaGreatDoorMf: the texts St16, St17, St18, St19, St20, brought together. No conditions. -/
import Derived.Test.YtecephhhjhpcjaaGreatDoorMe
section
set_option linter.unusedVariables false
set_option linter.unusedSimpArgs false
-- emaX: s_bat
namespace Go.Proofs.YtecephhhjhpcjaaGreatDoor.Stats
open Go Go.Proofs.YtecephhhjhpcjaaGreatDoor Go.Proofs.YtecephhhjhpcjaaGreatDoor.Em
/-- which of two numbers is the lesser one -/
def sgn (a b : Int) : Int := if a < b then -1 else if b < a then 1 else 0
theorem Tri.valC {P : Program} {G : List (List EV)} {f : FuncId} {args : List EV} {V : EV} (hV : clE V = true) (ha : clL args = true) (t : Tri P G f args [] fun v _ => v = V) (h : EH) : Tri P G f args h fun v h' => v = V ∧ h' = h :=
  Tri.litC (φ := fun v => v = V) (fun v hv => by rw [hv]; exact hV) ha t h
set_option maxHeartbeats 1000000 in
theorem nan64_ok (a : Int) (h : EH) : Tri Tryz.prog gs 114 [.lit (.int .i64 a)] h fun v h' => IsP False v ∧ h' = h := by
  refine Tri.boolC rfl (Tri_of F114_ok fun I0 ρ0 w0 Q hρ hQ => ?_) h
  obtain ⟨A, hA⟩ : ∃ A, A = stdA := ⟨_, rfl⟩
  with_reducible refine runS hA hd hQ 200 ?hk ?_
  case hk => exact trivial
  conv => arg 9; cbv
  try simp only [OK]
  repeat' first
    | (with_reducible refine OKK.loop ?_)
    | (with_reducible refine OKK.again ?_)
    | ((with_reducible refine opt_of (fun hop => ?_) (fun xop hop => ?_)) <;> (try simp (disch := omega) only [hA, OK, emaU, Int.reduceToNat, s_bat] at hop))
    | ((with_reducible refine ⟨fun hbr => ?_, fun hbr => ?_⟩) <;> (try simp (disch := omega) only [hA, OK, emaU, Int.reduceToNat, s_bat, reduceCtorEq] at hbr) <;> (try ((with_reducible exfalso); omega)))
    | ((with_reducible refine runK hA hd hQ 200 ?hk ?_); (case hk => exact trivial); (conv => arg 9; cbv); (try simp only [OK]))
    | ((with_reducible refine need_of ?hn ?_); (case hn => ((simp (disch := omega) only [hA, OK, emaU, Int.reduceToNat, s_bat]) <;> omega)))
    | fail
  all_goals (try (with_reducible refine FinR.self ?_; first | refine FinR.bl rfl ?_ | refine FinR.bs rfl ?_ | refine FinR.blh rfl ?_ rfl | refine FinR.bsh rfl ?_ rfl))
  all_goals (try simp (disch := omega) only [hA, OK, emaU, Int.reduceToNat, s_bat, Bool.false_eq_true, true_iff, false_iff, eq_self, iff_true, iff_false])
  all_goals simp
set_option maxHeartbeats 1000000 in
theorem cmp64_ok (a b : Int) (h : EH) : Tri Tryz.prog gs 92 [.lit (.int .i64 a), .lit (.int .i64 b)] h fun v h' => IsN .i64 (fun n => n = sgn a b) v ∧ h' = h := by
  refine Tri.intC rfl (Tri_of F92_ok fun I0 ρ0 w0 Q hρ hQ => ?_) h
  obtain ⟨A, hA⟩ : ∃ A, A = stdA := ⟨_, rfl⟩
  with_reducible refine runS hA hd hQ 200 ?hk ?_
  case hk => exact trivial
  conv => arg 9; cbv
  try simp only [OK]
  repeat' first
    | (with_reducible refine OKK.loop ?_)
    | (with_reducible refine OKK.again ?_)
    | ((with_reducible refine opt_of (fun hop => ?_) (fun xop hop => ?_)) <;> (try simp (disch := omega) only [hA, OK, emaU, Int.reduceToNat, s_bat] at hop))
    | ((with_reducible refine ⟨fun hbr => ?_, fun hbr => ?_⟩) <;> (try simp (disch := omega) only [hA, OK, emaU, Int.reduceToNat, s_bat, reduceCtorEq] at hbr) <;> (try ((with_reducible exfalso); omega)))
    | ((with_reducible refine runK hA hd hQ 200 ?hk ?_); (case hk => exact trivial); (conv => arg 9; cbv); (try simp only [OK]))
    | ((with_reducible refine need_of ?hn ?_); (case hn => ((simp (disch := omega) only [hA, OK, emaU, Int.reduceToNat, s_bat]) <;> omega)))
    | (refine CallOK.of (goodF_of F114_ok) (Tri.mono (nan64_ok _ _) fun v hh hx => ?_); (obtain ⟨⟨b, hv, hb⟩, he⟩ := hx; subst hv; subst he; cases b <;> simp (disch := omega) only [hA, OK, emaU, Int.reduceToNat, s_bat, Bool.false_eq_true, true_iff, false_iff, eq_self, reduceCtorEq] at hb) <;> (try ((with_reducible exfalso); omega)))
    | fail
  all_goals (try (with_reducible refine FinR.self ?_; first | refine FinR.n rfl ?_ | refine FinR.nh rfl ?_ rfl))
  all_goals (try simp (disch := omega) only [hA, OK, emaU, Int.reduceToNat, s_bat, Bool.false_eq_true, true_iff, false_iff, eq_self, iff_true, iff_false])
  all_goals unfold sgn
  all_goals (repeat' split)
  all_goals omega
set_option maxHeartbeats 1000000 in
theorem nanU_ok (a : Int) (h : EH) : Tri Tryz.prog gs 113 [.lit (.int .u64 a)] h fun v h' => IsP False v ∧ h' = h := by
  refine Tri.boolC rfl (Tri_of F113_ok fun I0 ρ0 w0 Q hρ hQ => ?_) h
  obtain ⟨A, hA⟩ : ∃ A, A = stdA := ⟨_, rfl⟩
  with_reducible refine runS hA hd hQ 200 ?hk ?_
  case hk => exact trivial
  conv => arg 9; cbv
  try simp only [OK]
  repeat' first
    | (with_reducible refine OKK.loop ?_)
    | (with_reducible refine OKK.again ?_)
    | ((with_reducible refine opt_of (fun hop => ?_) (fun xop hop => ?_)) <;> (try simp (disch := omega) only [hA, OK, emaU, Int.reduceToNat, s_bat] at hop))
    | ((with_reducible refine ⟨fun hbr => ?_, fun hbr => ?_⟩) <;> (try simp (disch := omega) only [hA, OK, emaU, Int.reduceToNat, s_bat, reduceCtorEq] at hbr) <;> (try ((with_reducible exfalso); omega)))
    | ((with_reducible refine runK hA hd hQ 200 ?hk ?_); (case hk => exact trivial); (conv => arg 9; cbv); (try simp only [OK]))
    | ((with_reducible refine need_of ?hn ?_); (case hn => ((simp (disch := omega) only [hA, OK, emaU, Int.reduceToNat, s_bat]) <;> omega)))
    | fail
  all_goals (try (with_reducible refine FinR.self ?_; first | refine FinR.bl rfl ?_ | refine FinR.bs rfl ?_ | refine FinR.blh rfl ?_ rfl | refine FinR.bsh rfl ?_ rfl))
  all_goals (try simp (disch := omega) only [hA, OK, emaU, Int.reduceToNat, s_bat, Bool.false_eq_true, true_iff, false_iff, eq_self, iff_true, iff_false])
  all_goals simp
set_option maxHeartbeats 1000000 in
theorem cmpU_ok (a b : Int) (h : EH) : Tri Tryz.prog gs 90 [.lit (.int .u64 a), .lit (.int .u64 b)] h fun v h' => IsN .i64 (fun n => n = sgn a b) v ∧ h' = h := by
  refine Tri.intC rfl (Tri_of F90_ok fun I0 ρ0 w0 Q hρ hQ => ?_) h
  obtain ⟨A, hA⟩ : ∃ A, A = stdA := ⟨_, rfl⟩
  with_reducible refine runS hA hd hQ 200 ?hk ?_
  case hk => exact trivial
  conv => arg 9; cbv
  try simp only [OK]
  repeat' first
    | (with_reducible refine OKK.loop ?_)
    | (with_reducible refine OKK.again ?_)
    | ((with_reducible refine opt_of (fun hop => ?_) (fun xop hop => ?_)) <;> (try simp (disch := omega) only [hA, OK, emaU, Int.reduceToNat, s_bat] at hop))
    | ((with_reducible refine ⟨fun hbr => ?_, fun hbr => ?_⟩) <;> (try simp (disch := omega) only [hA, OK, emaU, Int.reduceToNat, s_bat, reduceCtorEq] at hbr) <;> (try ((with_reducible exfalso); omega)))
    | ((with_reducible refine runK hA hd hQ 200 ?hk ?_); (case hk => exact trivial); (conv => arg 9; cbv); (try simp only [OK]))
    | ((with_reducible refine need_of ?hn ?_); (case hn => ((simp (disch := omega) only [hA, OK, emaU, Int.reduceToNat, s_bat]) <;> omega)))
    | (refine CallOK.of (goodF_of F113_ok) (Tri.mono (nanU_ok _ _) fun v hh hx => ?_); (obtain ⟨⟨b, hv, hb⟩, he⟩ := hx; subst hv; subst he; cases b <;> simp (disch := omega) only [hA, OK, emaU, Int.reduceToNat, s_bat, Bool.false_eq_true, true_iff, false_iff, eq_self, reduceCtorEq] at hb) <;> (try ((with_reducible exfalso); omega)))
    | fail
  all_goals (try (with_reducible refine FinR.self ?_; first | refine FinR.n rfl ?_ | refine FinR.nh rfl ?_ rfl))
  all_goals (try simp (disch := omega) only [hA, OK, emaU, Int.reduceToNat, s_bat, Bool.false_eq_true, true_iff, false_iff, eq_self, iff_true, iff_false])
  all_goals unfold sgn
  all_goals (repeat' split)
  all_goals omega
theorem s_wrU (n : Int) (h1 : 0 ≤ n) (h2 : n ≤ 18446744073709551615) : stdA.wr .u64 n = n := by
  show IntKind.u64.wrap n = n
  simp only [IntKind.wrap, IntKind.signed, IntKind.bits]
  simp
  omega
theorem or_top (n : Int) (h1 : 0 ≤ n) (h2 : n ≤ 9223372036854775807) : stdA.ib .or .u64 (stdA.wr .u64 n) 9223372036854775808 = n + 9223372036854775808 := by
  rw [s_wrU n h1 (by omega)]
  show IntKind.u64.wrap _ = _
  obtain ⟨m, rfl⟩ : ∃ m : Nat, n = m := ⟨n.toNat, by omega⟩
  have e : (BitVec.ofInt IntKind.u64.bits (m : Int) ||| BitVec.ofInt IntKind.u64.bits 9223372036854775808).toNat = m + 9223372036854775808 := by
    have h3 : 9223372036854775808 ||| m = 9223372036854775808 + m := by
      have := Nat.two_pow_add_eq_or_of_lt (i := 63) (b := m) (by omega) 1
      rw [show 2 ^ 63 * 1 = 9223372036854775808 by decide] at this
      exact this.symm
    rw [BitVec.toNat_or]
    have e1 : (BitVec.ofInt IntKind.u64.bits (m : Int)).toNat = m := by
      show (BitVec.ofInt 64 (m : Int)).toNat = m
      rw [BitVec.ofInt_natCast, BitVec.toNat_ofNat]
      exact Nat.mod_eq_of_lt (by omega)
    have e2 : (BitVec.ofInt IntKind.u64.bits 9223372036854775808).toNat = 9223372036854775808 := by decide
    rw [e1, e2, Nat.or_comm, h3]
    omega
  rw [e]
  have := s_wrU ((m + 9223372036854775808 : Nat) : Int) (by omega) (by omega)
  rw [show IntKind.u64.wrap ((m + 9223372036854775808 : Nat) : Int) = stdA.wr .u64 ((m + 9223372036854775808 : Nat) : Int) from rfl, this]
  simp
theorem add_top (n : Int) (h1 : 0 ≤ n) (h2 : n ≤ 9223372036854775807) : stdA.ib .add .u64 (stdA.wr .u64 n) 9223372036854775808 = n + 9223372036854775808 := by
  rw [s_wrU n h1 (by omega)]
  exact s_wrU _ (by omega) (by omega)
/-- a floating-point number's place -/
def placeI (n : Int) : Int := if n < 0 then stdA.xr .u64 (stdA.wr .u64 n) else n + 9223372036854775808
set_option maxHeartbeats 1000000 in
theorem total_ok (n : Int) (hn : i64r n) (h : EH) : Tri Tryz.prog gs 91 [.lit (.int .i64 n)] h fun v h' => IsN .u64 (fun m => m = placeI n) v ∧ h' = h := by
  refine Tri.intC rfl (Tri_of F91_ok fun I0 ρ0 w0 Q hρ hQ => ?_) h
  obtain ⟨A, hA⟩ : ∃ A, A = stdA := ⟨_, rfl⟩
  with_reducible refine runS hA hd hQ 200 ?hk ?_
  case hk => exact trivial
  conv => arg 9; cbv
  try simp only [OK]
  repeat' first
    | (with_reducible refine OKK.loop ?_)
    | (with_reducible refine OKK.again ?_)
    | ((with_reducible refine opt_of (fun hop => ?_) (fun xop hop => ?_)) <;> (try simp (disch := omega) only [hA, OK, emaU, Int.reduceToNat, s_bat] at hop))
    | ((with_reducible refine ⟨fun hbr => ?_, fun hbr => ?_⟩) <;> (try simp (disch := omega) only [hA, OK, emaU, Int.reduceToNat, s_bat, reduceCtorEq] at hbr) <;> (try ((with_reducible exfalso); omega)))
    | ((with_reducible refine runK hA hd hQ 200 ?hk ?_); (case hk => exact trivial); (conv => arg 9; cbv); (try simp only [OK]))
    | ((with_reducible refine need_of ?hn ?_); (case hn => ((simp (disch := omega) only [hA, OK, emaU, Int.reduceToNat, s_bat]) <;> omega)))
    | fail
  · refine FinR.n rfl ?_
    rw [placeI, if_pos hbr, hA]
  · refine FinR.n rfl ?_
    rw [placeI, if_neg hbr, hA]
    exact or_top n (by omega) hn.2
set_option maxHeartbeats 1000000 in
theorem placeR_ok (n : Int) (hn : i64r n) (h : EH) : Tri Tryz.prog gs 69 [.lit (.int .i64 n)] h fun v h' => IsN .u64 (fun m => m = placeI n) v ∧ h' = h := by
  refine Tri.intC rfl (Tri_of F69_ok fun I0 ρ0 w0 Q hρ hQ => ?_) h
  obtain ⟨A, hA⟩ : ∃ A, A = stdA := ⟨_, rfl⟩
  with_reducible refine runS hA hd hQ 200 ?hk ?_
  case hk => exact trivial
  conv => arg 9; cbv
  try simp only [OK]
  repeat' first
    | (with_reducible refine OKK.loop ?_)
    | (with_reducible refine OKK.again ?_)
    | ((with_reducible refine opt_of (fun hop => ?_) (fun xop hop => ?_)) <;> (try simp (disch := omega) only [hA, OK, emaU, Int.reduceToNat, s_bat] at hop))
    | ((with_reducible refine ⟨fun hbr => ?_, fun hbr => ?_⟩) <;> (try simp (disch := omega) only [hA, OK, emaU, Int.reduceToNat, s_bat, reduceCtorEq] at hbr) <;> (try ((with_reducible exfalso); omega)))
    | ((with_reducible refine runK hA hd hQ 200 ?hk ?_); (case hk => exact trivial); (conv => arg 9; cbv); (try simp only [OK]))
    | ((with_reducible refine need_of ?hn ?_); (case hn => ((simp (disch := omega) only [hA, OK, emaU, Int.reduceToNat, s_bat]) <;> omega)))
    | fail
  · refine FinR.n rfl ?_
    rw [placeI, if_pos hbr, hA]
  · refine FinR.n rfl ?_
    rw [placeI, if_neg hbr, hA]
    exact add_top n (by omega) hn.2
set_option maxHeartbeats 1000000 in
theorem sign_ok (a b : Bool) (h : EH) : Tri Tryz.prog gs 68 [.sb a, .sb b] h fun v h' => IsN .i64 (fun m => m = if a then -1 else if b then 1 else 0) v ∧ h' = h := by
  refine Tri.intC rfl (Tri_of F68_ok fun I0 ρ0 w0 Q hρ hQ => ?_) h
  obtain ⟨A, hA⟩ : ∃ A, A = stdA := ⟨_, rfl⟩
  with_reducible refine runS hA hd hQ 200 ?hk ?_
  case hk => exact trivial
  conv => arg 9; cbv
  try simp only [OK]
  repeat' first
    | (with_reducible refine OKK.loop ?_)
    | (with_reducible refine OKK.again ?_)
    | ((with_reducible refine opt_of (fun hop => ?_) (fun xop hop => ?_)) <;> (try simp (disch := omega) only [hA, OK, emaU, Int.reduceToNat, s_bat] at hop))
    | ((with_reducible refine ⟨fun hbr => ?_, fun hbr => ?_⟩) <;> (try simp (disch := omega) only [hA, OK, emaU, Int.reduceToNat, s_bat, reduceCtorEq] at hbr) <;> (try ((with_reducible exfalso); omega)))
    | ((with_reducible refine runK hA hd hQ 200 ?hk ?_); (case hk => exact trivial); (conv => arg 9; cbv); (try simp only [OK]))
    | ((with_reducible refine need_of ?hn ?_); (case hn => ((simp (disch := omega) only [hA, OK, emaU, Int.reduceToNat, s_bat]) <;> omega)))
    | fail
  all_goals (try (with_reducible refine FinR.self ?_; first | refine FinR.n rfl ?_ | refine FinR.nh rfl ?_ rfl))
  all_goals (try simp (disch := omega) only [hA, OK, emaU, Int.reduceToNat, s_bat, Bool.false_eq_true, true_iff, false_iff, eq_self, iff_true, iff_false])
  all_goals (cases a <;> cases b <;> simp_all)
set_option maxHeartbeats 1000000 in
theorem whole_ok (k : Int) (h : EH) : Tri Tryz.prog gs 111 [.lit (.int .i64 k)] h fun v h' => IsP (3 ≤ k ∧ k ≤ 10) v ∧ h' = h := by
  refine Tri.boolC rfl (Tri_of F111_ok fun I0 ρ0 w0 Q hρ hQ => ?_) h
  obtain ⟨A, hA⟩ : ∃ A, A = stdA := ⟨_, rfl⟩
  with_reducible refine runS hA hd hQ 200 ?hk ?_
  case hk => exact trivial
  conv => arg 9; cbv
  try simp only [OK]
  repeat' first
    | (with_reducible refine OKK.loop ?_)
    | (with_reducible refine OKK.again ?_)
    | ((with_reducible refine opt_of (fun hop => ?_) (fun xop hop => ?_)) <;> (try simp (disch := omega) only [hA, OK, emaU, Int.reduceToNat, s_bat] at hop))
    | ((with_reducible refine ⟨fun hbr => ?_, fun hbr => ?_⟩) <;> (try simp (disch := omega) only [hA, OK, emaU, Int.reduceToNat, s_bat, reduceCtorEq] at hbr) <;> (try ((with_reducible exfalso); omega)))
    | ((with_reducible refine runK hA hd hQ 200 ?hk ?_); (case hk => exact trivial); (conv => arg 9; cbv); (try simp only [OK]))
    | ((with_reducible refine need_of ?hn ?_); (case hn => ((simp (disch := omega) only [hA, OK, emaU, Int.reduceToNat, s_bat]) <;> omega)))
    | fail
  all_goals refine ⟨_, rfl, _, (by first | exact .inl rfl | exact .inr rfl), ?_⟩
  all_goals (try simp (disch := omega) only [hA, OK, emaU, Int.reduceToNat, s_bat, Bool.false_eq_true, true_iff, false_iff, eq_self, iff_true, iff_false])
  all_goals first | omega | (simp <;> omega) | (simp_all <;> omega)
/-- a number of a kind -/
def numV (k n : Int) : Prop :=
  if k = 2 then n = 0 ∨ n = 1 else if k = 3 then -128 ≤ n ∧ n ≤ 127 else if k = 4 then -32768 ≤ n ∧ n ≤ 32767 else if k = 5 then -2147483648 ≤ n ∧ n ≤ 2147483647
  else if k = 7 then 0 ≤ n ∧ n ≤ 255 else if k = 8 then 0 ≤ n ∧ n ≤ 65535 else if k = 9 then 0 ≤ n ∧ n ≤ 4294967295 else True
set_option maxHeartbeats 4000000 in
theorem rangedR_ok (k n : Int) (hk : 2 ≤ k ∧ k ≤ 11) (h : EH) : Tri Tryz.prog gs 118 [.lit (.int .i64 k), .lit (.int .i64 n)] h fun v h' => IsP (numV k n) v ∧ h' = h := by
  refine Tri.boolC rfl (Tri_of F118_ok fun I0 ρ0 w0 Q hρ hQ => ?_) h
  obtain ⟨A, hA⟩ : ∃ A, A = stdA := ⟨_, rfl⟩
  with_reducible refine runS hA hd hQ 200 ?hk ?_
  case hk => exact trivial
  conv => arg 9; cbv
  try simp only [OK]
  repeat' first
    | (with_reducible refine OKK.loop ?_)
    | (with_reducible refine OKK.again ?_)
    | ((with_reducible refine opt_of (fun hop => ?_) (fun xop hop => ?_)) <;> (try simp (disch := omega) only [hA, OK, emaU, Int.reduceToNat, s_bat] at hop))
    | ((with_reducible refine ⟨fun hbr => ?_, fun hbr => ?_⟩) <;> (try simp (disch := omega) only [hA, OK, emaU, Int.reduceToNat, s_bat, reduceCtorEq] at hbr) <;> (try ((with_reducible exfalso); omega)))
    | ((with_reducible refine runK hA hd hQ 200 ?hk ?_); (case hk => exact trivial); (conv => arg 9; cbv); (try simp only [OK]))
    | ((with_reducible refine need_of ?hn ?_); (case hn => ((simp (disch := omega) only [hA, OK, emaU, Int.reduceToNat, s_bat]) <;> omega)))
    | fail
  all_goals (try (with_reducible refine FinR.self ?_; first | refine FinR.bl rfl ?_ | refine FinR.bs rfl ?_ | refine FinR.blh rfl ?_ rfl | refine FinR.bsh rfl ?_ rfl))
  all_goals (try simp (disch := omega) only [hA, OK, emaU, Int.reduceToNat, s_bat, Bool.false_eq_true, true_iff, false_iff, eq_self, iff_true, iff_false])
  all_goals unfold numV
  all_goals (repeat' split)
  all_goals first | omega | trivial
/-- how many bits a kind has -/
def bitsK (k : Int) : Int := if k = 3 ∨ k = 7 then 8 else if k = 4 ∨ k = 8 then 16 else if k = 5 ∨ k = 9 then 32 else 64
set_option maxHeartbeats 4000000 in
theorem sized_ok (k : Int) (hk : 3 ≤ k ∧ k ≤ 10) (h : EH) : Tri Tryz.prog gs 129 [.lit (.int .i64 k)] h fun v h' => (∃ b : Bool, (v = .tup [.lit (.int .i64 (bitsK k)), .lit (.bool b)]) ∧ (b = true ↔ k ≤ 6)) ∧ h' = h := by
  refine Tri.litC (φ := fun v => ∃ b : Bool, (v = .tup [.lit (.int .i64 (bitsK k)), .lit (.bool b)]) ∧ (b = true ↔ k ≤ 6)) (fun v ⟨b, hv, _⟩ => by rw [hv]; rfl) rfl (Tri_of F129_ok fun I0 ρ0 w0 Q hρ hQ => ?_) h
  obtain ⟨A, hA⟩ : ∃ A, A = stdA := ⟨_, rfl⟩
  have hc : k = 3 ∨ k = 4 ∨ k = 5 ∨ k = 6 ∨ k = 7 ∨ k = 8 ∨ k = 9 ∨ k = 10 := by omega
  have hs1 : k ≤ 6 → A.sh .shl .i64 8 (A.ib .sub .i64 k 3) = bitsK k := fun h => by
    rw [hA]; rcases hc with rfl | rfl | rfl | rfl | rfl | rfl | rfl | rfl <;> first | rfl | omega
  have hs2 : ¬ k ≤ 6 → A.sh .shl .i64 8 (A.ib .sub .i64 k 7) = bitsK k := fun h => by
    rw [hA]; rcases hc with rfl | rfl | rfl | rfl | rfl | rfl | rfl | rfl <;> first | rfl | omega
  with_reducible refine runS hA hd hQ 200 ?hk ?_
  case hk => exact trivial
  conv => arg 9; cbv
  try simp only [OK]
  repeat' first
    | (with_reducible refine OKK.loop ?_)
    | (with_reducible refine OKK.again ?_)
    | ((with_reducible refine opt_of (fun hop => ?_) (fun xop hop => ?_)) <;> (try simp (disch := omega) only [hA, OK, emaU, Int.reduceToNat, s_bat] at hop))
    | ((with_reducible refine ⟨fun hbr => ?_, fun hbr => ?_⟩) <;> (try simp (disch := omega) only [hA, OK, emaU, Int.reduceToNat, s_bat, reduceCtorEq] at hbr) <;> (try ((with_reducible exfalso); omega)))
    | ((with_reducible refine runK hA hd hQ 200 ?hk ?_); (case hk => exact trivial); (conv => arg 9; cbv); (try simp only [OK]))
    | ((with_reducible refine need_of ?hn ?_); (case hn => ((simp (disch := omega) only [hA, OK, emaU, Int.reduceToNat, s_bat]) <;> omega)))
    | fail
  · exact FinR.intro rfl ⟨true, by rw [← hs1 (by omega)]; rfl, by simp; omega⟩
  · exact FinR.intro rfl ⟨false, by rw [← hs2 (by omega)]; rfl, by simp; omega⟩
set_option maxHeartbeats 4000000 in
theorem ranged_ok (k n : Int) (hk : 3 ≤ k ∧ k ≤ 10) (hn : i64r n) (h : EH) : Tri Tryz.prog gs 112 [.lit (.int .i64 k), .lit (.int .i64 n)] h fun v h' => IsP (numV k n) v ∧ h' = h := by
  refine Tri.boolC rfl (Tri_of F112_ok fun I0 ρ0 w0 Q hρ hQ => ?_) h
  obtain ⟨A, hA⟩ : ∃ A, A = stdA := ⟨_, rfl⟩
  with_reducible refine runS hA hd hQ 200 ?hk ?_
  case hk => exact trivial
  conv => arg 9; cbv
  try simp only [OK]
  repeat' first
    | (with_reducible refine OKK.loop ?_)
    | (with_reducible refine OKK.again ?_)
    | ((with_reducible refine opt_of (fun hop => ?_) (fun xop hop => ?_)) <;> (try simp (disch := omega) only [hA, OK, emaU, Int.reduceToNat, s_bat] at hop))
    | ((with_reducible refine ⟨fun hbr => ?_, fun hbr => ?_⟩) <;> (try simp (disch := omega) only [hA, OK, emaU, Int.reduceToNat, s_bat, reduceCtorEq] at hbr) <;> (try ((with_reducible exfalso); omega)))
    | ((with_reducible refine runK hA hd hQ 200 ?hk ?_); (case hk => exact trivial); (conv => arg 9; cbv); (try simp only [OK]))
    | ((with_reducible refine need_of ?hn ?_); (case hn => ((simp (disch := omega) only [hA, OK, emaU, Int.reduceToNat, s_bat]) <;> omega)))
    | fail
  refine CallOK.of (goodF_of F129_ok) (Tri.mono (sized_ok k hk _) fun v hh hx => ?_)
  obtain ⟨⟨b, hv, hb⟩, hh'⟩ := hx
  subst hv; subst hh'
  obtain ⟨B, hB⟩ : ∃ B, B = bitsK k := ⟨_, rfl⟩
  rw [← hB]
  have hc : k = 3 ∨ k = 4 ∨ k = 5 ∨ k = 6 ∨ k = 7 ∨ k = 8 ∨ k = 9 ∨ k = 10 := by omega
  have hs1 : B ≠ 64 → k ≤ 6 → A.sh .shl .i64 1 (A.ib .sub .i64 B 1) = (if k = 3 then 128 else if k = 4 then 32768 else 2147483648) := fun h0 h => by
    rw [hA, hB]; rw [hB] at h0; rcases hc with rfl | rfl | rfl | rfl | rfl | rfl | rfl | rfl <;> first | rfl | omega | exact absurd rfl h0
  have hs0 : B ≠ 64 → k ≤ 6 → A.sh .shl .i64 (-1) (A.ib .sub .i64 B 1) = (if k = 3 then -128 else if k = 4 then -32768 else -2147483648) := fun h0 h => by
    rw [hA, hB]; rw [hB] at h0; rcases hc with rfl | rfl | rfl | rfl | rfl | rfl | rfl | rfl <;> first | rfl | omega | exact absurd rfl h0
  have hs2 : B ≠ 64 → ¬ k ≤ 6 → A.sh .shl .i64 1 B = (if k = 7 then 256 else if k = 8 then 65536 else 4294967296) := fun h0 h => by
    rw [hA, hB]; rw [hB] at h0; rcases hc with rfl | rfl | rfl | rfl | rfl | rfl | rfl | rfl <;> first | rfl | omega | exact absurd rfl h0
  have hnn : 0 ≤ B - 1 ∧ 0 ≤ B ∧ B ≤ 64 := by rw [hB]; rcases hc with rfl | rfl | rfl | rfl | rfl | rfl | rfl | rfl <;> decide
  have hfin : B = 64 → numV k n := fun h => by rw [hB] at h; rcases hc with rfl | rfl | rfl | rfl | rfl | rfl | rfl | rfl <;> first | exact trivial | exact absurd h (by decide)
  have h64 : B ≠ 64 → k ≠ 6 ∧ k ≠ 10 := fun h => by rw [hB] at h; rcases hc with rfl | rfl | rfl | rfl | rfl | rfl | rfl | rfl <;> first | decide | exact absurd rfl h
  obtain ⟨X1, hX1⟩ : ∃ X : Int, X = if k = 3 then 128 else if k = 4 then 32768 else 2147483648 := ⟨_, rfl⟩
  obtain ⟨X0, hX0⟩ : ∃ X : Int, X = if k = 3 then -128 else if k = 4 then -32768 else -2147483648 := ⟨_, rfl⟩
  obtain ⟨X2, hX2⟩ : ∃ X : Int, X = if k = 7 then 256 else if k = 8 then 65536 else 4294967296 := ⟨_, rfl⟩
  rw [← hX1] at hs1; rw [← hX0] at hs0; rw [← hX2] at hs2
  rw [hA] at hs1 hs0 hs2
  rw [s_sub _ _ (by omega) (by omega)] at hs1 hs0
  have hb1 : b = true → k ≤ 6 := hb.1
  have hb2 : b = false → ¬ k ≤ 6 := fun h h2 => by rw [hb.2 h2] at h; cases h
  clear hb
  with_reducible refine runK hA hd hQ 1 ?hk ?_
  case hk => exact trivial
  conv => arg 9; cbv
  try simp only [OK]
  cases b
  · have hk6 := hb2 rfl
    repeat' first
      | (with_reducible refine OKK.loop ?_)
      | (with_reducible refine OKK.again ?_)
      | ((with_reducible refine opt_of (fun hop => ?_) (fun xop hop => ?_)) <;> (try simp (disch := omega) only [hA, OK, emaU, Int.reduceToNat, s_bat , hs1, hs0, hs2] at hop))
      | ((with_reducible refine ⟨fun hbr => ?_, fun hbr => ?_⟩) <;> (try simp (disch := omega) only [hA, OK, emaU, Int.reduceToNat, s_bat, reduceCtorEq , hs1, hs0, hs2] at hbr) <;> (try ((with_reducible exfalso); omega)))
      | ((with_reducible refine runK hA hd hQ 200 ?hk ?_); (case hk => exact trivial); (conv => arg 9; cbv); (try simp only [OK]))
      | ((with_reducible refine need_of ?hn ?_); (case hn => ((simp (disch := omega) only [hA, OK, emaU, Int.reduceToNat, s_bat , hs1, hs0, hs2]) <;> omega)))
      | fail
    all_goals (try (with_reducible refine FinR.self ?_; first | refine FinR.bl rfl ?_ | refine FinR.bs rfl ?_ | refine FinR.blh rfl ?_ rfl | refine FinR.bsh rfl ?_ rfl))
    all_goals (try simp (disch := omega) only [hA, OK, emaU, Int.reduceToNat, s_bat, Bool.false_eq_true, true_iff, false_iff, eq_self, iff_true, iff_false , hs1, hs0, hs2])
    · exact hfin hbr
    all_goals have h6 := h64 (by assumption)
    all_goals unfold numV
    all_goals (repeat' split at hX2)
    all_goals (repeat' split)
    all_goals omega
  · have hk6 := hb1 rfl
    repeat' first
      | (with_reducible refine OKK.loop ?_)
      | (with_reducible refine OKK.again ?_)
      | ((with_reducible refine opt_of (fun hop => ?_) (fun xop hop => ?_)) <;> (try simp (disch := omega) only [hA, OK, emaU, Int.reduceToNat, s_bat , hs1, hs0, hs2] at hop))
      | ((with_reducible refine ⟨fun hbr => ?_, fun hbr => ?_⟩) <;> (try simp (disch := omega) only [hA, OK, emaU, Int.reduceToNat, s_bat, reduceCtorEq , hs1, hs0, hs2] at hbr) <;> (try ((with_reducible exfalso); omega)))
      | ((with_reducible refine runK hA hd hQ 200 ?hk ?_); (case hk => exact trivial); (conv => arg 9; cbv); (try simp only [OK]))
      | ((with_reducible refine need_of ?hn ?_); (case hn => ((simp (disch := omega) only [hA, OK, emaU, Int.reduceToNat, s_bat , hs1, hs0, hs2]) <;> omega)))
      | fail
    all_goals (try (with_reducible refine FinR.self ?_; first | refine FinR.bl rfl ?_ | refine FinR.bs rfl ?_ | refine FinR.blh rfl ?_ rfl | refine FinR.bsh rfl ?_ rfl))
    all_goals (try simp (disch := omega) only [hA, OK, emaU, Int.reduceToNat, s_bat, Bool.false_eq_true, true_iff, false_iff, eq_self, iff_true, iff_false , hs1, hs0, hs2])
    · exact hfin hbr
    all_goals have h6 := h64 (by assumption)
    all_goals unfold numV
    all_goals (repeat' split at hX1)
    all_goals (repeat' split at hX0)
    all_goals (repeat' split)
    all_goals omega
end Go.Proofs.YtecephhhjhpcjaaGreatDoor.Stats
end
section
set_option linter.unusedVariables false
set_option linter.unusedSimpArgs false
-- emaX: s_bat
namespace Go.Proofs.YtecephhhjhpcjaaGreatDoor.Stats
open Go Go.Proofs.YtecephhhjhpcjaaGreatDoor Go.Proofs.YtecephhhjhpcjaaGreatDoor.Em
/-- a field of a kind alone -/
def fldK (k : Int) : Fld := .mk ⟨#[97]⟩ false k 0 0 0 []
theorem nameA : nameP ⟨#[97]⟩ := ⟨by decide, by decide, fun i hi => by
  have : i = 0 := by have : (⟨#[97]⟩ : ByteArray).size = 1 := rfl; omega
  subst this
  exact .inl ⟨by decide, by decide⟩, by decide⟩
theorem mayK (k : Int) (hk : 2 ≤ k ∧ k ≤ 13) : mayF (fldK k) := by
  refine ⟨by simp, by simp, by simp, ?_⟩
  simp only [nodesFs, nodesF, fldK, allN, List.append_nil, List.length_nil, ite_self, List.nil_append]
  refine ⟨by simp, ⟨by simp, nameA, by simp, ?_, ?_, by simp, ?_⟩, trivial⟩
  · refine ⟨by show 1 ≤ k; omega, by show k ≤ 20; omega, ?_⟩
    simp only [kind_mk, width_mk, id_mk, idx_mk, kids_mk, List.length_nil]
    rw [if_neg (by omega), if_neg (by omega), if_neg (by omega), if_neg (by omega), if_neg (by omega), if_neg (by omega)]
    simp
  · exact ⟨fun h => by simp only [kind_mk] at h; omega, fun _ => rfl, fun h => by simp only [kind_mk] at h; omega⟩
  · rintro ⟨h, _⟩
    simp only [kind_mk] at h; omega
def cellsK (k : Int) : List EV := [.lit (.string ⟨#[97]⟩), .lit (.bool false), .lit (.int .i64 k), .lit (.int .i64 0), .lit (.int .i64 0), .lit (.int .i64 0), .isl 0 none []]
set_option maxHeartbeats 2000000 in
theorem may_ok (k : Int) (hk : 2 ≤ k ∧ k ≤ 13) (h : EH) : Tri Tryz.prog gs 64 [.agg (cellsK k)] h fun v h' => IsP True v ∧ h' = h := by
  have hc := checkField_ok (fldK k) ⟨by decide, ⟨by omega, by omega⟩, ⟨by omega, by omega⟩, ⟨by omega, by omega⟩, ⟨by omega, by omega⟩, by simp, trivial⟩
  have hm := mayK k hk
  rw [show cellsF (fldK k) = cellsK k from rfl] at hc
  refine Tri.boolC rfl (Tri_of F64_ok fun I0 ρ0 w0 Q hρ hQ => ?_) h
  obtain ⟨A, hA⟩ : ∃ A, A = stdA := ⟨_, rfl⟩
  unfold cellsK at hc ⊢
  with_reducible refine runS hA hd hQ 200 ?hk ?_
  case hk => exact trivial
  conv => arg 9; cbv
  try simp only [OK]
  repeat' first
    | (with_reducible refine OKK.loop ?_)
    | (with_reducible refine OKK.again ?_)
    | ((with_reducible refine opt_of (fun hop => ?_) (fun xop hop => ?_)) <;> (try simp (disch := omega) only [hA, OK, emaU, Int.reduceToNat, s_bat] at hop))
    | ((with_reducible refine ⟨fun hbr => ?_, fun hbr => ?_⟩) <;> (try simp (disch := omega) only [hA, OK, emaU, Int.reduceToNat, s_bat, reduceCtorEq] at hbr) <;> (try ((with_reducible exfalso); omega)))
    | ((with_reducible refine runK hA hd hQ 200 ?hk ?_); (case hk => exact trivial); (conv => arg 9; cbv); (try simp only [OK]))
    | ((with_reducible refine need_of ?hn ?_); (case hn => ((simp (disch := omega) only [hA, OK, emaU, Int.reduceToNat, s_bat]) <;> omega)))
    | fail
  refine CallOK.of (goodF_of F15_ok) (Tri.mono (hc _) fun v hh hx => ?_)
  obtain ⟨⟨e, at', pn, pc, hv, he⟩, hh'⟩ := hx
  subst hv; subst hh'
  with_reducible refine runK hA hd hQ 1 ?hk ?_
  case hk => exact trivial
  conv => arg 9; cbv
  try simp only [OK]
  repeat' first
    | (with_reducible refine OKK.loop ?_)
    | (with_reducible refine OKK.again ?_)
    | ((with_reducible refine opt_of (fun hop => ?_) (fun xop hop => ?_)) <;> (try simp (disch := omega) only [hA, OK, emaU, Int.reduceToNat, s_bat] at hop))
    | ((with_reducible refine ⟨fun hbr => ?_, fun hbr => ?_⟩) <;> (try simp (disch := omega) only [hA, OK, emaU, Int.reduceToNat, s_bat, reduceCtorEq] at hbr) <;> (try ((with_reducible exfalso); omega)))
    | ((with_reducible refine runK hA hd hQ 200 ?hk ?_); (case hk => exact trivial); (conv => arg 9; cbv); (try simp only [OK]))
    | ((with_reducible refine need_of ?hn ?_); (case hn => ((simp (disch := omega) only [hA, OK, emaU, Int.reduceToNat, s_bat]) <;> omega)))
    | fail
  all_goals (try (with_reducible refine FinR.self ?_; first | refine FinR.bl rfl ?_ | refine FinR.bs rfl ?_ | refine FinR.blh rfl ?_ rfl | refine FinR.bsh rfl ?_ rfl))
  all_goals (try simp (disch := omega) only [hA, OK, emaU, Int.reduceToNat, s_bat, Bool.false_eq_true, true_iff, false_iff, eq_self, iff_true, iff_false])
  all_goals exact he.2 hm
set_option maxRecDepth 100000 in
set_option maxHeartbeats 8000000 in
theorem fits_num (k n : Int) (t : ByteArray) (c : List EV) (hk : 2 ≤ k ∧ k ≤ 11) (hn : i64r n) (ht : t.size ≤ 140737488351232) :
    Tri Tryz.prog gs 89 [.ptr 0 0, .agg (cellsK k), .agg [.lit (.bool false), .lit (.int .i64 n), .lit (.string t), .isl 0 none c]] [.blk [.lit (.int .i64 4194304)]] fun v _ => IsP (t.size = 0 ∧ numV k n) v := by
  refine Tri.up (R := fun v _ => ∃ b : Bool, (v = .lit (.bool b) ∨ v = .sb b) ∧ (b = true ↔ t.size = 0 ∧ numV k n)) ?_ fun v h' ⟨b, hv, hb⟩ => ⟨.sb b, ⟨b, rfl, hb⟩, by rcases hv with rfl | rfl; exact Up.sb _; exact Up.refl _⟩
  refine Tri_of F89_ok fun I0 ρ0 w0 Q hρ hQ => ?_
  obtain ⟨A, hA⟩ : ∃ A, A = stdA := ⟨_, rfl⟩
  unfold cellsK
  have hemp := emp_iff t
  with_reducible refine runS hA hd hQ 200 ?hk ?_
  case hk => exact trivial
  conv => arg 9; cbv
  try simp only [OK]
  repeat' first
    | (with_reducible refine OKK.loop ?_)
    | (with_reducible refine OKK.again ?_)
    | ((with_reducible refine opt_of (fun hop => ?_) (fun xop hop => ?_)) <;> (try simp (disch := omega) only [hA, OK, emaU, Int.reduceToNat, s_bat] at hop))
    | ((with_reducible refine ⟨fun hbr => ?_, fun hbr => ?_⟩) <;> (try simp (disch := omega) only [hA, OK, emaU, Int.reduceToNat, s_bat, reduceCtorEq] at hbr) <;> (try ((with_reducible exfalso); omega)))
    | ((with_reducible refine runK hA hd hQ 200 ?hk ?_); (case hk => exact trivial); (conv => arg 9; cbv); (try simp only [OK]))
    | ((with_reducible refine need_of ?hn ?_); (case hn => ((simp (disch := omega) only [hA, OK, emaU, Int.reduceToNat, s_bat]) <;> omega)))
    | (refine CallOK.of (goodF_of F111_ok) (Tri.mono (whole_ok _ _) fun v hh hx => ?_); (obtain ⟨⟨b, hv, hb⟩, he⟩ := hx; subst hv; subst he; cases b <;> simp (disch := omega) only [hA, OK, emaU, Int.reduceToNat, s_bat, Bool.false_eq_true, true_iff, false_iff, eq_self, reduceCtorEq] at hb) <;> (try ((with_reducible exfalso); omega)))
    | (refine CallOK.of (goodF_of F112_ok) (Tri.mono (ranged_ok k n (by omega) hn _) fun v hh hx => ?_); (obtain ⟨⟨b, hv, hb⟩, he⟩ := hx; subst hv; subst he; cases b <;> simp (disch := omega) only [hA, OK, emaU, Int.reduceToNat, s_bat, Bool.false_eq_true, true_iff, false_iff, eq_self, reduceCtorEq] at hb) <;> (try ((with_reducible exfalso); omega)))
    | fail
  all_goals (try (with_reducible refine FinR.self ?_; first | refine FinR.bl rfl ?_ | refine FinR.bs rfl ?_ | refine FinR.blh rfl ?_ rfl | refine FinR.bsh rfl ?_ rfl))
  all_goals (try simp (disch := omega) only [hA, OK, emaU, Int.reduceToNat, s_bat, Bool.false_eq_true, true_iff, false_iff, eq_self, iff_true, iff_false])
  all_goals first
    | exact fun h => by have := h.1; omega
    | exact fun h => absurd (hemp.2 h.1) (by assumption)
    | (have h0 : t.size = 0 := hemp.1 (Classical.byContradiction (by assumption))
       first
        | exact ⟨h0, by assumption⟩
        | exact fun h => absurd h.2 (by assumption)
        | exact ⟨h0, by unfold numV; rw [if_pos (by assumption)]; exact .inl (by assumption)⟩
        | exact ⟨fun h => ⟨h0, by unfold numV; rw [if_pos (by assumption)]; exact .inr h⟩, fun h => by have := h.2; unfold numV at this; rw [if_pos (by assumption)] at this; omega⟩
        | exact ⟨h0, by rw [show k = 11 by assumption]; simp [numV]⟩)
set_option maxHeartbeats 2000000 in
theorem good_num (k n : Int) (t : ByteArray) (c : List EV) (hk : 2 ≤ k ∧ k ≤ 11) (hn : i64r n) (ht : t.size ≤ 140737488351232) (h : EH) :
    Tri Tryz.prog gs 65 [.agg (cellsK k), .agg [.lit (.bool false), .lit (.int .i64 n), .lit (.string t), .isl 0 none c]] h fun v h' => IsP (t.size = 0 ∧ numV k n) v ∧ h' = h := by
  refine Tri.boolC rfl (Tri_of F65_ok fun I0 ρ0 w0 Q hρ hQ => ?_) h
  obtain ⟨A, hA⟩ : ∃ A, A = stdA := ⟨_, rfl⟩
  have hf := fits_num k n t c hk hn ht
  unfold cellsK at hf ⊢
  with_reducible refine runS hA hd hQ 200 ?hk ?_
  case hk => exact trivial
  conv => arg 9; cbv
  try simp only [OK]
  repeat' first
    | (with_reducible refine OKK.loop ?_)
    | (with_reducible refine OKK.again ?_)
    | ((with_reducible refine opt_of (fun hop => ?_) (fun xop hop => ?_)) <;> (try simp (disch := omega) only [hA, OK, emaU, Int.reduceToNat, s_bat] at hop))
    | ((with_reducible refine ⟨fun hbr => ?_, fun hbr => ?_⟩) <;> (try simp (disch := omega) only [hA, OK, emaU, Int.reduceToNat, s_bat, reduceCtorEq] at hbr) <;> (try ((with_reducible exfalso); omega)))
    | ((with_reducible refine runK hA hd hQ 200 ?hk ?_); (case hk => exact trivial); (conv => arg 9; cbv); (try simp only [OK]))
    | ((with_reducible refine need_of ?hn ?_); (case hn => ((simp (disch := omega) only [hA, OK, emaU, Int.reduceToNat, s_bat]) <;> omega)))
    | fail
  refine CallOK.of (goodF_of F89_ok) (Tri.mono (Tri.sub [2] [] ⟨by decide, by simp [sizeH], by simp⟩ (by simp) hf (.inl rfl)) fun v hh hx => ?_)
  obtain ⟨v0, h0, ⟨b, hv0, hb⟩, hv, hh'⟩ := hx
  subst hv0; subst hv
  clear hh'
  with_reducible refine runK hA hd hQ 1 ?hk ?_
  case hk => exact trivial
  conv => arg 9; cbv
  try simp only [OK]
  repeat' first
    | (with_reducible refine OKK.loop ?_)
    | (with_reducible refine OKK.again ?_)
    | ((with_reducible refine opt_of (fun hop => ?_) (fun xop hop => ?_)) <;> (try simp (disch := omega) only [hA, OK, emaU, Int.reduceToNat, s_bat] at hop))
    | ((with_reducible refine ⟨fun hbr => ?_, fun hbr => ?_⟩) <;> (try simp (disch := omega) only [hA, OK, emaU, Int.reduceToNat, s_bat, reduceCtorEq] at hbr) <;> (try ((with_reducible exfalso); omega)))
    | ((with_reducible refine runK hA hd hQ 200 ?hk ?_); (case hk => exact trivial); (conv => arg 9; cbv); (try simp only [OK]))
    | ((with_reducible refine need_of ?hn ?_); (case hn => ((simp (disch := omega) only [hA, OK, emaU, Int.reduceToNat, s_bat]) <;> omega)))
    | fail
  all_goals (try (with_reducible refine FinR.self ?_; first | refine FinR.bl rfl ?_ | refine FinR.bs rfl ?_ | refine FinR.blh rfl ?_ rfl | refine FinR.bsh rfl ?_ rfl))
  all_goals (try simp (disch := omega) only [hA, OK, emaU, Int.reduceToNat, s_bat, Bool.false_eq_true, true_iff, false_iff, eq_self, iff_true, iff_false])
  all_goals exact hb
set_option maxRecDepth 100000 in
set_option maxHeartbeats 2000000 in
theorem fitsV_num (k n : Int) (t : ByteArray) (c : List EV) (hk : 2 ≤ k ∧ k ≤ 11) (hn : i64r n) (ht : t.size ≤ 140737488351232) (h : EH) :
    Tri Tryz.prog gs 62 [.agg (cellsK k), .agg [.lit (.bool false), .lit (.int .i64 n), .lit (.string t), .isl 0 none c]] h fun v h' => IsN .i64 (fun e => e = 0 ↔ t.size = 0 ∧ numV k n) v ∧ h' = h := by
  refine Tri.intC rfl (Tri_of F62_ok fun I0 ρ0 w0 Q hρ hQ => ?_) h
  obtain ⟨A, hA⟩ : ∃ A, A = stdA := ⟨_, rfl⟩
  have hg := good_num k n t c hk hn ht
  have hm := may_ok k (by omega)
  unfold cellsK at hg hm ⊢
  with_reducible refine runS hA hd hQ 200 ?hk ?_
  case hk => exact trivial
  conv => arg 9; cbv
  try simp only [OK]
  repeat' first
    | (with_reducible refine OKK.loop ?_)
    | (with_reducible refine OKK.again ?_)
    | ((with_reducible refine opt_of (fun hop => ?_) (fun xop hop => ?_)) <;> (try simp (disch := omega) only [hA, OK, emaU, Int.reduceToNat, s_bat] at hop))
    | ((with_reducible refine ⟨fun hbr => ?_, fun hbr => ?_⟩) <;> (try simp (disch := omega) only [hA, OK, emaU, Int.reduceToNat, s_bat, reduceCtorEq] at hbr) <;> (try ((with_reducible exfalso); omega)))
    | ((with_reducible refine runK hA hd hQ 200 ?hk ?_); (case hk => exact trivial); (conv => arg 9; cbv); (try simp only [OK]))
    | ((with_reducible refine need_of ?hn ?_); (case hn => ((simp (disch := omega) only [hA, OK, emaU, Int.reduceToNat, s_bat]) <;> omega)))
    | (refine CallOK.of (goodF_of F64_ok) (Tri.mono (hm _) fun v hh hx => ?_); (obtain ⟨⟨b, hv, hb⟩, he⟩ := hx; subst hv; subst he; cases b <;> simp (disch := omega) only [hA, OK, emaU, Int.reduceToNat, s_bat, Bool.false_eq_true, true_iff, false_iff, eq_self, reduceCtorEq] at hb) <;> (try ((with_reducible exfalso); omega)))
    | (refine CallOK.of (goodF_of F65_ok) (Tri.mono (hg _) fun v hh hx => ?_); (obtain ⟨⟨b, hv, hb⟩, he⟩ := hx; subst hv; subst he; cases b <;> simp (disch := omega) only [hA, OK, emaU, Int.reduceToNat, s_bat, Bool.false_eq_true, true_iff, false_iff, eq_self, reduceCtorEq] at hb) <;> (try ((with_reducible exfalso); omega)))
    | fail
  all_goals (try (with_reducible refine FinR.self ?_; first | refine FinR.n rfl ?_ | refine FinR.nh rfl ?_ rfl))
  all_goals (try simp (disch := omega) only [hA, OK, emaU, Int.reduceToNat, s_bat, Bool.false_eq_true, true_iff, false_iff, eq_self, iff_true, iff_false])
  all_goals first
    | exact absurd trivial (by assumption)
    | exact ⟨fun h => absurd h (by decide), fun h => absurd h (by assumption)⟩
    | assumption
/-- how two values of a plain kind stand -/
def ordN (k a b : Int) : Int := if k = 10 then sgn (stdA.wr .u64 a) (stdA.wr .u64 b) else if k = 11 then sgn (placeI a) (placeI b) else sgn a b
set_option maxRecDepth 100000 in
set_option maxHeartbeats 8000000 in
theorem orderV_num (k a b : Int) (t u : ByteArray) (c d : List EV) (hk : 2 ≤ k ∧ k ≤ 11) (ha : i64r a) (hb0 : i64r b) (h : EH) :
    Tri Tryz.prog gs 66 [.agg (cellsK k), .agg [.lit (.bool false), .lit (.int .i64 a), .lit (.string t), .isl 0 none c], .agg [.lit (.bool false), .lit (.int .i64 b), .lit (.string u), .isl 0 none d]] h fun v h' => IsN .i64 (fun e => e = ordN k a b) v ∧ h' = h := by
  refine Tri.intC rfl (Tri_of F66_ok fun I0 ρ0 w0 Q hρ hQ => ?_) h
  obtain ⟨A, hA⟩ : ∃ A, A = stdA := ⟨_, rfl⟩
  unfold cellsK
  with_reducible refine runS hA hd hQ 200 ?hk ?_
  case hk => exact trivial
  conv => arg 9; cbv
  try simp only [OK]
  repeat' first
    | (with_reducible refine OKK.loop ?_)
    | (with_reducible refine OKK.again ?_)
    | (with_reducible refine And.intro trivial ?_)
    | ((with_reducible refine opt_of (fun hop => ?_) (fun xop hop => ?_)) <;> (try simp (disch := omega) only [hA, OK, emaU, Int.reduceToNat, s_bat] at hop))
    | ((with_reducible refine ⟨fun hbr => ?_, fun hbr => ?_⟩) <;> (try simp (disch := omega) only [hA, OK, emaU, Int.reduceToNat, s_bat, reduceCtorEq] at hbr) <;> (try ((with_reducible exfalso); omega)))
    | ((with_reducible refine runK hA hd hQ 200 ?hk ?_); (case hk => exact trivial); (conv => arg 9; cbv); (try simp only [OK]))
    | ((with_reducible refine need_of ?hn ?_); (case hn => ((simp (disch := omega) only [hA, OK, emaU, Int.reduceToNat, s_bat]) <;> omega)))
    | (refine CallOK.of (goodF_of F92_ok) (Tri.mono (cmp64_ok _ _ _) fun v hh hx => ?_); (obtain ⟨⟨z, hv, hz⟩, he⟩ := hx; subst hv; subst he))
    | (refine CallOK.of (goodF_of F90_ok) (Tri.mono (cmpU_ok _ _ _) fun v hh hx => ?_); (obtain ⟨⟨z, hv, hz⟩, he⟩ := hx; subst hv; subst he))
    | (refine CallOK.of (goodF_of F91_ok) (Tri.mono (total_ok _ (by assumption) _) fun v hh hx => ?_); (obtain ⟨⟨z, hv, hz⟩, he⟩ := hx; subst hv; subst he))
    | fail
  all_goals (try (with_reducible refine FinR.self ?_; first | refine FinR.n rfl ?_ | refine FinR.nh rfl ?_ rfl))
  all_goals (try simp (disch := omega) only [hA, OK, emaU, Int.reduceToNat, s_bat, Bool.false_eq_true, true_iff, false_iff, eq_self, iff_true, iff_false])
  all_goals unfold ordN
  · rw [if_pos (by assumption), hz, hA]
  · rw [if_neg (by assumption), if_pos (by assumption), hz]; simp_all
  · rw [if_neg (by assumption), if_neg (by assumption), hz]
end Go.Proofs.YtecephhhjhpcjaaGreatDoor.Stats
end
section
set_option linter.unusedVariables false
set_option linter.unusedSimpArgs false
-- emaX: s_bat
namespace Go.Proofs.YtecephhhjhpcjaaGreatDoor.Stats
open Go Go.Proofs.YtecephhhjhpcjaaGreatDoor Go.Proofs.YtecephhhjhpcjaaGreatDoor.Em
def noneP (b : Bool) (n : Int) (t : ByteArray) (ln : Nat) : Prop := b = false ∧ n = 0 ∧ t.size = 0 ∧ ln = 0
/-- a bound of a kind -/
def bndP (k : Int) (b : Bool) (n : Int) (t : ByteArray) (ln : Nat) : Prop := b = false ∧ ln = 0 ∧ if 12 ≤ k then n = 0 ∧ t.size ≤ 16 else t.size = 0 ∧ numV k n
def ordS (k : Int) (a b : Int) (t u : ByteArray) : Int := if 12 ≤ k then cmpB t u else ordN k a b
set_option maxRecDepth 100000 in
set_option maxHeartbeats 2000000 in
theorem isNone_ok (b : Bool) (n : Int) (t : ByteArray) (ln : Nat) (c : List EV) (h : EH) : Tri Tryz.prog gs 37 [.agg [.lit (.bool b), .lit (.int .i64 n), .lit (.string t), .isl ln none c]] h fun v h' => IsP (noneP b n t ln) v ∧ h' = h := by
  refine Tri.boolC rfl (Tri_of F37_ok fun I0 ρ0 w0 Q hρ hQ => ?_) h
  obtain ⟨A, hA⟩ : ∃ A, A = stdA := ⟨_, rfl⟩
  have he := emp_iff t
  cases b
  all_goals
    with_reducible refine runS hA hd hQ 200 ?hk ?_
    case hk => exact trivial
    conv => arg 9; cbv
    try simp only [OK]
    repeat' first
      | (with_reducible refine OKK.loop ?_)
      | (with_reducible refine OKK.again ?_)
      | ((with_reducible refine opt_of (fun hop => ?_) (fun xop hop => ?_)) <;> (try simp (disch := omega) only [hA, OK, emaU, Int.reduceToNat, s_bat] at hop))
      | ((with_reducible refine ⟨fun hbr => ?_, fun hbr => ?_⟩) <;> (try simp (disch := omega) only [hA, OK, emaU, Int.reduceToNat, s_bat, reduceCtorEq] at hbr) <;> (try ((with_reducible exfalso); omega)))
      | ((with_reducible refine runK hA hd hQ 200 ?hk ?_); (case hk => exact trivial); (conv => arg 9; cbv); (try simp only [OK]))
      | ((with_reducible refine need_of ?hn ?_); (case hn => ((simp (disch := omega) only [hA, OK, emaU, Int.reduceToNat, s_bat]) <;> omega)))
      | fail
  all_goals (try (with_reducible refine FinR.self ?_; first | refine FinR.bl rfl ?_ | refine FinR.bs rfl ?_ | refine FinR.blh rfl ?_ rfl | refine FinR.bsh rfl ?_ rfl))
  all_goals (try simp (disch := omega) only [hA, OK, emaU, Int.reduceToNat, s_bat, Bool.false_eq_true, true_iff, false_iff, eq_self, iff_true, iff_false])
  all_goals unfold noneP
  all_goals (try simp only [he] at *)
  all_goals (first | omega | (simp; done) | (simp; omega) | (simp_all; done) | (simp_all; omega))
set_option maxRecDepth 100000 in
set_option maxHeartbeats 2000000 in
theorem zeroR_ok (b : Bool) (n : Int) (t : ByteArray) (ln : Nat) (c : List EV) (h : EH) : Tri Tryz.prog gs 44 [.agg [.lit (.bool b), .lit (.int .i64 n), .lit (.string t), .isl ln none c]] h fun v h' => IsP (noneP b n t ln) v ∧ h' = h := by
  refine Tri.boolC rfl (Tri_of F44_ok fun I0 ρ0 w0 Q hρ hQ => ?_) h
  obtain ⟨A, hA⟩ : ∃ A, A = stdA := ⟨_, rfl⟩
  have he := emp_iff t
  cases b
  all_goals
    with_reducible refine runS hA hd hQ 200 ?hk ?_
    case hk => exact trivial
    conv => arg 9; cbv
    try simp only [OK]
    repeat' first
      | (with_reducible refine OKK.loop ?_)
      | (with_reducible refine OKK.again ?_)
      | ((with_reducible refine opt_of (fun hop => ?_) (fun xop hop => ?_)) <;> (try simp (disch := omega) only [hA, OK, emaU, Int.reduceToNat, s_bat] at hop))
      | ((with_reducible refine ⟨fun hbr => ?_, fun hbr => ?_⟩) <;> (try simp (disch := omega) only [hA, OK, emaU, Int.reduceToNat, s_bat, reduceCtorEq] at hbr) <;> (try ((with_reducible exfalso); omega)))
      | ((with_reducible refine runK hA hd hQ 200 ?hk ?_); (case hk => exact trivial); (conv => arg 9; cbv); (try simp only [OK]))
      | ((with_reducible refine need_of ?hn ?_); (case hn => ((simp (disch := omega) only [hA, OK, emaU, Int.reduceToNat, s_bat]) <;> omega)))
      | fail
  all_goals (try (with_reducible refine FinR.self ?_; first | refine FinR.bl rfl ?_ | refine FinR.bs rfl ?_ | refine FinR.blh rfl ?_ rfl | refine FinR.bsh rfl ?_ rfl))
  all_goals (try simp (disch := omega) only [hA, OK, emaU, Int.reduceToNat, s_bat, Bool.false_eq_true, true_iff, false_iff, eq_self, iff_true, iff_false])
  all_goals unfold noneP
  all_goals (try simp only [he] at *)
  all_goals (first | omega | (simp; done) | (simp; omega) | (simp_all; done) | (simp_all; omega))
/-- a plain field's cells -/
def cellsG (nm : ByteArray) (nul : Bool) (k w i x : Int) (kn : Nat) (kc : List EV) : List EV := [.lit (.string nm), .lit (.bool nul), .lit (.int .i64 k), .lit (.int .i64 w), .lit (.int .i64 i), .lit (.int .i64 x), .isl kn none kc]
set_option maxRecDepth 100000 in
set_option maxHeartbeats 4000000 in
theorem isBound_ok (nm : ByteArray) (nul : Bool) (k w i x : Int) (kn : Nat) (kc : List EV) (hk : 2 ≤ k ∧ k ≤ 14) (hz : k ≤ 11 → w = 0 ∧ i = 0 ∧ x = 0 ∧ kn = 0 ∧ kc = [])
    (b : Bool) (n : Int) (t : ByteArray) (ln : Nat) (c : List EV) (hn : i64r n) (ht : t.size ≤ 140737488351232) (hln : ln ≤ 140737488351232) (h : EH) :
    Tri Tryz.prog gs 39 [.agg (cellsG nm nul k w i x kn kc), .agg [.lit (.bool b), .lit (.int .i64 n), .lit (.string t), .isl ln none c]] h fun v h' => IsP (bndP k b n t ln) v ∧ h' = h := by
  refine Tri.boolC rfl (Tri_of F39_ok fun I0 ρ0 w0 Q hρ hQ => ?_) h
  obtain ⟨A, hA⟩ : ∃ A, A = stdA := ⟨_, rfl⟩
  have hf := fun hk => fitsV_num k n t c hk hn ht
  unfold cellsG
  unfold cellsK at hf
  by_cases h11 : k ≤ 11
  · obtain ⟨rfl, rfl, rfl, rfl, rfl⟩ := hz h11
    by_cases hl : ln = 0
    · subst hl
      cases b
      all_goals
        with_reducible refine runS hA hd hQ 200 ?hk ?_
        case hk => exact trivial
        conv => arg 9; cbv
        try simp only [OK]
        repeat' first
          | (with_reducible refine OKK.loop ?_)
          | (with_reducible refine OKK.again ?_)
          | ((with_reducible refine opt_of (fun hop => ?_) (fun xop hop => ?_)) <;> (try simp (disch := omega) only [hA, OK, emaU, Int.reduceToNat, s_bat] at hop))
          | ((with_reducible refine ⟨fun hbr => ?_, fun hbr => ?_⟩) <;> (try simp (disch := omega) only [hA, OK, emaU, Int.reduceToNat, s_bat, reduceCtorEq] at hbr) <;> (try ((with_reducible exfalso); omega)))
          | ((with_reducible refine runK hA hd hQ 200 ?hk ?_); (case hk => exact trivial); (conv => arg 9; cbv); (try simp only [OK]))
          | ((with_reducible refine need_of ?hn ?_); (case hn => ((simp (disch := omega) only [hA, OK, emaU, Int.reduceToNat, s_bat]) <;> omega)))
          | (refine CallOK.of (goodF_of F40_ok) (Tri.mono (isText_ok _ _) fun v hh hx => ?_); (obtain ⟨⟨b, hv, hb⟩, he⟩ := hx; subst hv; subst he; cases b <;> simp (disch := omega) only [hA, OK, emaU, Int.reduceToNat, s_bat, Bool.false_eq_true, true_iff, false_iff, eq_self, reduceCtorEq] at hb) <;> (try ((with_reducible exfalso); omega)))
          | (refine CallOK.of (goodF_of F62_ok) (Tri.mono (hf (by omega) _) fun v hh hx => ?_); (obtain ⟨⟨z, hv, hz⟩, he⟩ := hx; subst hv; subst he))
          | fail
      all_goals (try (with_reducible refine FinR.self ?_; first | refine FinR.bl rfl ?_ | refine FinR.bs rfl ?_ | refine FinR.blh rfl ?_ rfl | refine FinR.bsh rfl ?_ rfl))
      all_goals (try simp (disch := omega) only [hA, OK, emaU, Int.reduceToNat, s_bat, Bool.false_eq_true, true_iff, false_iff, eq_self, iff_true, iff_false])
      all_goals unfold bndP
      all_goals (try rw [if_neg (by omega)])
      all_goals (first | omega | (simp; done) | (simp_all; done))
    · cases b
      all_goals
        with_reducible refine runS hA hd hQ 200 ?hk ?_
        case hk => exact trivial
        conv => arg 9; cbv
        try simp only [OK]
        repeat' first
          | (with_reducible refine OKK.loop ?_)
          | (with_reducible refine OKK.again ?_)
          | ((with_reducible refine opt_of (fun hop => ?_) (fun xop hop => ?_)) <;> (try simp (disch := omega) only [hA, OK, emaU, Int.reduceToNat, s_bat] at hop))
          | ((with_reducible refine ⟨fun hbr => ?_, fun hbr => ?_⟩) <;> (try simp (disch := omega) only [hA, OK, emaU, Int.reduceToNat, s_bat, reduceCtorEq] at hbr) <;> (try ((with_reducible exfalso); omega)))
          | ((with_reducible refine runK hA hd hQ 200 ?hk ?_); (case hk => exact trivial); (conv => arg 9; cbv); (try simp only [OK]))
          | ((with_reducible refine need_of ?hn ?_); (case hn => ((simp (disch := omega) only [hA, OK, emaU, Int.reduceToNat, s_bat]) <;> omega)))
          | (refine CallOK.of (goodF_of F40_ok) (Tri.mono (isText_ok _ _) fun v hh hx => ?_); (obtain ⟨⟨b, hv, hb⟩, he⟩ := hx; subst hv; subst he; cases b <;> simp (disch := omega) only [hA, OK, emaU, Int.reduceToNat, s_bat, Bool.false_eq_true, true_iff, false_iff, eq_self, reduceCtorEq] at hb) <;> (try ((with_reducible exfalso); omega)))
          | fail
      all_goals (try (with_reducible refine FinR.self ?_; first | refine FinR.bl rfl ?_ | refine FinR.bs rfl ?_ | refine FinR.blh rfl ?_ rfl | refine FinR.bsh rfl ?_ rfl))
      all_goals (try simp (disch := omega) only [hA, OK, emaU, Int.reduceToNat, s_bat, Bool.false_eq_true, true_iff, false_iff, eq_self, iff_true, iff_false])
      all_goals unfold bndP
      all_goals (first | (simp; done) | (simp [hl]; done))
  · cases b
    all_goals
      with_reducible refine runS hA hd hQ 200 ?hk ?_
      case hk => exact trivial
      conv => arg 9; cbv
      try simp only [OK]
      repeat' first
        | (with_reducible refine OKK.loop ?_)
        | (with_reducible refine OKK.again ?_)
        | ((with_reducible refine opt_of (fun hop => ?_) (fun xop hop => ?_)) <;> (try simp (disch := omega) only [hA, OK, emaU, Int.reduceToNat, s_bat] at hop))
        | ((with_reducible refine ⟨fun hbr => ?_, fun hbr => ?_⟩) <;> (try simp (disch := omega) only [hA, OK, emaU, Int.reduceToNat, s_bat, reduceCtorEq] at hbr) <;> (try ((with_reducible exfalso); omega)))
        | ((with_reducible refine runK hA hd hQ 200 ?hk ?_); (case hk => exact trivial); (conv => arg 9; cbv); (try simp only [OK]))
        | ((with_reducible refine need_of ?hn ?_); (case hn => ((simp (disch := omega) only [hA, OK, emaU, Int.reduceToNat, s_bat]) <;> omega)))
        | (refine CallOK.of (goodF_of F40_ok) (Tri.mono (isText_ok _ _) fun v hh hx => ?_); (obtain ⟨⟨b, hv, hb⟩, he⟩ := hx; subst hv; subst he; cases b <;> simp (disch := omega) only [hA, OK, emaU, Int.reduceToNat, s_bat, Bool.false_eq_true, true_iff, false_iff, eq_self, reduceCtorEq] at hb) <;> (try ((with_reducible exfalso); omega)))
        | fail
    all_goals (try (with_reducible refine FinR.self ?_; first | refine FinR.bl rfl ?_ | refine FinR.bs rfl ?_ | refine FinR.blh rfl ?_ rfl | refine FinR.bsh rfl ?_ rfl))
    all_goals (try simp (disch := omega) only [hA, OK, emaU, Int.reduceToNat, s_bat, Bool.false_eq_true, true_iff, false_iff, eq_self, iff_true, iff_false])
    all_goals unfold bndP
    all_goals (try rw [if_pos (by omega)])
    all_goals (first | omega | (simp; done) | (simp; omega) | (simp_all; done) | (simp_all; omega))
set_option maxRecDepth 100000 in
set_option maxHeartbeats 4000000 in
theorem compare_num (k a b : Int) (t u : ByteArray) (c d : List EV) (hk : 2 ≤ k ∧ k ≤ 11) (ha : i64r a) (hb0 : i64r b) (ht : t.size = 0 ∧ numV k a) (hu : u.size = 0 ∧ numV k b) (h : EH) :
    Tri Tryz.prog gs 42 [.agg (cellsK k), .agg [.lit (.bool false), .lit (.int .i64 a), .lit (.string t), .isl 0 none c], .agg [.lit (.bool false), .lit (.int .i64 b), .lit (.string u), .isl 0 none d]] h fun v h' => v = .tup [.lit (.int .i64 (ordN k a b)), .lit (.int .i64 0)] ∧ h' = h := by
  refine Tri.valC rfl rfl (Tri_of F42_ok fun I0 ρ0 w0 Q hρ hQ => ?_) h
  obtain ⟨A, hA⟩ : ∃ A, A = stdA := ⟨_, rfl⟩
  have hm := may_ok k (by omega)
  have hga := good_num k a t c hk ha (by omega)
  have hgb := good_num k b u d hk hb0 (by omega)
  have ho := orderV_num k a b t u c d hk ha hb0
  obtain ⟨O, hO⟩ : ∃ O, O = ordN k a b := ⟨_, rfl⟩
  rw [← hO] at ho hQ
  unfold cellsK at hga hgb hm ho ⊢
  with_reducible refine runS hA hd hQ 200 ?hk ?_
  case hk => exact trivial
  conv => arg 9; cbv
  try simp only [OK]
  repeat' first
    | (with_reducible refine OKK.loop ?_)
    | (with_reducible refine OKK.again ?_)
    | ((with_reducible refine opt_of (fun hop => ?_) (fun xop hop => ?_)) <;> (try simp (disch := omega) only [hA, OK, emaU, Int.reduceToNat, s_bat] at hop))
    | ((with_reducible refine ⟨fun hbr => ?_, fun hbr => ?_⟩) <;> (try simp (disch := omega) only [hA, OK, emaU, Int.reduceToNat, s_bat, reduceCtorEq] at hbr) <;> (try ((with_reducible exfalso); omega)))
    | ((with_reducible refine runK hA hd hQ 200 ?hk ?_); (case hk => exact trivial); (conv => arg 9; cbv); (try simp only [OK]))
    | ((with_reducible refine need_of ?hn ?_); (case hn => ((simp (disch := omega) only [hA, OK, emaU, Int.reduceToNat, s_bat]) <;> omega)))
    | (refine CallOK.of (goodF_of F64_ok) (Tri.mono (hm _) fun v hh hx => ?_); (obtain ⟨⟨b, hv, hb⟩, he⟩ := hx; subst hv; subst he; cases b <;> simp (disch := omega) only [hA, OK, emaU, Int.reduceToNat, s_bat, Bool.false_eq_true, true_iff, false_iff, eq_self, reduceCtorEq] at hb) <;> (try ((with_reducible exfalso); omega)))
    | (refine CallOK.of (goodF_of F65_ok) (Tri.mono (hga _) fun v hh hx => ?_); (obtain ⟨⟨b, hv, hb⟩, he⟩ := hx; subst hv; subst he; cases b <;> simp (disch := omega) only [hA, OK, emaU, Int.reduceToNat, s_bat, Bool.false_eq_true, true_iff, false_iff, eq_self, reduceCtorEq] at hb) <;> (try ((with_reducible exfalso); omega)))
    | (refine CallOK.of (goodF_of F65_ok) (Tri.mono (hgb _) fun v hh hx => ?_); (obtain ⟨⟨b, hv, hb⟩, he⟩ := hx; subst hv; subst he; cases b <;> simp (disch := omega) only [hA, OK, emaU, Int.reduceToNat, s_bat, Bool.false_eq_true, true_iff, false_iff, eq_self, reduceCtorEq] at hb) <;> (try ((with_reducible exfalso); omega)))
    | (refine CallOK.of (goodF_of F66_ok) (Tri.mono (ho _) fun v hh hx => ?_); (obtain ⟨⟨z, hv, hz⟩, he⟩ := hx; subst hv; subst he))
    | fail
  all_goals first
    | exact absurd trivial (by assumption)
    | exact absurd ht (by assumption)
    | exact absurd hu (by assumption)
    | (exact FinR.intro rfl (by rw [← hz]; rfl))
set_option maxRecDepth 100000 in
set_option maxHeartbeats 4000000 in
theorem orderS_ok (nm : ByteArray) (nul : Bool) (k w i x : Int) (kn : Nat) (kc : List EV) (hk : 2 ≤ k ∧ k ≤ 14) (hz : k ≤ 11 → w = 0 ∧ i = 0 ∧ x = 0 ∧ kn = 0 ∧ kc = [])
    (a b : Int) (t u : ByteArray) (c d : List EV) (ha : i64r a) (hb0 : i64r b) (hn : k ≤ 11 → (t.size = 0 ∧ numV k a) ∧ u.size = 0 ∧ numV k b) (h : EH) :
    Tri Tryz.prog gs 18 [.agg (cellsG nm nul k w i x kn kc), .agg [.lit (.bool false), .lit (.int .i64 a), .lit (.string t), .isl 0 none c], .agg [.lit (.bool false), .lit (.int .i64 b), .lit (.string u), .isl 0 none d]] h fun v h' => IsN .i64 (fun n => n = ordS k a b t u) v ∧ h' = h := by
  refine Tri.intC rfl (Tri_of F18_ok fun I0 ρ0 w0 Q hρ hQ => ?_) h
  obtain ⟨A, hA⟩ : ∃ A, A = stdA := ⟨_, rfl⟩
  unfold cellsG
  have hst : ∀ h, Tri Tryz.prog gs 41 [.lit (.string t), .lit (.string u)] h fun v h' => IsN .i64 (fun n => n = cmpB t u) v ∧ h' = h := fun h => (strCompare_ok t u h).mono fun v h' hx => ⟨⟨_, hx.1, rfl⟩, hx.2⟩
  by_cases h11 : k ≤ 11
  · obtain ⟨rfl, rfl, rfl, rfl, rfl⟩ := hz h11
    have hc := compare_num k a b t u c d (by omega) ha hb0 (hn h11).1 (hn h11).2
    unfold cellsK at hc
    with_reducible refine runS hA hd hQ 200 ?hk ?_
    case hk => exact trivial
    conv => arg 9; cbv
    try simp only [OK]
    repeat' first
      | (with_reducible refine OKK.loop ?_)
      | (with_reducible refine OKK.again ?_)
      | ((with_reducible refine opt_of (fun hop => ?_) (fun xop hop => ?_)) <;> (try simp (disch := omega) only [hA, OK, emaU, Int.reduceToNat, s_bat] at hop))
      | ((with_reducible refine ⟨fun hbr => ?_, fun hbr => ?_⟩) <;> (try simp (disch := omega) only [hA, OK, emaU, Int.reduceToNat, s_bat, reduceCtorEq] at hbr) <;> (try ((with_reducible exfalso); omega)))
      | ((with_reducible refine runK hA hd hQ 200 ?hk ?_); (case hk => exact trivial); (conv => arg 9; cbv); (try simp only [OK]))
      | ((with_reducible refine need_of ?hn ?_); (case hn => ((simp (disch := omega) only [hA, OK, emaU, Int.reduceToNat, s_bat]) <;> omega)))
      | (refine CallOK.of (goodF_of F40_ok) (Tri.mono (isText_ok _ _) fun v hh hx => ?_); (obtain ⟨⟨b, hv, hb⟩, he⟩ := hx; subst hv; subst he; cases b <;> simp (disch := omega) only [hA, OK, emaU, Int.reduceToNat, s_bat, Bool.false_eq_true, true_iff, false_iff, eq_self, reduceCtorEq] at hb) <;> (try ((with_reducible exfalso); omega)))
      | fail
    all_goals
      refine CallOK.of (goodF_of F42_ok) (Tri.mono (hc _) fun v hh hx => ?_)
      obtain ⟨hv, hh'⟩ := hx
      obtain ⟨O, hO⟩ : ∃ O, O = ordN k a b := ⟨_, rfl⟩
      rw [← hO] at hv
      subst hv; subst hh'
      with_reducible refine runK hA hd hQ 1 ?hk ?_
      case hk => exact trivial
      conv => arg 9; cbv
      try simp only [OK]
      repeat' first
        | (with_reducible refine OKK.loop ?_)
        | (with_reducible refine OKK.again ?_)
        | ((with_reducible refine opt_of (fun hop => ?_) (fun xop hop => ?_)) <;> (try simp (disch := omega) only [hA, OK, emaU, Int.reduceToNat, s_bat] at hop))
        | ((with_reducible refine ⟨fun hbr => ?_, fun hbr => ?_⟩) <;> (try simp (disch := omega) only [hA, OK, emaU, Int.reduceToNat, s_bat, reduceCtorEq] at hbr) <;> (try ((with_reducible exfalso); omega)))
        | ((with_reducible refine runK hA hd hQ 200 ?hk ?_); (case hk => exact trivial); (conv => arg 9; cbv); (try simp only [OK]))
        | ((with_reducible refine need_of ?hn ?_); (case hn => ((simp (disch := omega) only [hA, OK, emaU, Int.reduceToNat, s_bat]) <;> omega)))
        | fail
      exact FinR.n rfl (by rw [ordS, if_neg (by omega), ← hO])
  · have hkk : ¬ k ≤ 11 := h11
    with_reducible refine runS hA hd hQ 200 ?hk ?_
    case hk => exact trivial
    conv => arg 9; cbv
    try simp only [OK]
    repeat' first
      | (with_reducible refine OKK.loop ?_)
      | (with_reducible refine OKK.again ?_)
      | ((with_reducible refine opt_of (fun hop => ?_) (fun xop hop => ?_)) <;> (try simp (disch := omega) only [hA, OK, emaU, Int.reduceToNat, s_bat] at hop))
      | ((with_reducible refine ⟨fun hbr => ?_, fun hbr => ?_⟩) <;> (try simp (disch := omega) only [hA, OK, emaU, Int.reduceToNat, s_bat, reduceCtorEq] at hbr) <;> (try ((with_reducible exfalso); omega)))
      | ((with_reducible refine runK hA hd hQ 200 ?hk ?_); (case hk => exact trivial); (conv => arg 9; cbv); (try simp only [OK]))
      | ((with_reducible refine need_of ?hn ?_); (case hn => ((simp (disch := omega) only [hA, OK, emaU, Int.reduceToNat, s_bat]) <;> omega)))
      | (refine CallOK.of (goodF_of F40_ok) (Tri.mono (isText_ok _ _) fun v hh hx => ?_); (obtain ⟨⟨b, hv, hb⟩, he⟩ := hx; subst hv; subst he; cases b <;> simp (disch := omega) only [hA, OK, emaU, Int.reduceToNat, s_bat, Bool.false_eq_true, true_iff, false_iff, eq_self, reduceCtorEq] at hb) <;> (try ((with_reducible exfalso); omega)))
      | fail
    all_goals
      refine CallOK.of strCompare_good (Tri.mono (strCompare_ok t u _) fun v hh hx => ?_)
      obtain ⟨hv, hh'⟩ := hx
      obtain ⟨O, hO⟩ : ∃ O, O = cmpB t u := ⟨_, rfl⟩
      rw [← hO] at hv
      subst hv; subst hh'
      with_reducible refine runK hA hd hQ 1 ?hk ?_
      case hk => exact trivial
      conv => arg 9; cbv
      try simp only [OK]
      repeat' first
        | (with_reducible refine OKK.loop ?_)
        | (with_reducible refine OKK.again ?_)
        | ((with_reducible refine opt_of (fun hop => ?_) (fun xop hop => ?_)) <;> (try simp (disch := omega) only [hA, OK, emaU, Int.reduceToNat, s_bat] at hop))
        | ((with_reducible refine ⟨fun hbr => ?_, fun hbr => ?_⟩) <;> (try simp (disch := omega) only [hA, OK, emaU, Int.reduceToNat, s_bat, reduceCtorEq] at hbr) <;> (try ((with_reducible exfalso); omega)))
        | ((with_reducible refine runK hA hd hQ 200 ?hk ?_); (case hk => exact trivial); (conv => arg 9; cbv); (try simp only [OK]))
        | ((with_reducible refine need_of ?hn ?_); (case hn => ((simp (disch := omega) only [hA, OK, emaU, Int.reduceToNat, s_bat]) <;> omega)))
        | fail
      exact FinR.n rfl (by rw [ordS, if_pos (by omega), ← hO])
end Go.Proofs.YtecephhhjhpcjaaGreatDoor.Stats
end
section
set_option linter.unusedVariables false
set_option linter.unusedSimpArgs false
-- emaX: s_bat
namespace Go.Proofs.YtecephhhjhpcjaaGreatDoor.Stats
open Go Go.Proofs.YtecephhhjhpcjaaGreatDoor Go.Proofs.YtecephhhjhpcjaaGreatDoor.Em
/-- a value's parts -/
structure VP where
  b : Bool
  n : Int
  t : ByteArray
  ln : Nat
  c : List EV
def VP.ok (v : VP) : Prop := i64r v.n ∧ v.t.size ≤ 140737488351232 ∧ v.ln ≤ 140737488351232
def VP.cells (v : VP) : List EV := [.lit (.bool v.b), .lit (.int .i64 v.n), .lit (.string v.t), .isl v.ln none v.c]
def VP.none (v : VP) : Prop := noneP v.b v.n v.t v.ln
def VP.bnd (k : Int) (v : VP) : Prop := bndP k v.b v.n v.t v.ln
/-- a stat of a field of a plain kind -/
def statP (k rows nulls : Int) (has : Bool) (l m : VP) : Prop :=
  0 ≤ rows ∧ rows ≤ 1048576 ∧ 0 ≤ nulls ∧ nulls ≤ rows ∧ (has = false → l.none ∧ m.none) ∧ (has = true → (2 ≤ k ∧ k ≤ 14) ∧ nulls ≠ rows ∧ l.bnd k ∧ m.bnd k ∧ ordS k l.n m.n l.t m.t ≤ 0)
theorem fits_zero {f : Fld} (h : allF f) (hk : 2 ≤ f.kind ∧ f.kind ≤ 14) : f.kind ≤ 11 → f.width = 0 ∧ f.id = 0 ∧ f.idx = 0 ∧ f.kids.length = 0 ∧ cellsFs f.kids = [] := fun h11 => by
  obtain ⟨nm, nul, k, w, i, x, kids⟩ := f
  simp only [kind_mk, width_mk, id_mk, idx_mk, kids_mk] at *
  obtain ⟨_, ⟨_, _, h⟩, _⟩ := h
  rw [if_neg (by omega), if_neg (by omega), if_neg (by omega), if_neg (by omega), if_neg (by omega), if_neg (by omega)] at h
  obtain ⟨h1, h2, h3, h4⟩ := h
  exact ⟨h1, h2, h3, h4, by rw [List.length_eq_zero_iff.1 h4]; rfl⟩
theorem orderB_ok (nm : ByteArray) (nul : Bool) (k w i x : Int) (kn : Nat) (kc : List EV) (hk : 2 ≤ k ∧ k ≤ 14) (hz : k ≤ 11 → w = 0 ∧ i = 0 ∧ x = 0 ∧ kn = 0 ∧ kc = []) (l m : VP) (hlo : l.ok) (hmo : m.ok) (hl : l.bnd k) (hm : m.bnd k) (h : EH) :
    Tri Tryz.prog gs 18 [.agg (cellsG nm nul k w i x kn kc), .agg l.cells, .agg m.cells] h fun v h' => IsN .i64 (fun n => n = ordS k l.n m.n l.t m.t) v ∧ h' = h := by
  obtain ⟨lb, ln, lt, ll, lc⟩ := l
  obtain ⟨mb, mn, mt, ml, mc⟩ := m
  obtain ⟨h1, h2, h3⟩ := hl
  obtain ⟨h4, h5, h6⟩ := hm
  simp only at h1 h2 h4 h5
  subst h1; subst h2; subst h4; subst h5
  exact orderS_ok nm nul k w i x kn kc hk hz ln mn lt mt lc mc hlo.1 hmo.1 (fun h11 => by
    rw [if_neg (by omega)] at h3 h6
    exact ⟨h3, h6⟩) h
set_option maxRecDepth 100000 in
set_option maxHeartbeats 8000000 in
theorem isStat_ok (f g : Fld) (hall : allF f) (hcore : Core f g) (hg : allF g) (rows nulls : Int) (has : Bool) (l m : VP) (hlo : l.ok) (hmo : m.ok) (h : EH) :
    Tri Tryz.prog gs 16 [.agg (cellsF f), .agg ([.lit (.int .i64 rows), .lit (.int .i64 nulls), .lit (.bool has)] ++ l.cells ++ m.cells)] h fun v h' => IsP (statP g.kind rows nulls has l m) v ∧ h' = h := by
  refine Tri.boolC (by rw [cellsF_eq]; rfl) (Tri_of F16_ok fun I0 ρ0 w0 Q hρ hQ => ?_) h
  obtain ⟨A, hA⟩ : ∃ A, A = stdA := ⟨_, rfl⟩
  have hpl := plain_ok f g hall hcore
  have hzero := fits_zero hg
  have hnl := isNone_ok l.b l.n l.t l.ln l.c
  have hnm := isNone_ok m.b m.n m.t m.ln m.c
  have hbl := fun nm nul (hk : 2 ≤ g.kind ∧ g.kind ≤ 14) => isBound_ok nm nul g.kind g.width g.id g.idx g.kids.length (cellsFs g.kids) hk (hzero hk) l.b l.n l.t l.ln l.c hlo.1 hlo.2.1 hlo.2.2
  have hbm := fun nm nul (hk : 2 ≤ g.kind ∧ g.kind ≤ 14) => isBound_ok nm nul g.kind g.width g.id g.idx g.kids.length (cellsFs g.kids) hk (hzero hk) m.b m.n m.t m.ln m.c hmo.1 hmo.2.1 hmo.2.2
  have hor := fun nm nul (hk : 2 ≤ g.kind ∧ g.kind ≤ 14) (h1 : l.bnd g.kind) (h2 : m.bnd g.kind) => orderB_ok nm nul g.kind g.width g.id g.idx g.kids.length (cellsFs g.kids) hk (hzero hk) l m hlo hmo h1 h2
  have hsp : ∀ p : Prop, (p ↔ statP g.kind rows nulls has l m) → (p ↔ statP g.kind rows nulls has l m) := fun _ h => h
  unfold VP.cells at *
  unfold cellsG at *
  rw [cellsF_eq] at *
  simp only [List.cons_append, List.nil_append, List.append_assoc]
  obtain ⟨lb, ln, lt, ll, lc⟩ := l
  obtain ⟨mb, mn, mt, ml, mc⟩ := m
  simp only at *
  generalize cellsFs f.kids = kc, f.kids.length = kn, f.nm = nm, f.nul = nul, f.kind = k, f.width = w, f.id = i, f.idx = x at *
  unfold PlainV at hpl
  generalize cellsFs g.kids = gc, g.kids.length = gn, g.kind = gk, g.width = gw, g.id = gi, g.idx = gx at *
  cases has
  · skip
    with_reducible refine runS hA hd hQ 200 ?hk ?_
    case hk => exact trivial
    conv => arg 9; cbv
    try simp only [OK]
    repeat' first
      | (with_reducible refine OKK.loop ?_)
      | (with_reducible refine OKK.again ?_)
      | ((with_reducible refine opt_of (fun hop => ?_) (fun xop hop => ?_)) <;> (try simp (disch := omega) only [hA, OK, emaU, Int.reduceToNat, s_bat] at hop))
      | ((with_reducible refine ⟨fun hbr => ?_, fun hbr => ?_⟩) <;> (try simp (disch := omega) only [hA, OK, emaU, Int.reduceToNat, s_bat, reduceCtorEq] at hbr) <;> (try ((with_reducible exfalso); omega)))
      | ((with_reducible refine runK hA hd hQ 200 ?hk ?_); (case hk => exact trivial); (conv => arg 9; cbv); (try simp only [OK]))
      | ((with_reducible refine need_of ?hn ?_); (case hn => ((simp (disch := omega) only [hA, OK, emaU, Int.reduceToNat, s_bat]) <;> omega)))
      | (refine CallOK.of (goodF_of F37_ok) (Tri.mono (hnl _) fun v hh hx => ?_); (obtain ⟨⟨b, hv, hb⟩, he⟩ := hx; subst hv; subst he; cases b <;> simp (disch := omega) only [hA, OK, emaU, Int.reduceToNat, s_bat, Bool.false_eq_true, true_iff, false_iff, eq_self, reduceCtorEq] at hb) <;> (try ((with_reducible exfalso); omega)))
      | (refine CallOK.of (goodF_of F37_ok) (Tri.mono (hnm _) fun v hh hx => ?_); (obtain ⟨⟨b, hv, hb⟩, he⟩ := hx; subst hv; subst he; cases b <;> simp (disch := omega) only [hA, OK, emaU, Int.reduceToNat, s_bat, Bool.false_eq_true, true_iff, false_iff, eq_self, reduceCtorEq] at hb) <;> (try ((with_reducible exfalso); omega)))
      | fail
    all_goals (try (with_reducible refine FinR.self ?_; first | refine FinR.bl rfl ?_ | refine FinR.bs rfl ?_ | refine FinR.blh rfl ?_ rfl | refine FinR.bsh rfl ?_ rfl))
    all_goals (try simp (disch := omega) only [hA, OK, emaU, Int.reduceToNat, s_bat, Bool.false_eq_true, true_iff, false_iff, eq_self, iff_true, iff_false])
    all_goals first
      | exact fun h => by have h1 := h.1; have h2 := h.2.1; have h3 := h.2.2.1; have h4 := h.2.2.2.1; omega
      | exact fun h => absurd (h.2.2.2.2.1 rfl).1 (by assumption : ¬ noneP lb ln lt ll)
      | exact fun h => absurd (h.2.2.2.2.1 rfl).2 (by assumption : ¬ noneP mb mn mt ml)
      | exact ⟨by omega, by omega, by omega, by omega, fun _ => ⟨(by assumption : noneP lb ln lt ll), (by assumption : noneP mb mn mt ml)⟩, fun h => (nomatch h)⟩
  · skip
    with_reducible refine runS hA hd hQ 200 ?hk ?_
    case hk => exact trivial
    conv => arg 9; cbv
    try simp only [OK]
    repeat' first
      | (with_reducible refine OKK.loop ?_)
      | (with_reducible refine OKK.again ?_)
      | ((with_reducible refine opt_of (fun hop => ?_) (fun xop hop => ?_)) <;> (try simp (disch := omega) only [hA, OK, emaU, Int.reduceToNat, s_bat] at hop))
      | ((with_reducible refine ⟨fun hbr => ?_, fun hbr => ?_⟩) <;> (try simp (disch := omega) only [hA, OK, emaU, Int.reduceToNat, s_bat, reduceCtorEq] at hbr) <;> (try ((with_reducible exfalso); omega)))
      | ((with_reducible refine runK hA hd hQ 200 ?hk ?_); (case hk => exact trivial); (conv => arg 9; cbv); (try simp only [OK]))
      | ((with_reducible refine need_of ?hn ?_); (case hn => ((simp (disch := omega) only [hA, OK, emaU, Int.reduceToNat, s_bat]) <;> omega)))
      | fail
    rotate_right
    · refine CallOK.of (goodF_of F17_ok) (Tri.mono (hpl _) fun v hh hx => ?_)
      obtain ⟨⟨pm, pu, hv⟩, hh'⟩ := hx
      subst hv; subst hh'
      with_reducible refine runK hA hd hQ 1 ?hk ?_
      case hk => exact trivial
      conv => arg 9; cbv
      try simp only [OK]
      repeat' first
        | (with_reducible refine OKK.loop ?_)
        | (with_reducible refine OKK.again ?_)
        | ((with_reducible refine opt_of (fun hop => ?_) (fun xop hop => ?_)) <;> (try simp (disch := omega) only [hA, OK, emaU, Int.reduceToNat, s_bat] at hop))
        | ((with_reducible refine ⟨fun hbr => ?_, fun hbr => ?_⟩) <;> (try simp (disch := omega) only [hA, OK, emaU, Int.reduceToNat, s_bat, reduceCtorEq] at hbr) <;> (try ((with_reducible exfalso); omega)))
        | ((with_reducible refine runK hA hd hQ 200 ?hk ?_); (case hk => exact trivial); (conv => arg 9; cbv); (try simp only [OK]))
        | ((with_reducible refine need_of ?hn ?_); (case hn => ((simp (disch := omega) only [hA, OK, emaU, Int.reduceToNat, s_bat]) <;> omega)))
        | (refine CallOK.of (goodF_of F38_ok) (Tri.mono (hasBounds_ok _ _) fun v hh hx => ?_); (obtain ⟨⟨b, hv, hb⟩, he⟩ := hx; subst hv; subst he; cases b <;> simp (disch := omega) only [hA, OK, emaU, Int.reduceToNat, s_bat, Bool.false_eq_true, true_iff, false_iff, eq_self, reduceCtorEq] at hb) <;> (try ((with_reducible exfalso); omega)))
        | (refine CallOK.of (goodF_of F39_ok) (Tri.mono (hbl pm pu (by assumption) _) fun v hh hx => ?_); (obtain ⟨⟨b, hv, hb⟩, he⟩ := hx; subst hv; subst he; cases b <;> simp (disch := omega) only [hA, OK, emaU, Int.reduceToNat, s_bat, Bool.false_eq_true, true_iff, false_iff, eq_self, reduceCtorEq] at hb) <;> (try ((with_reducible exfalso); omega)))
        | (refine CallOK.of (goodF_of F39_ok) (Tri.mono (hbm pm pu (by assumption) _) fun v hh hx => ?_); (obtain ⟨⟨b, hv, hb⟩, he⟩ := hx; subst hv; subst he; cases b <;> simp (disch := omega) only [hA, OK, emaU, Int.reduceToNat, s_bat, Bool.false_eq_true, true_iff, false_iff, eq_self, reduceCtorEq] at hb) <;> (try ((with_reducible exfalso); omega)))
        | (refine CallOK.of (goodF_of F18_ok) (Tri.mono (hor pm pu (by assumption) (by assumption : bndP gk lb ln lt ll) (by assumption : bndP gk mb mn mt ml) _) fun v hh hx => ?_); (obtain ⟨⟨z, hv, hz⟩, he⟩ := hx; subst hv; subst he))
        | fail
      all_goals (try (with_reducible refine FinR.self ?_; first | refine FinR.bl rfl ?_ | refine FinR.bs rfl ?_ | refine FinR.blh rfl ?_ rfl | refine FinR.bsh rfl ?_ rfl))
      all_goals (try simp (disch := omega) only [hA, OK, emaU, Int.reduceToNat, s_bat, Bool.false_eq_true, true_iff, false_iff, eq_self, iff_true, iff_false])
      all_goals first
        | exact fun h => absurd (h.2.2.2.2.2 rfl).1 (by assumption)
        | exact fun h => absurd (by assumption) (h.2.2.2.2.2 rfl).2.1
        | exact fun h => absurd (h.2.2.2.2.2 rfl).2.2.1 (by assumption : ¬ bndP gk lb ln lt ll)
        | exact fun h => absurd (h.2.2.2.2.2 rfl).2.2.2.1 (by assumption : ¬ bndP gk mb mn mt ml)
        | (subst hz; refine ⟨fun h => ⟨by omega, by omega, by omega, by omega, fun h => (nomatch h), fun _ => ⟨?_, ?_, ?_, ?_, h⟩⟩, fun h => (h.2.2.2.2.2 rfl).2.2.2.2⟩ <;> assumption)
    all_goals (try (with_reducible refine FinR.self ?_; first | refine FinR.bl rfl ?_ | refine FinR.bs rfl ?_ | refine FinR.blh rfl ?_ rfl | refine FinR.bsh rfl ?_ rfl))
    all_goals (try simp (disch := omega) only [hA, OK, emaU, Int.reduceToNat, s_bat, Bool.false_eq_true, true_iff, false_iff, eq_self, iff_true, iff_false])
    all_goals exact fun h => by have h1 := h.1; have h2 := h.2.1; have h3 := h.2.2.1; have h4 := h.2.2.2.1; omega
end Go.Proofs.YtecephhhjhpcjaaGreatDoor.Stats
end
section
set_option linter.unusedVariables false
set_option linter.unusedSimpArgs false
-- emaX: s_bat
namespace Go.Proofs.YtecephhhjhpcjaaGreatDoor.Stats
open Go Go.Proofs.YtecephhhjhpcjaaGreatDoor Go.Proofs.YtecephhhjhpcjaaGreatDoor.Em
/-- the field of a kind, the document's -/
def cellsX (k : Int) : List EV := [.lit (.string ⟨#[120]⟩), .lit (.bool false), .lit (.int .i64 k), .lit (.int .i64 0), .lit (.int .i64 0), .lit (.int .i64 0), .lit (.slice none 0 0)]
def kindX (k : Int) : Int := if 12 ≤ k ∧ k ≤ 14 then 13 else k
theorem simple_ok (k : Int) (h : EH) : Tri Tryz.prog gs 49 [.lit (.int .i64 k)] h fun v h' => v = .agg (cellsX (kindX k)) ∧ h' = h := by
  refine Tri.valC rfl rfl (Tri_of F49_ok fun I0 ρ0 w0 Q hρ hQ => ?_) h
  obtain ⟨A, hA⟩ : ∃ A, A = stdA := ⟨_, rfl⟩
  unfold cellsX kindX at hQ
  with_reducible refine runS hA hd hQ 200 ?hk ?_
  case hk => exact trivial
  conv => arg 9; cbv
  try simp only [OK]
  repeat' first
    | (with_reducible refine OKK.loop ?_)
    | (with_reducible refine OKK.again ?_)
    | ((with_reducible refine opt_of (fun hop => ?_) (fun xop hop => ?_)) <;> (try simp (disch := omega) only [hA, OK, emaU, Int.reduceToNat, s_bat] at hop))
    | ((with_reducible refine ⟨fun hbr => ?_, fun hbr => ?_⟩) <;> (try simp (disch := omega) only [hA, OK, emaU, Int.reduceToNat, s_bat, reduceCtorEq] at hbr) <;> (try ((with_reducible exfalso); omega)))
    | ((with_reducible refine runK hA hd hQ 200 ?hk ?_); (case hk => exact trivial); (conv => arg 9; cbv); (try simp only [OK]))
    | ((with_reducible refine need_of ?hn ?_); (case hn => ((simp (disch := omega) only [hA, OK, emaU, Int.reduceToNat, s_bat]) <;> omega)))
    | (refine CallOK.of (goodF_of F57_ok) (Tri.mono (textR_ok _ _) fun v hh hx => ?_); (obtain ⟨⟨b, hv, hb⟩, he⟩ := hx; subst hv; subst he; cases b <;> simp (disch := omega) only [hA, OK, emaU, Int.reduceToNat, s_bat, Bool.false_eq_true, true_iff, false_iff, eq_self, reduceCtorEq] at hb) <;> (try ((with_reducible exfalso); omega)))
    | fail
  all_goals first
    | exact FinR.intro rfl (by rw [if_pos hb])
    | exact FinR.intro rfl (by rw [if_neg hb])
theorem cmpBytes_less : ∀ a b : List UInt8, Lib.compareBytes a b = if Op.bytesLess a b then -1 else if !(Op.bytesLess a b || a == b) then 1 else 0
  | [], [] => rfl
  | [], _ :: _ => rfl
  | _ :: _, [] => rfl
  | a :: l, b :: m => by
    have ih := cmpBytes_less l m
    simp only [Lib.compareBytes, Op.bytesLess]
    by_cases h1 : a < b
    · simp [h1]
    · by_cases h2 : b < a
      · have h3 : ¬ a = b := fun e => by subst e; exact h1 h2
        simp [h1, h2, h3]
      · have h3 : a = b := by
          apply UInt8.le_antisymm
          · exact UInt8.not_lt.1 h2
          · exact UInt8.not_lt.1 h1
        subst h3
        simp [h1, ih]
theorem cmpB_sign (t u : ByteArray) : (if stdA.ss .lss t u then (-1 : Int) else if stdA.ss .gtr t u then 1 else 0) = cmpB t u := by
  rw [cmpB, cmpBytes_less]
  show (if Op.bytesLess t.toList u.toList then (-1 : Int) else if !(Op.bytesLess t.toList u.toList || t.toList == u.toList) then 1 else 0) = _
  rw [ByteArray.toList_eq, ByteArray.toList_eq]
theorem sgnA (a b : Int) : (if stdA.ic .lss a b = true then (-1 : Int) else if stdA.ic .gtr a b = true then 1 else 0) = sgn a b := by
  rw [s_lss, s_gtr, sgn]
  simp only [decide_eq_true_eq]
set_option maxRecDepth 100000 in
set_option maxHeartbeats 4000000 in
theorem orderR_ok (k a b : Int) (t u : ByteArray) (c d : List EV) (hk : 2 ≤ k ∧ k ≤ 14) (ha : i64r a) (hb0 : i64r b) (h : EH) :
    Tri Tryz.prog gs 48 [.agg (cellsX (kindX k)), .agg [.lit (.bool false), .lit (.int .i64 a), .lit (.string t), .isl 0 none c], .agg [.lit (.bool false), .lit (.int .i64 b), .lit (.string u), .isl 0 none d]] h fun v h' => IsN .i64 (fun n => n = ordS k a b t u) v ∧ h' = h := by
  refine Tri.intC rfl (Tri_of F48_ok fun I0 ρ0 w0 Q hρ hQ => ?_) h
  obtain ⟨A, hA⟩ : ∃ A, A = stdA := ⟨_, rfl⟩
  obtain ⟨q, hq⟩ : ∃ q, q = kindX k := ⟨_, rfl⟩
  have hq1 : (12 ≤ k → q = 13) ∧ (¬ 12 ≤ k → q = k) := by
    rw [hq, kindX]; exact ⟨fun h => if_pos (by omega), fun h => if_neg (by omega)⟩
  rw [← hq]
  have hs := fun a b h => sign_ok a b h
  unfold cellsX
  with_reducible refine runS hA hd hQ 200 ?hk ?_
  case hk => exact trivial
  conv => arg 9; cbv
  try simp only [OK]
  repeat' first
    | (with_reducible refine OKK.loop ?_)
    | (with_reducible refine OKK.again ?_)
    | (with_reducible refine And.intro trivial ?_)
    | ((with_reducible refine opt_of (fun hop => ?_) (fun xop hop => ?_)) <;> (try simp (disch := omega) only [hA, OK, emaU, Int.reduceToNat, s_bat] at hop))
    | ((with_reducible refine ⟨fun hbr => ?_, fun hbr => ?_⟩) <;> (try simp (disch := omega) only [hA, OK, emaU, Int.reduceToNat, s_bat, reduceCtorEq] at hbr) <;> (try ((with_reducible exfalso); omega)))
    | ((with_reducible refine runK hA hd hQ 200 ?hk ?_); (case hk => exact trivial); (conv => arg 9; cbv); (try simp only [OK]))
    | ((with_reducible refine need_of ?hn ?_); (case hn => ((simp (disch := omega) only [hA, OK, emaU, Int.reduceToNat, s_bat]) <;> omega)))
    | (refine CallOK.of (goodF_of F68_ok) (Tri.mono (hs _ _ _) fun v hh hx => ?_); (obtain ⟨⟨z, hv, hz⟩, he⟩ := hx; subst hv; subst he))
    | (refine CallOK.of (goodF_of F69_ok) (Tri.mono (placeR_ok _ (by assumption) _) fun v hh hx => ?_); (obtain ⟨⟨z, hv, hz⟩, he⟩ := hx; subst hv; subst he))
    | fail
  all_goals refine FinR.n rfl ?_
  all_goals unfold ordS ordN
  all_goals rw [hz, hA]
  · rw [if_neg (show ¬ 12 ≤ k by omega), if_pos (show k = 10 by omega)]; exact sgnA _ _
  · rw [if_neg (show ¬ 12 ≤ k by omega), if_neg (show ¬ k = 10 by omega), if_pos (show k = 11 by omega)]; subst_vars; exact sgnA _ _
  all_goals first
    | (rw [if_pos (show 12 ≤ k by omega)]; exact cmpB_sign t u)
    | (rw [if_neg (show ¬ 12 ≤ k by omega), if_neg (show ¬ k = 10 by omega), if_neg (show ¬ k = 11 by omega)]; exact sgnA _ _)
set_option maxRecDepth 100000 in
set_option maxHeartbeats 4000000 in
theorem weight_ok (b : Bool) (n : Int) (t : ByteArray) (c : List EV) (ht : t.size ≤ 140737488351232) (h : EH) :
    Tri Tryz.prog gs 94 [.agg [.lit (.bool b), .lit (.int .i64 n), .lit (.string t), .isl 0 none c], .lit (.int .i64 4194304)] h fun v h' => IsN .i64 (fun z => z ≤ 4194304 ↔ t.size ≤ 4194288) v ∧ h' = h := by
  refine Tri.intC rfl (Tri_of F94_ok fun I0 ρ0 w0 Q hρ hQ => ?_) h
  obtain ⟨A, hA⟩ : ∃ A, A = stdA := ⟨_, rfl⟩
  with_reducible refine runS hA hd hQ 200 ?hk ?_
  case hk => exact trivial
  conv => arg 9; cbv
  try simp only [OK]
  repeat' first
    | (with_reducible refine OKK.loop ?_)
    | (with_reducible refine OKK.again ?_)
    | ((with_reducible refine opt_of (fun hop => ?_) (fun xop hop => ?_)) <;> (try simp (disch := omega) only [hA, OK, emaU, Int.reduceToNat, s_bat] at hop))
    | ((with_reducible refine ⟨fun hbr => ?_, fun hbr => ?_⟩) <;> (try simp (disch := omega) only [hA, OK, emaU, Int.reduceToNat, s_bat, reduceCtorEq] at hbr) <;> (try ((with_reducible exfalso); omega)))
    | ((with_reducible refine runK hA hd hQ 200 ?hk ?_); (case hk => exact trivial); (conv => arg 9; cbv); (try simp only [OK]))
    | ((with_reducible refine need_of ?hn ?_); (case hn => ((simp (disch := omega) only [hA, OK, emaU, Int.reduceToNat, s_bat]) <;> omega)))
    | fail
  · refine FinR.n rfl ?_
    simp (disch := omega) only [hA, OK, emaU, Int.reduceToNat, s_bat]
    omega
  obtain ⟨W, hW⟩ : ∃ W, W = A.ib .add .i64 16 (A.ofn (A.bsz t)) := ⟨_, rfl⟩
  have hW1 : W = 16 + t.size := by rw [hW]; simp (disch := omega) only [hA, OK, emaU, Int.reduceToNat, s_bat]
  refine OKs.mask (msk 52 [1, 2, 5, 6]) ?_
  refine OKs.loopN (fun m st => st = ⟨mkT 52 [(1, .lit (.int .i64 4194304)), (2, .ptr 0 0), (5, .lit (.int .i64 W)), (6, .lit (.int .i64 0))], [.blk [.lit (.bool b), .lit (.int .i64 n), .lit (.string t), .isl 0 none c]]⟩) (fun m st hs' ih => ?_) (n := 0) (by rw [hW]; rfl)
  subst hs'
  with_reducible refine runS hA hd hQ 200 ?hk ?_
  case hk => exact trivial
  conv => arg 9; cbv
  try simp only [OK]
  repeat' first
    | (with_reducible refine OKK.loop ?_)
    | (with_reducible refine OKK.again ?_)
    | ((with_reducible refine opt_of (fun hop => ?_) (fun xop hop => ?_)) <;> (try simp (disch := omega) only [hA, OK, emaU, Int.reduceToNat, s_bat] at hop))
    | ((with_reducible refine ⟨fun hbr => ?_, fun hbr => ?_⟩) <;> (try simp (disch := omega) only [hA, OK, emaU, Int.reduceToNat, s_bat, reduceCtorEq] at hbr) <;> (try ((with_reducible exfalso); omega)))
    | ((with_reducible refine runK hA hd hQ 200 ?hk ?_); (case hk => exact trivial); (conv => arg 9; cbv); (try simp only [OK]))
    | ((with_reducible refine need_of ?hn ?_); (case hn => ((simp (disch := omega) only [hA, OK, emaU, Int.reduceToNat, s_bat]) <;> omega)))
    | fail
  all_goals (try (with_reducible refine FinR.self ?_; first | refine FinR.n rfl ?_ | refine FinR.nh rfl ?_ rfl))
  all_goals (try simp (disch := omega) only [hA, OK, emaU, Int.reduceToNat, s_bat, Bool.false_eq_true, true_iff, false_iff, eq_self, iff_true, iff_false])
  all_goals omega
set_option maxHeartbeats 1000000 in
theorem number_ok (k : Int) (h : EH) : Tri Tryz.prog gs 117 [.lit (.int .i64 k)] h fun v h' => IsP (2 ≤ k ∧ k ≤ 11) v ∧ h' = h := by
  refine Tri.boolC rfl (Tri_of F117_ok fun I0 ρ0 w0 Q hρ hQ => ?_) h
  obtain ⟨A, hA⟩ : ∃ A, A = stdA := ⟨_, rfl⟩
  with_reducible refine runS hA hd hQ 200 ?hk ?_
  case hk => exact trivial
  conv => arg 9; cbv
  try simp only [OK]
  repeat' first
    | (with_reducible refine OKK.loop ?_)
    | (with_reducible refine OKK.again ?_)
    | ((with_reducible refine opt_of (fun hop => ?_) (fun xop hop => ?_)) <;> (try simp (disch := omega) only [hA, OK, emaU, Int.reduceToNat, s_bat] at hop))
    | ((with_reducible refine ⟨fun hbr => ?_, fun hbr => ?_⟩) <;> (try simp (disch := omega) only [hA, OK, emaU, Int.reduceToNat, s_bat, reduceCtorEq] at hbr) <;> (try ((with_reducible exfalso); omega)))
    | ((with_reducible refine runK hA hd hQ 200 ?hk ?_); (case hk => exact trivial); (conv => arg 9; cbv); (try simp only [OK]))
    | ((with_reducible refine need_of ?hn ?_); (case hn => ((simp (disch := omega) only [hA, OK, emaU, Int.reduceToNat, s_bat]) <;> omega)))
    | fail
  all_goals refine ⟨_, rfl, _, (by first | exact .inl rfl | exact .inr rfl), ?_⟩
  all_goals (try simp (disch := omega) only [hA, OK, emaU, Int.reduceToNat, s_bat, Bool.false_eq_true, true_iff, false_iff, eq_self, iff_true, iff_false])
  all_goals first | omega | (simp <;> omega) | (simp_all <;> omega)
set_option maxRecDepth 100000 in
set_option maxHeartbeats 4000000 in
theorem fitsR_num (k n : Int) (t : ByteArray) (c : List EV) (hk : 2 ≤ k ∧ k ≤ 11) (ht : t.size ≤ 140737488351232) (h : EH) :
    Tri Tryz.prog gs 95 [.agg (cellsX k), .agg [.lit (.bool false), .lit (.int .i64 n), .lit (.string t), .isl 0 none c]] h fun v h' => IsP (t.size = 0 ∧ numV k n) v ∧ h' = h := by
  refine Tri.boolC rfl (Tri_of F95_ok fun I0 ρ0 w0 Q hρ hQ => ?_) h
  obtain ⟨A, hA⟩ : ∃ A, A = stdA := ⟨_, rfl⟩
  have he := emp_iff t
  unfold cellsX
  with_reducible refine runS hA hd hQ 200 ?hk ?_
  case hk => exact trivial
  conv => arg 9; cbv
  try simp only [OK]
  repeat' first
    | (with_reducible refine OKK.loop ?_)
    | (with_reducible refine OKK.again ?_)
    | ((with_reducible refine opt_of (fun hop => ?_) (fun xop hop => ?_)) <;> (try simp (disch := omega) only [hA, OK, emaU, Int.reduceToNat, s_bat] at hop))
    | ((with_reducible refine ⟨fun hbr => ?_, fun hbr => ?_⟩) <;> (try simp (disch := omega) only [hA, OK, emaU, Int.reduceToNat, s_bat, reduceCtorEq] at hbr) <;> (try ((with_reducible exfalso); omega)))
    | ((with_reducible refine runK hA hd hQ 200 ?hk ?_); (case hk => exact trivial); (conv => arg 9; cbv); (try simp only [OK]))
    | ((with_reducible refine need_of ?hn ?_); (case hn => ((simp (disch := omega) only [hA, OK, emaU, Int.reduceToNat, s_bat]) <;> omega)))
    | (refine CallOK.of (goodF_of F117_ok) (Tri.mono (number_ok _ _) fun v hh hx => ?_); (obtain ⟨⟨b, hv, hb⟩, he⟩ := hx; subst hv; subst he; cases b <;> simp (disch := omega) only [hA, OK, emaU, Int.reduceToNat, s_bat, Bool.false_eq_true, true_iff, false_iff, eq_self, reduceCtorEq] at hb) <;> (try ((with_reducible exfalso); omega)))
    | (refine CallOK.of (goodF_of F118_ok) (Tri.mono (rangedR_ok k n hk _) fun v hh hx => ?_); (obtain ⟨⟨b, hv, hb⟩, he⟩ := hx; subst hv; subst he; cases b <;> simp (disch := omega) only [hA, OK, emaU, Int.reduceToNat, s_bat, Bool.false_eq_true, true_iff, false_iff, eq_self, reduceCtorEq] at hb) <;> (try ((with_reducible exfalso); omega)))
    | fail
  all_goals (try (with_reducible refine FinR.self ?_; first | refine FinR.bl rfl ?_ | refine FinR.bs rfl ?_ | refine FinR.blh rfl ?_ rfl | refine FinR.bsh rfl ?_ rfl))
  all_goals (try simp (disch := omega) only [hA, OK, emaU, Int.reduceToNat, s_bat, Bool.false_eq_true, true_iff, false_iff, eq_self, iff_true, iff_false])
  all_goals first
    | exact fun h => absurd h.2 (by assumption)
    | exact ⟨fun _ => ⟨he.1 (by assumption), hb⟩, fun _ => rfl⟩
    | exact fun h => absurd (he.2 h.1) (by assumption)
set_option maxRecDepth 100000 in
set_option maxHeartbeats 4000000 in
theorem fitsRight_num (k n : Int) (t : ByteArray) (c : List EV) (hk : 2 ≤ k ∧ k ≤ 11) (ht : t.size ≤ 140737488351232) (h : EH) :
    Tri Tryz.prog gs 67 [.agg (cellsX k), .agg [.lit (.bool false), .lit (.int .i64 n), .lit (.string t), .isl 0 none c]] h fun v h' => IsP (t.size ≤ 4194288 ∧ t.size = 0 ∧ numV k n) v ∧ h' = h := by
  refine Tri.boolC rfl (Tri_of F67_ok fun I0 ρ0 w0 Q hρ hQ => ?_) h
  obtain ⟨A, hA⟩ : ∃ A, A = stdA := ⟨_, rfl⟩
  have hf := fitsR_num k n t c hk ht
  have hw := weight_ok false n t c ht
  unfold cellsX at hf ⊢
  with_reducible refine runS hA hd hQ 200 ?hk ?_
  case hk => exact trivial
  conv => arg 9; cbv
  try simp only [OK]
  repeat' first
    | (with_reducible refine OKK.loop ?_)
    | (with_reducible refine OKK.again ?_)
    | ((with_reducible refine opt_of (fun hop => ?_) (fun xop hop => ?_)) <;> (try simp (disch := omega) only [hA, OK, emaU, Int.reduceToNat, s_bat] at hop))
    | ((with_reducible refine ⟨fun hbr => ?_, fun hbr => ?_⟩) <;> (try simp (disch := omega) only [hA, OK, emaU, Int.reduceToNat, s_bat, reduceCtorEq] at hbr) <;> (try ((with_reducible exfalso); omega)))
    | ((with_reducible refine runK hA hd hQ 200 ?hk ?_); (case hk => exact trivial); (conv => arg 9; cbv); (try simp only [OK]))
    | ((with_reducible refine need_of ?hn ?_); (case hn => ((simp (disch := omega) only [hA, OK, emaU, Int.reduceToNat, s_bat]) <;> omega)))
    | (refine CallOK.of (goodF_of F94_ok) (Tri.mono (hw _) fun v hh hx => ?_); (obtain ⟨⟨z, hv, hz⟩, he⟩ := hx; subst hv; subst he))
    | (refine CallOK.of (goodF_of F95_ok) (Tri.mono (hf _) fun v hh hx => ?_); (obtain ⟨⟨b, hv, hb⟩, he⟩ := hx; subst hv; subst he; cases b <;> simp (disch := omega) only [hA, OK, emaU, Int.reduceToNat, s_bat, Bool.false_eq_true, true_iff, false_iff, eq_self, reduceCtorEq] at hb) <;> (try ((with_reducible exfalso); omega)))
    | fail
  all_goals (try (with_reducible refine FinR.self ?_; first | refine FinR.bl rfl ?_ | refine FinR.bs rfl ?_ | refine FinR.blh rfl ?_ rfl | refine FinR.bsh rfl ?_ rfl))
  all_goals (try simp (disch := omega) only [hA, OK, emaU, Int.reduceToNat, s_bat, Bool.false_eq_true, true_iff, false_iff, eq_self, iff_true, iff_false])
  all_goals first
    | exact ⟨hz.1 (by omega), hb⟩
    | exact fun h => absurd h.2 (by assumption)
    | exact fun h => absurd (hz.2 h.1) (by assumption)
set_option maxRecDepth 100000 in
set_option maxHeartbeats 4000000 in
theorem boundR_ok (k : Int) (hk : 2 ≤ k ∧ k ≤ 14) (b : Bool) (n : Int) (t : ByteArray) (ln : Nat) (c : List EV) (ht : t.size ≤ 140737488351232) (hln : ln ≤ 140737488351232) (h : EH) :
    Tri Tryz.prog gs 46 [.lit (.int .i64 k), .agg [.lit (.bool b), .lit (.int .i64 n), .lit (.string t), .isl ln none c]] h fun v h' => IsP (bndP k b n t ln) v ∧ h' = h := by
  refine Tri.boolC rfl (Tri_of F46_ok fun I0 ρ0 w0 Q hρ hQ => ?_) h
  obtain ⟨A, hA⟩ : ∃ A, A = stdA := ⟨_, rfl⟩
  have he := emp_iff t
  have hs := simple_ok k
  unfold bndP at hQ
  by_cases hl : ln = 0
  · subst hl
    cases b
    · by_cases h12 : 12 ≤ k
      · skip
        with_reducible refine runS hA hd hQ 200 ?hk ?_
        case hk => exact trivial
        conv => arg 9; cbv
        try simp only [OK]
        repeat' first
          | (with_reducible refine OKK.loop ?_)
          | (with_reducible refine OKK.again ?_)
          | ((with_reducible refine opt_of (fun hop => ?_) (fun xop hop => ?_)) <;> (try simp (disch := omega) only [hA, OK, emaU, Int.reduceToNat, s_bat] at hop))
          | ((with_reducible refine ⟨fun hbr => ?_, fun hbr => ?_⟩) <;> (try simp (disch := omega) only [hA, OK, emaU, Int.reduceToNat, s_bat, reduceCtorEq] at hbr) <;> (try ((with_reducible exfalso); omega)))
          | ((with_reducible refine runK hA hd hQ 200 ?hk ?_); (case hk => exact trivial); (conv => arg 9; cbv); (try simp only [OK]))
          | ((with_reducible refine need_of ?hn ?_); (case hn => ((simp (disch := omega) only [hA, OK, emaU, Int.reduceToNat, s_bat]) <;> omega)))
          | (refine CallOK.of (goodF_of F57_ok) (Tri.mono (textR_ok _ _) fun v hh hx => ?_); (obtain ⟨⟨b, hv, hb⟩, he⟩ := hx; subst hv; subst he; cases b <;> simp (disch := omega) only [hA, OK, emaU, Int.reduceToNat, s_bat, Bool.false_eq_true, true_iff, false_iff, eq_self, reduceCtorEq] at hb) <;> (try ((with_reducible exfalso); omega)))
          | fail
        all_goals (try (with_reducible refine FinR.self ?_; first | refine FinR.bl rfl ?_ | refine FinR.bs rfl ?_ | refine FinR.blh rfl ?_ rfl | refine FinR.bsh rfl ?_ rfl))
        all_goals (try simp (disch := omega) only [hA, OK, emaU, Int.reduceToNat, s_bat, Bool.false_eq_true, true_iff, false_iff, eq_self, iff_true, iff_false])
        all_goals (try rw [if_pos (by omega)])
        all_goals (first | omega | (simp; done) | (simp; omega) | (simp_all; done) | (simp_all; omega))
      · have hf := fitsRight_num k n t c (by omega) ht
        rw [show kindX k = k from if_neg (by omega)] at hs
        unfold cellsX at hs hf
        with_reducible refine runS hA hd hQ 200 ?hk ?_
        case hk => exact trivial
        conv => arg 9; cbv
        try simp only [OK]
        repeat' first
          | (with_reducible refine OKK.loop ?_)
          | (with_reducible refine OKK.again ?_)
          | ((with_reducible refine opt_of (fun hop => ?_) (fun xop hop => ?_)) <;> (try simp (disch := omega) only [hA, OK, emaU, Int.reduceToNat, s_bat] at hop))
          | ((with_reducible refine ⟨fun hbr => ?_, fun hbr => ?_⟩) <;> (try simp (disch := omega) only [hA, OK, emaU, Int.reduceToNat, s_bat, reduceCtorEq] at hbr) <;> (try ((with_reducible exfalso); omega)))
          | ((with_reducible refine runK hA hd hQ 200 ?hk ?_); (case hk => exact trivial); (conv => arg 9; cbv); (try simp only [OK]))
          | ((with_reducible refine need_of ?hn ?_); (case hn => ((simp (disch := omega) only [hA, OK, emaU, Int.reduceToNat, s_bat]) <;> omega)))
          | (refine CallOK.of (goodF_of F57_ok) (Tri.mono (textR_ok _ _) fun v hh hx => ?_); (obtain ⟨⟨b, hv, hb⟩, he⟩ := hx; subst hv; subst he; cases b <;> simp (disch := omega) only [hA, OK, emaU, Int.reduceToNat, s_bat, Bool.false_eq_true, true_iff, false_iff, eq_self, reduceCtorEq] at hb) <;> (try ((with_reducible exfalso); omega)))
          | fail
        · refine CallOK.of (goodF_of F49_ok) (Tri.mono (hs _) fun v hh hx => ?_)
          obtain ⟨hv, hh'⟩ := hx
          subst hv; subst hh'
          with_reducible refine runK hA hd hQ 1 ?hk ?_
          case hk => exact trivial
          conv => arg 9; cbv
          try simp only [OK]
          repeat' first
            | (with_reducible refine OKK.loop ?_)
            | (with_reducible refine OKK.again ?_)
            | (with_reducible refine And.intro trivial ?_)
            | ((with_reducible refine opt_of (fun hop => ?_) (fun xop hop => ?_)) <;> (try simp (disch := omega) only [hA, OK, emaU, Int.reduceToNat, s_bat] at hop))
            | ((with_reducible refine ⟨fun hbr => ?_, fun hbr => ?_⟩) <;> (try simp (disch := omega) only [hA, OK, emaU, Int.reduceToNat, s_bat, reduceCtorEq] at hbr) <;> (try ((with_reducible exfalso); omega)))
            | ((with_reducible refine runK hA hd hQ 200 ?hk ?_); (case hk => exact trivial); (conv => arg 9; cbv); (try simp only [OK]))
            | ((with_reducible refine need_of ?hn ?_); (case hn => ((simp (disch := omega) only [hA, OK, emaU, Int.reduceToNat, s_bat]) <;> omega)))
            | (refine CallOK.of (goodF_of F67_ok) (Tri.mono (hf _) fun v hh hx => ?_); (obtain ⟨⟨b, hv, hb⟩, he⟩ := hx; subst hv; subst he; cases b <;> simp (disch := omega) only [hA, OK, emaU, Int.reduceToNat, s_bat, Bool.false_eq_true, true_iff, false_iff, eq_self, reduceCtorEq] at hb) <;> (try ((with_reducible exfalso); omega)))
            | fail
          all_goals (try (with_reducible refine FinR.self ?_; first | refine FinR.bl rfl ?_ | refine FinR.bs rfl ?_ | refine FinR.blh rfl ?_ rfl | refine FinR.bsh rfl ?_ rfl))
          all_goals (try simp (disch := omega) only [hA, OK, emaU, Int.reduceToNat, s_bat, Bool.false_eq_true, true_iff, false_iff, eq_self, iff_true, iff_false])
          all_goals (try rw [if_neg (show ¬ 12 ≤ k by omega)])
          all_goals first
            | exact ⟨trivial, trivial, hb.2⟩
            | (have h0 := he.1 (by assumption); exact fun h => hb ⟨by omega, h.2.2⟩)
        · skip
          all_goals (try (with_reducible refine FinR.self ?_; first | refine FinR.bl rfl ?_ | refine FinR.bs rfl ?_ | refine FinR.blh rfl ?_ rfl | refine FinR.bsh rfl ?_ rfl))
          all_goals (try simp (disch := omega) only [hA, OK, emaU, Int.reduceToNat, s_bat, Bool.false_eq_true, true_iff, false_iff, eq_self, iff_true, iff_false])
          all_goals (rw [if_neg (show ¬ 12 ≤ k by omega)]; exact fun h => absurd (he.2 h.2.2.1) (by assumption))
    · skip
      with_reducible refine runS hA hd hQ 200 ?hk ?_
      case hk => exact trivial
      conv => arg 9; cbv
      try simp only [OK]
      repeat' first
        | (with_reducible refine OKK.loop ?_)
        | (with_reducible refine OKK.again ?_)
        | ((with_reducible refine opt_of (fun hop => ?_) (fun xop hop => ?_)) <;> (try simp (disch := omega) only [hA, OK, emaU, Int.reduceToNat, s_bat] at hop))
        | ((with_reducible refine ⟨fun hbr => ?_, fun hbr => ?_⟩) <;> (try simp (disch := omega) only [hA, OK, emaU, Int.reduceToNat, s_bat, reduceCtorEq] at hbr) <;> (try ((with_reducible exfalso); omega)))
        | ((with_reducible refine runK hA hd hQ 200 ?hk ?_); (case hk => exact trivial); (conv => arg 9; cbv); (try simp only [OK]))
        | ((with_reducible refine need_of ?hn ?_); (case hn => ((simp (disch := omega) only [hA, OK, emaU, Int.reduceToNat, s_bat]) <;> omega)))
        | fail
      all_goals (try (with_reducible refine FinR.self ?_; first | refine FinR.bl rfl ?_ | refine FinR.bs rfl ?_ | refine FinR.blh rfl ?_ rfl | refine FinR.bsh rfl ?_ rfl))
      all_goals (try simp (disch := omega) only [hA, OK, emaU, Int.reduceToNat, s_bat, Bool.false_eq_true, true_iff, false_iff, eq_self, iff_true, iff_false])
      all_goals simp
  · cases b
    all_goals
      with_reducible refine runS hA hd hQ 200 ?hk ?_
      case hk => exact trivial
      conv => arg 9; cbv
      try simp only [OK]
      repeat' first
        | (with_reducible refine OKK.loop ?_)
        | (with_reducible refine OKK.again ?_)
        | ((with_reducible refine opt_of (fun hop => ?_) (fun xop hop => ?_)) <;> (try simp (disch := omega) only [hA, OK, emaU, Int.reduceToNat, s_bat] at hop))
        | ((with_reducible refine ⟨fun hbr => ?_, fun hbr => ?_⟩) <;> (try simp (disch := omega) only [hA, OK, emaU, Int.reduceToNat, s_bat, reduceCtorEq] at hbr) <;> (try ((with_reducible exfalso); omega)))
        | ((with_reducible refine runK hA hd hQ 200 ?hk ?_); (case hk => exact trivial); (conv => arg 9; cbv); (try simp only [OK]))
        | ((with_reducible refine need_of ?hn ?_); (case hn => ((simp (disch := omega) only [hA, OK, emaU, Int.reduceToNat, s_bat]) <;> omega)))
        | fail
    all_goals (try (with_reducible refine FinR.self ?_; first | refine FinR.bl rfl ?_ | refine FinR.bs rfl ?_ | refine FinR.blh rfl ?_ rfl | refine FinR.bsh rfl ?_ rfl))
    all_goals (try simp (disch := omega) only [hA, OK, emaU, Int.reduceToNat, s_bat, Bool.false_eq_true, true_iff, false_iff, eq_self, iff_true, iff_false])
    all_goals simp [hl]
theorem boundV_ok (k : Int) (hk : 2 ≤ k ∧ k ≤ 14) (v : VP) (hv : v.ok) (h : EH) : Tri Tryz.prog gs 46 [.lit (.int .i64 k), .agg v.cells] h fun x h' => IsP (v.bnd k) x ∧ h' = h :=
  boundR_ok k hk v.b v.n v.t v.ln v.c hv.2.1 hv.2.2 h
set_option maxHeartbeats 4000000 in
theorem kindOf_ok (f g : Fld) (hall : allF f) (hcore : Core f g) (h : EH) : Tri Tryz.prog gs 21 [.agg (cellsF f)] h fun v h' => v = .lit (.int .i64 g.kind) ∧ h' = h := by
  refine Tri.valC rfl (by rw [cellsF_eq]; rfl) (Tri_of F21_ok fun I0 ρ0 w0 Q hρ hQ => ?_) h
  obtain ⟨A, hA⟩ : ∃ A, A = stdA := ⟨_, rfl⟩
  have hpl := plainR_ok f g hall hcore
  unfold PlainV at hpl
  rw [cellsF_eq] at hpl ⊢
  generalize cellsFs f.kids = kc, f.kids.length = kn, f.nm = nm, f.nul = nul, f.kind = k, f.width = w, f.id = i, f.idx = x at *
  generalize cellsFs g.kids = gc, g.kids.length = gn, g.kind = gk, g.width = gw, g.id = gi, g.idx = gx at *
  with_reducible refine runS hA hd hQ 200 ?hk ?_
  case hk => exact trivial
  conv => arg 9; cbv
  try simp only [OK]
  repeat' first
    | (with_reducible refine OKK.loop ?_)
    | (with_reducible refine OKK.again ?_)
    | ((with_reducible refine opt_of (fun hop => ?_) (fun xop hop => ?_)) <;> (try simp (disch := omega) only [hA, OK, emaU, Int.reduceToNat, s_bat] at hop))
    | ((with_reducible refine ⟨fun hbr => ?_, fun hbr => ?_⟩) <;> (try simp (disch := omega) only [hA, OK, emaU, Int.reduceToNat, s_bat, reduceCtorEq] at hbr) <;> (try ((with_reducible exfalso); omega)))
    | ((with_reducible refine runK hA hd hQ 200 ?hk ?_); (case hk => exact trivial); (conv => arg 9; cbv); (try simp only [OK]))
    | ((with_reducible refine need_of ?hn ?_); (case hn => ((simp (disch := omega) only [hA, OK, emaU, Int.reduceToNat, s_bat]) <;> omega)))
    | fail
  refine CallOK.of (goodF_of F47_ok) (Tri.mono (hpl _) fun v hh hx => ?_)
  obtain ⟨⟨pm, pu, hv⟩, hh'⟩ := hx
  subst hv; subst hh'
  with_reducible refine runK hA hd hQ 1 ?hk ?_
  case hk => exact trivial
  conv => arg 9; cbv
  try simp only [OK]
  repeat' first
    | (with_reducible refine OKK.loop ?_)
    | (with_reducible refine OKK.again ?_)
    | ((with_reducible refine opt_of (fun hop => ?_) (fun xop hop => ?_)) <;> (try simp (disch := omega) only [hA, OK, emaU, Int.reduceToNat, s_bat] at hop))
    | ((with_reducible refine ⟨fun hbr => ?_, fun hbr => ?_⟩) <;> (try simp (disch := omega) only [hA, OK, emaU, Int.reduceToNat, s_bat, reduceCtorEq] at hbr) <;> (try ((with_reducible exfalso); omega)))
    | ((with_reducible refine runK hA hd hQ 200 ?hk ?_); (case hk => exact trivial); (conv => arg 9; cbv); (try simp only [OK]))
    | ((with_reducible refine need_of ?hn ?_); (case hn => ((simp (disch := omega) only [hA, OK, emaU, Int.reduceToNat, s_bat]) <;> omega)))
    | fail
  exact FinR.intro rfl rfl
set_option maxRecDepth 100000 in
set_option maxHeartbeats 4000000 in
theorem orderRB_ok (k : Int) (hk : 2 ≤ k ∧ k ≤ 14) (l m : VP) (hlo : l.ok) (hmo : m.ok) (hl : l.bnd k) (hm : m.bnd k) (h : EH) :
    Tri Tryz.prog gs 22 [.lit (.int .i64 k), .agg l.cells, .agg m.cells] h fun v h' => IsN .i64 (fun n => n = ordS k l.n m.n l.t m.t) v ∧ h' = h := by
  refine Tri.intC rfl (Tri_of F22_ok fun I0 ρ0 w0 Q hρ hQ => ?_) h
  obtain ⟨A, hA⟩ : ∃ A, A = stdA := ⟨_, rfl⟩
  obtain ⟨lb, ln, lt, ll, lc⟩ := l
  obtain ⟨mb, mn, mt, ml, mc⟩ := m
  obtain ⟨h1, h2, h3⟩ := hl
  obtain ⟨h4, h5, h6⟩ := hm
  simp only at h1 h2 h4 h5
  subst h1; subst h2; subst h4; subst h5
  have hs := simple_ok k
  have ho := orderR_ok k ln mn lt mt lc mc hk hlo.1 hmo.1
  obtain ⟨q, hq⟩ : ∃ q, q = kindX k := ⟨_, rfl⟩
  rw [← hq] at hs ho
  unfold cellsX at hs ho
  unfold VP.cells
  simp only at hQ ⊢
  with_reducible refine runS hA hd hQ 200 ?hk ?_
  case hk => exact trivial
  conv => arg 9; cbv
  try simp only [OK]
  repeat' first
    | (with_reducible refine OKK.loop ?_)
    | (with_reducible refine OKK.again ?_)
    | ((with_reducible refine opt_of (fun hop => ?_) (fun xop hop => ?_)) <;> (try simp (disch := omega) only [hA, OK, emaU, Int.reduceToNat, s_bat] at hop))
    | ((with_reducible refine ⟨fun hbr => ?_, fun hbr => ?_⟩) <;> (try simp (disch := omega) only [hA, OK, emaU, Int.reduceToNat, s_bat, reduceCtorEq] at hbr) <;> (try ((with_reducible exfalso); omega)))
    | ((with_reducible refine runK hA hd hQ 200 ?hk ?_); (case hk => exact trivial); (conv => arg 9; cbv); (try simp only [OK]))
    | ((with_reducible refine need_of ?hn ?_); (case hn => ((simp (disch := omega) only [hA, OK, emaU, Int.reduceToNat, s_bat]) <;> omega)))
    | fail
  refine CallOK.of (goodF_of F49_ok) (Tri.mono (hs _) fun v hh hx => ?_)
  obtain ⟨hv, hh'⟩ := hx
  subst hv; subst hh'
  with_reducible refine runK hA hd hQ 1 ?hk ?_
  case hk => exact trivial
  conv => arg 9; cbv
  try simp only [OK]
  repeat' first
    | (with_reducible refine OKK.loop ?_)
    | (with_reducible refine OKK.again ?_)
    | (with_reducible refine And.intro trivial ?_)
    | ((with_reducible refine opt_of (fun hop => ?_) (fun xop hop => ?_)) <;> (try simp (disch := omega) only [hA, OK, emaU, Int.reduceToNat, s_bat] at hop))
    | ((with_reducible refine ⟨fun hbr => ?_, fun hbr => ?_⟩) <;> (try simp (disch := omega) only [hA, OK, emaU, Int.reduceToNat, s_bat, reduceCtorEq] at hbr) <;> (try ((with_reducible exfalso); omega)))
    | ((with_reducible refine runK hA hd hQ 200 ?hk ?_); (case hk => exact trivial); (conv => arg 9; cbv); (try simp only [OK]))
    | ((with_reducible refine need_of ?hn ?_); (case hn => ((simp (disch := omega) only [hA, OK, emaU, Int.reduceToNat, s_bat]) <;> omega)))
    | (refine CallOK.of (goodF_of F48_ok) (Tri.mono (ho _) fun v hh hx => ?_); (obtain ⟨⟨z, hv, hz⟩, he⟩ := hx; subst hv; subst he))
    | fail
  exact FinR.n rfl hz
end Go.Proofs.YtecephhhjhpcjaaGreatDoor.Stats
end
