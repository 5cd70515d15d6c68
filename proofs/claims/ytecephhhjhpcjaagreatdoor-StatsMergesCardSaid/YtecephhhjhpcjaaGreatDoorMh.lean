/- YtecephhhjhpcjaaGreatDoorMh: the texts St20, St21, St22, St23, brought together. No conditions. -/
import Derived.Test.YtecephhhjhpcjaaGreatDoorMg
section
set_option linter.unusedVariables false
set_option linter.unusedSimpArgs false
-- emaX: s_bat
namespace Go.Proofs.YtecephhhjhpcjaaGreatDoor.Stats
open Go Go.Proofs.YtecephhhjhpcjaaGreatDoor Go.Proofs.YtecephhhjhpcjaaGreatDoor.Em
/-- the field of a kind, the document's -/
def cellsX (k : Int) : List EV := [.lit (.string ⟨#[120]⟩), .lit (.bool false), .lit (.int .i64 k), .lit (.int .i64 0), .lit (.int .i64 0), .lit (.int .i64 0), .lit (.slice none 0 0)]
def kindX (k : Int) : Int := if 12 ≤ k ∧ k ≤ 14 then 13 else k
theorem simple_ok (k : Int) (h : EH) : Tri Tryz.prog gs 49 [.lit (.int .i64 k)] h fun v h' => v = .agg (cellsX (kindX k)) ∧ h' = h := by
  refine Tri.valC rfl rfl (Tri_of F49_ok fun I0 ρ0 w0 Q hρ hQ => ?_) h
  obtain ⟨A, hA⟩ : ∃ A, A = stdA := ⟨_, rfl⟩
  unfold cellsX kindX at hQ
  with_reducible refine runS hA hd hQ 200 ?hk ?_
  case hk => exact trivial
  conv => arg 9; cbv
  try simp only [OK]
  repeat' first
    | (with_reducible refine OKK.loop ?_)
    | (with_reducible refine OKK.again ?_)
    | ((with_reducible refine opt_of (fun hop => ?_) (fun xop hop => ?_)) <;> (try simp (disch := omega) only [hA, OK, emaU, Int.reduceToNat, s_bat] at hop))
    | ((with_reducible refine ⟨fun hbr => ?_, fun hbr => ?_⟩) <;> (try simp (disch := omega) only [hA, OK, emaU, Int.reduceToNat, s_bat, reduceCtorEq] at hbr) <;> (try ((with_reducible exfalso); omega)))
    | ((with_reducible refine runK hA hd hQ 200 ?hk ?_); (case hk => exact trivial); (conv => arg 9; cbv); (try simp only [OK]))
    | ((with_reducible refine need_of ?hn ?_); (case hn => ((simp (disch := omega) only [hA, OK, emaU, Int.reduceToNat, s_bat]) <;> omega)))
    | (refine CallOK.of (goodF_of F57_ok) (Tri.mono (textR_ok _ _) fun v hh hx => ?_); (obtain ⟨⟨b, hv, hb⟩, he⟩ := hx; subst hv; subst he; cases b <;> simp (disch := omega) only [hA, OK, emaU, Int.reduceToNat, s_bat, Bool.false_eq_true, true_iff, false_iff, eq_self, reduceCtorEq] at hb) <;> (try ((with_reducible exfalso); omega)))
    | fail
  all_goals first
    | exact FinR.intro rfl (by rw [if_pos hb])
    | exact FinR.intro rfl (by rw [if_neg hb])
theorem cmpBytes_less : ∀ a b : List UInt8, Lib.compareBytes a b = if Op.bytesLess a b then -1 else if !(Op.bytesLess a b || a == b) then 1 else 0
  | [], [] => rfl
  | [], _ :: _ => rfl
  | _ :: _, [] => rfl
  | a :: l, b :: m => by
    have ih := cmpBytes_less l m
    simp only [Lib.compareBytes, Op.bytesLess]
    by_cases h1 : a < b
    · simp [h1]
    · by_cases h2 : b < a
      · have h3 : ¬ a = b := fun e => by subst e; exact h1 h2
        simp [h1, h2, h3]
      · have h3 : a = b := by
          apply UInt8.le_antisymm
          · exact UInt8.not_lt.1 h2
          · exact UInt8.not_lt.1 h1
        subst h3
        simp [h1, ih]
theorem cmpB_sign (t u : ByteArray) : (if stdA.ss .lss t u then (-1 : Int) else if stdA.ss .gtr t u then 1 else 0) = cmpB t u := by
  rw [cmpB, cmpBytes_less]
  show (if Op.bytesLess t.toList u.toList then (-1 : Int) else if !(Op.bytesLess t.toList u.toList || t.toList == u.toList) then 1 else 0) = _
  rw [ByteArray.toList_eq, ByteArray.toList_eq]
theorem sgnA (a b : Int) : (if stdA.ic .lss a b = true then (-1 : Int) else if stdA.ic .gtr a b = true then 1 else 0) = sgn a b := by
  rw [s_lss, s_gtr, sgn]
  simp only [decide_eq_true_eq]
set_option maxRecDepth 100000 in
set_option maxHeartbeats 4000000 in
theorem orderR_ok (k a b : Int) (t u : ByteArray) (c d : List EV) (hk : 2 ≤ k ∧ k ≤ 14) (ha : i64r a) (hb0 : i64r b) (h : EH) :
    Tri Tryz.prog gs 48 [.agg (cellsX (kindX k)), .agg [.lit (.bool false), .lit (.int .i64 a), .lit (.string t), .isl 0 none c], .agg [.lit (.bool false), .lit (.int .i64 b), .lit (.string u), .isl 0 none d]] h fun v h' => IsN .i64 (fun n => n = ordS k a b t u) v ∧ h' = h := by
  refine Tri.intC rfl (Tri_of F48_ok fun I0 ρ0 w0 Q hρ hQ => ?_) h
  obtain ⟨A, hA⟩ : ∃ A, A = stdA := ⟨_, rfl⟩
  obtain ⟨q, hq⟩ : ∃ q, q = kindX k := ⟨_, rfl⟩
  have hq1 : (12 ≤ k → q = 13) ∧ (¬ 12 ≤ k → q = k) := by
    rw [hq, kindX]; exact ⟨fun h => if_pos (by omega), fun h => if_neg (by omega)⟩
  rw [← hq]
  have hs := fun a b h => sign_ok a b h
  unfold cellsX
  with_reducible refine runS hA hd hQ 200 ?hk ?_
  case hk => exact trivial
  conv => arg 9; cbv
  try simp only [OK]
  repeat' first
    | (with_reducible refine OKK.loop ?_)
    | (with_reducible refine OKK.again ?_)
    | (with_reducible refine And.intro trivial ?_)
    | ((with_reducible refine opt_of (fun hop => ?_) (fun xop hop => ?_)) <;> (try simp (disch := omega) only [hA, OK, emaU, Int.reduceToNat, s_bat] at hop))
    | ((with_reducible refine ⟨fun hbr => ?_, fun hbr => ?_⟩) <;> (try simp (disch := omega) only [hA, OK, emaU, Int.reduceToNat, s_bat, reduceCtorEq] at hbr) <;> (try ((with_reducible exfalso); omega)))
    | ((with_reducible refine runK hA hd hQ 200 ?hk ?_); (case hk => exact trivial); (conv => arg 9; cbv); (try simp only [OK]))
    | ((with_reducible refine need_of ?hn ?_); (case hn => ((simp (disch := omega) only [hA, OK, emaU, Int.reduceToNat, s_bat]) <;> omega)))
    | (refine CallOK.of (goodF_of F68_ok) (Tri.mono (hs _ _ _) fun v hh hx => ?_); (obtain ⟨⟨z, hv, hz⟩, he⟩ := hx; subst hv; subst he))
    | (refine CallOK.of (goodF_of F69_ok) (Tri.mono (placeR_ok _ (by assumption) _) fun v hh hx => ?_); (obtain ⟨⟨z, hv, hz⟩, he⟩ := hx; subst hv; subst he))
    | fail
  all_goals refine FinR.n rfl ?_
  all_goals unfold ordS ordN
  all_goals rw [hz, hA]
  · rw [if_neg (show ¬ 12 ≤ k by omega), if_pos (show k = 10 by omega)]; exact sgnA _ _
  · rw [if_neg (show ¬ 12 ≤ k by omega), if_neg (show ¬ k = 10 by omega), if_pos (show k = 11 by omega)]; subst_vars; exact sgnA _ _
  all_goals first
    | (rw [if_pos (show 12 ≤ k by omega)]; exact cmpB_sign t u)
    | (rw [if_neg (show ¬ 12 ≤ k by omega), if_neg (show ¬ k = 10 by omega), if_neg (show ¬ k = 11 by omega)]; exact sgnA _ _)
set_option maxRecDepth 100000 in
set_option maxHeartbeats 4000000 in
theorem weight_ok (b : Bool) (n : Int) (t : ByteArray) (c : List EV) (ht : t.size ≤ 140737488351232) (h : EH) :
    Tri Tryz.prog gs 94 [.agg [.lit (.bool b), .lit (.int .i64 n), .lit (.string t), .isl 0 none c], .lit (.int .i64 4194304)] h fun v h' => IsN .i64 (fun z => z ≤ 4194304 ↔ t.size ≤ 4194288) v ∧ h' = h := by
  refine Tri.intC rfl (Tri_of F94_ok fun I0 ρ0 w0 Q hρ hQ => ?_) h
  obtain ⟨A, hA⟩ : ∃ A, A = stdA := ⟨_, rfl⟩
  with_reducible refine runS hA hd hQ 200 ?hk ?_
  case hk => exact trivial
  conv => arg 9; cbv
  try simp only [OK]
  repeat' first
    | (with_reducible refine OKK.loop ?_)
    | (with_reducible refine OKK.again ?_)
    | ((with_reducible refine opt_of (fun hop => ?_) (fun xop hop => ?_)) <;> (try simp (disch := omega) only [hA, OK, emaU, Int.reduceToNat, s_bat] at hop))
    | ((with_reducible refine ⟨fun hbr => ?_, fun hbr => ?_⟩) <;> (try simp (disch := omega) only [hA, OK, emaU, Int.reduceToNat, s_bat, reduceCtorEq] at hbr) <;> (try ((with_reducible exfalso); omega)))
    | ((with_reducible refine runK hA hd hQ 200 ?hk ?_); (case hk => exact trivial); (conv => arg 9; cbv); (try simp only [OK]))
    | ((with_reducible refine need_of ?hn ?_); (case hn => ((simp (disch := omega) only [hA, OK, emaU, Int.reduceToNat, s_bat]) <;> omega)))
    | fail
  · refine FinR.n rfl ?_
    simp (disch := omega) only [hA, OK, emaU, Int.reduceToNat, s_bat]
    omega
  obtain ⟨W, hW⟩ : ∃ W, W = A.ib .add .i64 16 (A.ofn (A.bsz t)) := ⟨_, rfl⟩
  have hW1 : W = 16 + t.size := by rw [hW]; simp (disch := omega) only [hA, OK, emaU, Int.reduceToNat, s_bat]
  refine OKs.mask (msk 52 [1, 2, 5, 6]) ?_
  refine OKs.loopN (fun m st => st = ⟨mkT 52 [(1, .lit (.int .i64 4194304)), (2, .ptr 0 0), (5, .lit (.int .i64 W)), (6, .lit (.int .i64 0))], [.blk [.lit (.bool b), .lit (.int .i64 n), .lit (.string t), .isl 0 none c]]⟩) (fun m st hs' ih => ?_) (n := 0) (by rw [hW]; rfl)
  subst hs'
  with_reducible refine runS hA hd hQ 200 ?hk ?_
  case hk => exact trivial
  conv => arg 9; cbv
  try simp only [OK]
  repeat' first
    | (with_reducible refine OKK.loop ?_)
    | (with_reducible refine OKK.again ?_)
    | ((with_reducible refine opt_of (fun hop => ?_) (fun xop hop => ?_)) <;> (try simp (disch := omega) only [hA, OK, emaU, Int.reduceToNat, s_bat] at hop))
    | ((with_reducible refine ⟨fun hbr => ?_, fun hbr => ?_⟩) <;> (try simp (disch := omega) only [hA, OK, emaU, Int.reduceToNat, s_bat, reduceCtorEq] at hbr) <;> (try ((with_reducible exfalso); omega)))
    | ((with_reducible refine runK hA hd hQ 200 ?hk ?_); (case hk => exact trivial); (conv => arg 9; cbv); (try simp only [OK]))
    | ((with_reducible refine need_of ?hn ?_); (case hn => ((simp (disch := omega) only [hA, OK, emaU, Int.reduceToNat, s_bat]) <;> omega)))
    | fail
  all_goals (try (with_reducible refine FinR.self ?_; first | refine FinR.n rfl ?_ | refine FinR.nh rfl ?_ rfl))
  all_goals (try simp (disch := omega) only [hA, OK, emaU, Int.reduceToNat, s_bat, Bool.false_eq_true, true_iff, false_iff, eq_self, iff_true, iff_false])
  all_goals omega
set_option maxHeartbeats 1000000 in
theorem number_ok (k : Int) (h : EH) : Tri Tryz.prog gs 117 [.lit (.int .i64 k)] h fun v h' => IsP (2 ≤ k ∧ k ≤ 11) v ∧ h' = h := by
  refine Tri.boolC rfl (Tri_of F117_ok fun I0 ρ0 w0 Q hρ hQ => ?_) h
  obtain ⟨A, hA⟩ : ∃ A, A = stdA := ⟨_, rfl⟩
  with_reducible refine runS hA hd hQ 200 ?hk ?_
  case hk => exact trivial
  conv => arg 9; cbv
  try simp only [OK]
  repeat' first
    | (with_reducible refine OKK.loop ?_)
    | (with_reducible refine OKK.again ?_)
    | ((with_reducible refine opt_of (fun hop => ?_) (fun xop hop => ?_)) <;> (try simp (disch := omega) only [hA, OK, emaU, Int.reduceToNat, s_bat] at hop))
    | ((with_reducible refine ⟨fun hbr => ?_, fun hbr => ?_⟩) <;> (try simp (disch := omega) only [hA, OK, emaU, Int.reduceToNat, s_bat, reduceCtorEq] at hbr) <;> (try ((with_reducible exfalso); omega)))
    | ((with_reducible refine runK hA hd hQ 200 ?hk ?_); (case hk => exact trivial); (conv => arg 9; cbv); (try simp only [OK]))
    | ((with_reducible refine need_of ?hn ?_); (case hn => ((simp (disch := omega) only [hA, OK, emaU, Int.reduceToNat, s_bat]) <;> omega)))
    | fail
  all_goals refine ⟨_, rfl, _, (by first | exact .inl rfl | exact .inr rfl), ?_⟩
  all_goals (try simp (disch := omega) only [hA, OK, emaU, Int.reduceToNat, s_bat, Bool.false_eq_true, true_iff, false_iff, eq_self, iff_true, iff_false])
  all_goals first | omega | (simp <;> omega) | (simp_all <;> omega)
set_option maxRecDepth 100000 in
set_option maxHeartbeats 4000000 in
theorem fitsR_num (k n : Int) (t : ByteArray) (c : List EV) (hk : 2 ≤ k ∧ k ≤ 11) (ht : t.size ≤ 140737488351232) (h : EH) :
    Tri Tryz.prog gs 95 [.agg (cellsX k), .agg [.lit (.bool false), .lit (.int .i64 n), .lit (.string t), .isl 0 none c]] h fun v h' => IsP (t.size = 0 ∧ numV k n) v ∧ h' = h := by
  refine Tri.boolC rfl (Tri_of F95_ok fun I0 ρ0 w0 Q hρ hQ => ?_) h
  obtain ⟨A, hA⟩ : ∃ A, A = stdA := ⟨_, rfl⟩
  have he := emp_iff t
  unfold cellsX
  with_reducible refine runS hA hd hQ 200 ?hk ?_
  case hk => exact trivial
  conv => arg 9; cbv
  try simp only [OK]
  repeat' first
    | (with_reducible refine OKK.loop ?_)
    | (with_reducible refine OKK.again ?_)
    | ((with_reducible refine opt_of (fun hop => ?_) (fun xop hop => ?_)) <;> (try simp (disch := omega) only [hA, OK, emaU, Int.reduceToNat, s_bat] at hop))
    | ((with_reducible refine ⟨fun hbr => ?_, fun hbr => ?_⟩) <;> (try simp (disch := omega) only [hA, OK, emaU, Int.reduceToNat, s_bat, reduceCtorEq] at hbr) <;> (try ((with_reducible exfalso); omega)))
    | ((with_reducible refine runK hA hd hQ 200 ?hk ?_); (case hk => exact trivial); (conv => arg 9; cbv); (try simp only [OK]))
    | ((with_reducible refine need_of ?hn ?_); (case hn => ((simp (disch := omega) only [hA, OK, emaU, Int.reduceToNat, s_bat]) <;> omega)))
    | (refine CallOK.of (goodF_of F117_ok) (Tri.mono (number_ok _ _) fun v hh hx => ?_); (obtain ⟨⟨b, hv, hb⟩, he⟩ := hx; subst hv; subst he; cases b <;> simp (disch := omega) only [hA, OK, emaU, Int.reduceToNat, s_bat, Bool.false_eq_true, true_iff, false_iff, eq_self, reduceCtorEq] at hb) <;> (try ((with_reducible exfalso); omega)))
    | (refine CallOK.of (goodF_of F118_ok) (Tri.mono (rangedR_ok k n hk _) fun v hh hx => ?_); (obtain ⟨⟨b, hv, hb⟩, he⟩ := hx; subst hv; subst he; cases b <;> simp (disch := omega) only [hA, OK, emaU, Int.reduceToNat, s_bat, Bool.false_eq_true, true_iff, false_iff, eq_self, reduceCtorEq] at hb) <;> (try ((with_reducible exfalso); omega)))
    | fail
  all_goals (try (with_reducible refine FinR.self ?_; first | refine FinR.bl rfl ?_ | refine FinR.bs rfl ?_ | refine FinR.blh rfl ?_ rfl | refine FinR.bsh rfl ?_ rfl))
  all_goals (try simp (disch := omega) only [hA, OK, emaU, Int.reduceToNat, s_bat, Bool.false_eq_true, true_iff, false_iff, eq_self, iff_true, iff_false])
  all_goals first
    | exact fun h => absurd h.2 (by assumption)
    | exact ⟨fun _ => ⟨he.1 (by assumption), hb⟩, fun _ => rfl⟩
    | exact fun h => absurd (he.2 h.1) (by assumption)
set_option maxRecDepth 100000 in
set_option maxHeartbeats 4000000 in
theorem fitsRight_num (k n : Int) (t : ByteArray) (c : List EV) (hk : 2 ≤ k ∧ k ≤ 11) (ht : t.size ≤ 140737488351232) (h : EH) :
    Tri Tryz.prog gs 67 [.agg (cellsX k), .agg [.lit (.bool false), .lit (.int .i64 n), .lit (.string t), .isl 0 none c]] h fun v h' => IsP (t.size ≤ 4194288 ∧ t.size = 0 ∧ numV k n) v ∧ h' = h := by
  refine Tri.boolC rfl (Tri_of F67_ok fun I0 ρ0 w0 Q hρ hQ => ?_) h
  obtain ⟨A, hA⟩ : ∃ A, A = stdA := ⟨_, rfl⟩
  have hf := fitsR_num k n t c hk ht
  have hw := weight_ok false n t c ht
  unfold cellsX at hf ⊢
  with_reducible refine runS hA hd hQ 200 ?hk ?_
  case hk => exact trivial
  conv => arg 9; cbv
  try simp only [OK]
  repeat' first
    | (with_reducible refine OKK.loop ?_)
    | (with_reducible refine OKK.again ?_)
    | ((with_reducible refine opt_of (fun hop => ?_) (fun xop hop => ?_)) <;> (try simp (disch := omega) only [hA, OK, emaU, Int.reduceToNat, s_bat] at hop))
    | ((with_reducible refine ⟨fun hbr => ?_, fun hbr => ?_⟩) <;> (try simp (disch := omega) only [hA, OK, emaU, Int.reduceToNat, s_bat, reduceCtorEq] at hbr) <;> (try ((with_reducible exfalso); omega)))
    | ((with_reducible refine runK hA hd hQ 200 ?hk ?_); (case hk => exact trivial); (conv => arg 9; cbv); (try simp only [OK]))
    | ((with_reducible refine need_of ?hn ?_); (case hn => ((simp (disch := omega) only [hA, OK, emaU, Int.reduceToNat, s_bat]) <;> omega)))
    | (refine CallOK.of (goodF_of F94_ok) (Tri.mono (hw _) fun v hh hx => ?_); (obtain ⟨⟨z, hv, hz⟩, he⟩ := hx; subst hv; subst he))
    | (refine CallOK.of (goodF_of F95_ok) (Tri.mono (hf _) fun v hh hx => ?_); (obtain ⟨⟨b, hv, hb⟩, he⟩ := hx; subst hv; subst he; cases b <;> simp (disch := omega) only [hA, OK, emaU, Int.reduceToNat, s_bat, Bool.false_eq_true, true_iff, false_iff, eq_self, reduceCtorEq] at hb) <;> (try ((with_reducible exfalso); omega)))
    | fail
  all_goals (try (with_reducible refine FinR.self ?_; first | refine FinR.bl rfl ?_ | refine FinR.bs rfl ?_ | refine FinR.blh rfl ?_ rfl | refine FinR.bsh rfl ?_ rfl))
  all_goals (try simp (disch := omega) only [hA, OK, emaU, Int.reduceToNat, s_bat, Bool.false_eq_true, true_iff, false_iff, eq_self, iff_true, iff_false])
  all_goals first
    | exact ⟨hz.1 (by omega), hb⟩
    | exact fun h => absurd h.2 (by assumption)
    | exact fun h => absurd (hz.2 h.1) (by assumption)
set_option maxRecDepth 100000 in
set_option maxHeartbeats 4000000 in
theorem boundR_ok (k : Int) (hk : 2 ≤ k ∧ k ≤ 14) (b : Bool) (n : Int) (t : ByteArray) (ln : Nat) (c : List EV) (ht : t.size ≤ 140737488351232) (hln : ln ≤ 140737488351232) (h : EH) :
    Tri Tryz.prog gs 46 [.lit (.int .i64 k), .agg [.lit (.bool b), .lit (.int .i64 n), .lit (.string t), .isl ln none c]] h fun v h' => IsP (bndP k b n t ln) v ∧ h' = h := by
  refine Tri.boolC rfl (Tri_of F46_ok fun I0 ρ0 w0 Q hρ hQ => ?_) h
  obtain ⟨A, hA⟩ : ∃ A, A = stdA := ⟨_, rfl⟩
  have he := emp_iff t
  have hs := simple_ok k
  unfold bndP at hQ
  by_cases hl : ln = 0
  · subst hl
    cases b
    · by_cases h12 : 12 ≤ k
      · skip
        with_reducible refine runS hA hd hQ 200 ?hk ?_
        case hk => exact trivial
        conv => arg 9; cbv
        try simp only [OK]
        repeat' first
          | (with_reducible refine OKK.loop ?_)
          | (with_reducible refine OKK.again ?_)
          | ((with_reducible refine opt_of (fun hop => ?_) (fun xop hop => ?_)) <;> (try simp (disch := omega) only [hA, OK, emaU, Int.reduceToNat, s_bat] at hop))
          | ((with_reducible refine ⟨fun hbr => ?_, fun hbr => ?_⟩) <;> (try simp (disch := omega) only [hA, OK, emaU, Int.reduceToNat, s_bat, reduceCtorEq] at hbr) <;> (try ((with_reducible exfalso); omega)))
          | ((with_reducible refine runK hA hd hQ 200 ?hk ?_); (case hk => exact trivial); (conv => arg 9; cbv); (try simp only [OK]))
          | ((with_reducible refine need_of ?hn ?_); (case hn => ((simp (disch := omega) only [hA, OK, emaU, Int.reduceToNat, s_bat]) <;> omega)))
          | (refine CallOK.of (goodF_of F57_ok) (Tri.mono (textR_ok _ _) fun v hh hx => ?_); (obtain ⟨⟨b, hv, hb⟩, he⟩ := hx; subst hv; subst he; cases b <;> simp (disch := omega) only [hA, OK, emaU, Int.reduceToNat, s_bat, Bool.false_eq_true, true_iff, false_iff, eq_self, reduceCtorEq] at hb) <;> (try ((with_reducible exfalso); omega)))
          | fail
        all_goals (try (with_reducible refine FinR.self ?_; first | refine FinR.bl rfl ?_ | refine FinR.bs rfl ?_ | refine FinR.blh rfl ?_ rfl | refine FinR.bsh rfl ?_ rfl))
        all_goals (try simp (disch := omega) only [hA, OK, emaU, Int.reduceToNat, s_bat, Bool.false_eq_true, true_iff, false_iff, eq_self, iff_true, iff_false])
        all_goals (try rw [if_pos (by omega)])
        all_goals (first | omega | (simp; done) | (simp; omega) | (simp_all; done) | (simp_all; omega))
      · have hf := fitsRight_num k n t c (by omega) ht
        rw [show kindX k = k from if_neg (by omega)] at hs
        unfold cellsX at hs hf
        with_reducible refine runS hA hd hQ 200 ?hk ?_
        case hk => exact trivial
        conv => arg 9; cbv
        try simp only [OK]
        repeat' first
          | (with_reducible refine OKK.loop ?_)
          | (with_reducible refine OKK.again ?_)
          | ((with_reducible refine opt_of (fun hop => ?_) (fun xop hop => ?_)) <;> (try simp (disch := omega) only [hA, OK, emaU, Int.reduceToNat, s_bat] at hop))
          | ((with_reducible refine ⟨fun hbr => ?_, fun hbr => ?_⟩) <;> (try simp (disch := omega) only [hA, OK, emaU, Int.reduceToNat, s_bat, reduceCtorEq] at hbr) <;> (try ((with_reducible exfalso); omega)))
          | ((with_reducible refine runK hA hd hQ 200 ?hk ?_); (case hk => exact trivial); (conv => arg 9; cbv); (try simp only [OK]))
          | ((with_reducible refine need_of ?hn ?_); (case hn => ((simp (disch := omega) only [hA, OK, emaU, Int.reduceToNat, s_bat]) <;> omega)))
          | (refine CallOK.of (goodF_of F57_ok) (Tri.mono (textR_ok _ _) fun v hh hx => ?_); (obtain ⟨⟨b, hv, hb⟩, he⟩ := hx; subst hv; subst he; cases b <;> simp (disch := omega) only [hA, OK, emaU, Int.reduceToNat, s_bat, Bool.false_eq_true, true_iff, false_iff, eq_self, reduceCtorEq] at hb) <;> (try ((with_reducible exfalso); omega)))
          | fail
        · refine CallOK.of (goodF_of F49_ok) (Tri.mono (hs _) fun v hh hx => ?_)
          obtain ⟨hv, hh'⟩ := hx
          subst hv; subst hh'
          with_reducible refine runK hA hd hQ 1 ?hk ?_
          case hk => exact trivial
          conv => arg 9; cbv
          try simp only [OK]
          repeat' first
            | (with_reducible refine OKK.loop ?_)
            | (with_reducible refine OKK.again ?_)
            | (with_reducible refine And.intro trivial ?_)
            | ((with_reducible refine opt_of (fun hop => ?_) (fun xop hop => ?_)) <;> (try simp (disch := omega) only [hA, OK, emaU, Int.reduceToNat, s_bat] at hop))
            | ((with_reducible refine ⟨fun hbr => ?_, fun hbr => ?_⟩) <;> (try simp (disch := omega) only [hA, OK, emaU, Int.reduceToNat, s_bat, reduceCtorEq] at hbr) <;> (try ((with_reducible exfalso); omega)))
            | ((with_reducible refine runK hA hd hQ 200 ?hk ?_); (case hk => exact trivial); (conv => arg 9; cbv); (try simp only [OK]))
            | ((with_reducible refine need_of ?hn ?_); (case hn => ((simp (disch := omega) only [hA, OK, emaU, Int.reduceToNat, s_bat]) <;> omega)))
            | (refine CallOK.of (goodF_of F67_ok) (Tri.mono (hf _) fun v hh hx => ?_); (obtain ⟨⟨b, hv, hb⟩, he⟩ := hx; subst hv; subst he; cases b <;> simp (disch := omega) only [hA, OK, emaU, Int.reduceToNat, s_bat, Bool.false_eq_true, true_iff, false_iff, eq_self, reduceCtorEq] at hb) <;> (try ((with_reducible exfalso); omega)))
            | fail
          all_goals (try (with_reducible refine FinR.self ?_; first | refine FinR.bl rfl ?_ | refine FinR.bs rfl ?_ | refine FinR.blh rfl ?_ rfl | refine FinR.bsh rfl ?_ rfl))
          all_goals (try simp (disch := omega) only [hA, OK, emaU, Int.reduceToNat, s_bat, Bool.false_eq_true, true_iff, false_iff, eq_self, iff_true, iff_false])
          all_goals (try rw [if_neg (show ¬ 12 ≤ k by omega)])
          all_goals first
            | exact ⟨trivial, trivial, hb.2⟩
            | (have h0 := he.1 (by assumption); exact fun h => hb ⟨by omega, h.2.2⟩)
        · skip
          all_goals (try (with_reducible refine FinR.self ?_; first | refine FinR.bl rfl ?_ | refine FinR.bs rfl ?_ | refine FinR.blh rfl ?_ rfl | refine FinR.bsh rfl ?_ rfl))
          all_goals (try simp (disch := omega) only [hA, OK, emaU, Int.reduceToNat, s_bat, Bool.false_eq_true, true_iff, false_iff, eq_self, iff_true, iff_false])
          all_goals (rw [if_neg (show ¬ 12 ≤ k by omega)]; exact fun h => absurd (he.2 h.2.2.1) (by assumption))
    · skip
      with_reducible refine runS hA hd hQ 200 ?hk ?_
      case hk => exact trivial
      conv => arg 9; cbv
      try simp only [OK]
      repeat' first
        | (with_reducible refine OKK.loop ?_)
        | (with_reducible refine OKK.again ?_)
        | ((with_reducible refine opt_of (fun hop => ?_) (fun xop hop => ?_)) <;> (try simp (disch := omega) only [hA, OK, emaU, Int.reduceToNat, s_bat] at hop))
        | ((with_reducible refine ⟨fun hbr => ?_, fun hbr => ?_⟩) <;> (try simp (disch := omega) only [hA, OK, emaU, Int.reduceToNat, s_bat, reduceCtorEq] at hbr) <;> (try ((with_reducible exfalso); omega)))
        | ((with_reducible refine runK hA hd hQ 200 ?hk ?_); (case hk => exact trivial); (conv => arg 9; cbv); (try simp only [OK]))
        | ((with_reducible refine need_of ?hn ?_); (case hn => ((simp (disch := omega) only [hA, OK, emaU, Int.reduceToNat, s_bat]) <;> omega)))
        | fail
      all_goals (try (with_reducible refine FinR.self ?_; first | refine FinR.bl rfl ?_ | refine FinR.bs rfl ?_ | refine FinR.blh rfl ?_ rfl | refine FinR.bsh rfl ?_ rfl))
      all_goals (try simp (disch := omega) only [hA, OK, emaU, Int.reduceToNat, s_bat, Bool.false_eq_true, true_iff, false_iff, eq_self, iff_true, iff_false])
      all_goals simp
  · cases b
    all_goals
      with_reducible refine runS hA hd hQ 200 ?hk ?_
      case hk => exact trivial
      conv => arg 9; cbv
      try simp only [OK]
      repeat' first
        | (with_reducible refine OKK.loop ?_)
        | (with_reducible refine OKK.again ?_)
        | ((with_reducible refine opt_of (fun hop => ?_) (fun xop hop => ?_)) <;> (try simp (disch := omega) only [hA, OK, emaU, Int.reduceToNat, s_bat] at hop))
        | ((with_reducible refine ⟨fun hbr => ?_, fun hbr => ?_⟩) <;> (try simp (disch := omega) only [hA, OK, emaU, Int.reduceToNat, s_bat, reduceCtorEq] at hbr) <;> (try ((with_reducible exfalso); omega)))
        | ((with_reducible refine runK hA hd hQ 200 ?hk ?_); (case hk => exact trivial); (conv => arg 9; cbv); (try simp only [OK]))
        | ((with_reducible refine need_of ?hn ?_); (case hn => ((simp (disch := omega) only [hA, OK, emaU, Int.reduceToNat, s_bat]) <;> omega)))
        | fail
    all_goals (try (with_reducible refine FinR.self ?_; first | refine FinR.bl rfl ?_ | refine FinR.bs rfl ?_ | refine FinR.blh rfl ?_ rfl | refine FinR.bsh rfl ?_ rfl))
    all_goals (try simp (disch := omega) only [hA, OK, emaU, Int.reduceToNat, s_bat, Bool.false_eq_true, true_iff, false_iff, eq_self, iff_true, iff_false])
    all_goals simp [hl]
theorem boundV_ok (k : Int) (hk : 2 ≤ k ∧ k ≤ 14) (v : VP) (hv : v.ok) (h : EH) : Tri Tryz.prog gs 46 [.lit (.int .i64 k), .agg v.cells] h fun x h' => IsP (v.bnd k) x ∧ h' = h :=
  boundR_ok k hk v.b v.n v.t v.ln v.c hv.2.1 hv.2.2 h
set_option maxHeartbeats 4000000 in
theorem kindOf_ok (f g : Fld) (hall : allF f) (hcore : Core f g) (h : EH) : Tri Tryz.prog gs 21 [.agg (cellsF f)] h fun v h' => v = .lit (.int .i64 g.kind) ∧ h' = h := by
  refine Tri.valC rfl (by rw [cellsF_eq]; rfl) (Tri_of F21_ok fun I0 ρ0 w0 Q hρ hQ => ?_) h
  obtain ⟨A, hA⟩ : ∃ A, A = stdA := ⟨_, rfl⟩
  have hpl := plainR_ok f g hall hcore
  unfold PlainV at hpl
  rw [cellsF_eq] at hpl ⊢
  generalize cellsFs f.kids = kc, f.kids.length = kn, f.nm = nm, f.nul = nul, f.kind = k, f.width = w, f.id = i, f.idx = x at *
  generalize cellsFs g.kids = gc, g.kids.length = gn, g.kind = gk, g.width = gw, g.id = gi, g.idx = gx at *
  with_reducible refine runS hA hd hQ 200 ?hk ?_
  case hk => exact trivial
  conv => arg 9; cbv
  try simp only [OK]
  repeat' first
    | (with_reducible refine OKK.loop ?_)
    | (with_reducible refine OKK.again ?_)
    | ((with_reducible refine opt_of (fun hop => ?_) (fun xop hop => ?_)) <;> (try simp (disch := omega) only [hA, OK, emaU, Int.reduceToNat, s_bat] at hop))
    | ((with_reducible refine ⟨fun hbr => ?_, fun hbr => ?_⟩) <;> (try simp (disch := omega) only [hA, OK, emaU, Int.reduceToNat, s_bat, reduceCtorEq] at hbr) <;> (try ((with_reducible exfalso); omega)))
    | ((with_reducible refine runK hA hd hQ 200 ?hk ?_); (case hk => exact trivial); (conv => arg 9; cbv); (try simp only [OK]))
    | ((with_reducible refine need_of ?hn ?_); (case hn => ((simp (disch := omega) only [hA, OK, emaU, Int.reduceToNat, s_bat]) <;> omega)))
    | fail
  refine CallOK.of (goodF_of F47_ok) (Tri.mono (hpl _) fun v hh hx => ?_)
  obtain ⟨⟨pm, pu, hv⟩, hh'⟩ := hx
  subst hv; subst hh'
  with_reducible refine runK hA hd hQ 1 ?hk ?_
  case hk => exact trivial
  conv => arg 9; cbv
  try simp only [OK]
  repeat' first
    | (with_reducible refine OKK.loop ?_)
    | (with_reducible refine OKK.again ?_)
    | ((with_reducible refine opt_of (fun hop => ?_) (fun xop hop => ?_)) <;> (try simp (disch := omega) only [hA, OK, emaU, Int.reduceToNat, s_bat] at hop))
    | ((with_reducible refine ⟨fun hbr => ?_, fun hbr => ?_⟩) <;> (try simp (disch := omega) only [hA, OK, emaU, Int.reduceToNat, s_bat, reduceCtorEq] at hbr) <;> (try ((with_reducible exfalso); omega)))
    | ((with_reducible refine runK hA hd hQ 200 ?hk ?_); (case hk => exact trivial); (conv => arg 9; cbv); (try simp only [OK]))
    | ((with_reducible refine need_of ?hn ?_); (case hn => ((simp (disch := omega) only [hA, OK, emaU, Int.reduceToNat, s_bat]) <;> omega)))
    | fail
  exact FinR.intro rfl rfl
set_option maxRecDepth 100000 in
set_option maxHeartbeats 4000000 in
theorem orderRB_ok (k : Int) (hk : 2 ≤ k ∧ k ≤ 14) (l m : VP) (hlo : l.ok) (hmo : m.ok) (hl : l.bnd k) (hm : m.bnd k) (h : EH) :
    Tri Tryz.prog gs 22 [.lit (.int .i64 k), .agg l.cells, .agg m.cells] h fun v h' => IsN .i64 (fun n => n = ordS k l.n m.n l.t m.t) v ∧ h' = h := by
  refine Tri.intC rfl (Tri_of F22_ok fun I0 ρ0 w0 Q hρ hQ => ?_) h
  obtain ⟨A, hA⟩ : ∃ A, A = stdA := ⟨_, rfl⟩
  obtain ⟨lb, ln, lt, ll, lc⟩ := l
  obtain ⟨mb, mn, mt, ml, mc⟩ := m
  obtain ⟨h1, h2, h3⟩ := hl
  obtain ⟨h4, h5, h6⟩ := hm
  simp only at h1 h2 h4 h5
  subst h1; subst h2; subst h4; subst h5
  have hs := simple_ok k
  have ho := orderR_ok k ln mn lt mt lc mc hk hlo.1 hmo.1
  obtain ⟨q, hq⟩ : ∃ q, q = kindX k := ⟨_, rfl⟩
  rw [← hq] at hs ho
  unfold cellsX at hs ho
  unfold VP.cells
  simp only at hQ ⊢
  with_reducible refine runS hA hd hQ 200 ?hk ?_
  case hk => exact trivial
  conv => arg 9; cbv
  try simp only [OK]
  repeat' first
    | (with_reducible refine OKK.loop ?_)
    | (with_reducible refine OKK.again ?_)
    | ((with_reducible refine opt_of (fun hop => ?_) (fun xop hop => ?_)) <;> (try simp (disch := omega) only [hA, OK, emaU, Int.reduceToNat, s_bat] at hop))
    | ((with_reducible refine ⟨fun hbr => ?_, fun hbr => ?_⟩) <;> (try simp (disch := omega) only [hA, OK, emaU, Int.reduceToNat, s_bat, reduceCtorEq] at hbr) <;> (try ((with_reducible exfalso); omega)))
    | ((with_reducible refine runK hA hd hQ 200 ?hk ?_); (case hk => exact trivial); (conv => arg 9; cbv); (try simp only [OK]))
    | ((with_reducible refine need_of ?hn ?_); (case hn => ((simp (disch := omega) only [hA, OK, emaU, Int.reduceToNat, s_bat]) <;> omega)))
    | fail
  refine CallOK.of (goodF_of F49_ok) (Tri.mono (hs _) fun v hh hx => ?_)
  obtain ⟨hv, hh'⟩ := hx
  subst hv; subst hh'
  with_reducible refine runK hA hd hQ 1 ?hk ?_
  case hk => exact trivial
  conv => arg 9; cbv
  try simp only [OK]
  repeat' first
    | (with_reducible refine OKK.loop ?_)
    | (with_reducible refine OKK.again ?_)
    | (with_reducible refine And.intro trivial ?_)
    | ((with_reducible refine opt_of (fun hop => ?_) (fun xop hop => ?_)) <;> (try simp (disch := omega) only [hA, OK, emaU, Int.reduceToNat, s_bat] at hop))
    | ((with_reducible refine ⟨fun hbr => ?_, fun hbr => ?_⟩) <;> (try simp (disch := omega) only [hA, OK, emaU, Int.reduceToNat, s_bat, reduceCtorEq] at hbr) <;> (try ((with_reducible exfalso); omega)))
    | ((with_reducible refine runK hA hd hQ 200 ?hk ?_); (case hk => exact trivial); (conv => arg 9; cbv); (try simp only [OK]))
    | ((with_reducible refine need_of ?hn ?_); (case hn => ((simp (disch := omega) only [hA, OK, emaU, Int.reduceToNat, s_bat]) <;> omega)))
    | (refine CallOK.of (goodF_of F48_ok) (Tri.mono (ho _) fun v hh hx => ?_); (obtain ⟨⟨z, hv, hz⟩, he⟩ := hx; subst hv; subst he))
    | fail
  exact FinR.n rfl hz
end Go.Proofs.YtecephhhjhpcjaaGreatDoor.Stats
end
section
set_option linter.unusedVariables false
set_option linter.unusedSimpArgs false
-- emaX: s_bat
namespace Go.Proofs.YtecephhhjhpcjaaGreatDoor.Stats
open Go Go.Proofs.YtecephhhjhpcjaaGreatDoor Go.Proofs.YtecephhhjhpcjaaGreatDoor.Em
set_option maxRecDepth 100000 in
set_option maxHeartbeats 8000000 in
theorem isR_ok (f g : Fld) (hall : allF f) (hcore : Core f g) (hg : allF g) (rows nulls : Int) (has : Bool) (l m : VP) (hlo : l.ok) (hmo : m.ok) (h : EH) :
    Tri Tryz.prog gs 20 [.agg (cellsF f), .agg ([.lit (.int .i64 rows), .lit (.int .i64 nulls), .lit (.bool has)] ++ l.cells ++ m.cells)] h fun v h' => IsP (statP g.kind rows nulls has l m) v ∧ h' = h := by
  refine Tri.boolC (by rw [cellsF_eq]; rfl) (Tri_of F20_ok fun I0 ρ0 w0 Q hρ hQ => ?_) h
  obtain ⟨A, hA⟩ : ∃ A, A = stdA := ⟨_, rfl⟩
  have hpl := kindOf_ok f g hall hcore
  have hnl := zeroR_ok l.b l.n l.t l.ln l.c
  have hnm := zeroR_ok m.b m.n m.t m.ln m.c
  have hbl := fun (hk : 2 ≤ g.kind ∧ g.kind ≤ 14) => boundV_ok g.kind hk l hlo
  have hbm := fun (hk : 2 ≤ g.kind ∧ g.kind ≤ 14) => boundV_ok g.kind hk m hmo
  have hor := fun (hk : 2 ≤ g.kind ∧ g.kind ≤ 14) (h1 : l.bnd g.kind) (h2 : m.bnd g.kind) => orderRB_ok g.kind hk l m hlo hmo h1 h2
  unfold VP.cells at *
  unfold VP.bnd at hbl hbm
  rw [cellsF_eq] at *
  simp only [List.cons_append, List.nil_append, List.append_assoc]
  obtain ⟨lb, ln, lt, ll, lc⟩ := l
  obtain ⟨mb, mn, mt, ml, mc⟩ := m
  simp only at *
  generalize cellsFs f.kids = kc, f.kids.length = kn, f.nm = nm, f.nul = nul, f.kind = k, f.width = w, f.id = i, f.idx = x at *
  generalize g.kind = gk at *
  cases has
  · skip
    with_reducible refine runS hA hd hQ 200 ?hk ?_
    case hk => exact trivial
    conv => arg 9; cbv
    try simp only [OK]
    repeat' first
      | (with_reducible refine OKK.loop ?_)
      | (with_reducible refine OKK.again ?_)
      | ((with_reducible refine opt_of (fun hop => ?_) (fun xop hop => ?_)) <;> (try simp (disch := omega) only [hA, OK, emaU, Int.reduceToNat, s_bat] at hop))
      | ((with_reducible refine ⟨fun hbr => ?_, fun hbr => ?_⟩) <;> (try simp (disch := omega) only [hA, OK, emaU, Int.reduceToNat, s_bat, reduceCtorEq] at hbr) <;> (try ((with_reducible exfalso); omega)))
      | ((with_reducible refine runK hA hd hQ 200 ?hk ?_); (case hk => exact trivial); (conv => arg 9; cbv); (try simp only [OK]))
      | ((with_reducible refine need_of ?hn ?_); (case hn => ((simp (disch := omega) only [hA, OK, emaU, Int.reduceToNat, s_bat]) <;> omega)))
      | (refine CallOK.of (goodF_of F44_ok) (Tri.mono (hnl _) fun v hh hx => ?_); (obtain ⟨⟨b, hv, hb⟩, he⟩ := hx; subst hv; subst he; cases b <;> simp (disch := omega) only [hA, OK, emaU, Int.reduceToNat, s_bat, Bool.false_eq_true, true_iff, false_iff, eq_self, reduceCtorEq] at hb) <;> (try ((with_reducible exfalso); omega)))
      | (refine CallOK.of (goodF_of F44_ok) (Tri.mono (hnm _) fun v hh hx => ?_); (obtain ⟨⟨b, hv, hb⟩, he⟩ := hx; subst hv; subst he; cases b <;> simp (disch := omega) only [hA, OK, emaU, Int.reduceToNat, s_bat, Bool.false_eq_true, true_iff, false_iff, eq_self, reduceCtorEq] at hb) <;> (try ((with_reducible exfalso); omega)))
      | fail
    all_goals (try (with_reducible refine FinR.self ?_; first | refine FinR.bl rfl ?_ | refine FinR.bs rfl ?_ | refine FinR.blh rfl ?_ rfl | refine FinR.bsh rfl ?_ rfl))
    all_goals (try simp (disch := omega) only [hA, OK, emaU, Int.reduceToNat, s_bat, Bool.false_eq_true, true_iff, false_iff, eq_self, iff_true, iff_false])
    all_goals first
      | exact fun h => by have h1 := h.1; have h2 := h.2.1; have h3 := h.2.2.1; have h4 := h.2.2.2.1; omega
      | exact fun h => absurd (h.2.2.2.2.1 rfl).1 (by assumption : ¬ noneP lb ln lt ll)
      | exact fun h => absurd (h.2.2.2.2.1 rfl).2 (by assumption : ¬ noneP mb mn mt ml)
      | exact ⟨by omega, by omega, by omega, by omega, fun _ => ⟨(by assumption : noneP lb ln lt ll), (by assumption : noneP mb mn mt ml)⟩, fun h => (nomatch h)⟩
  · skip
    with_reducible refine runS hA hd hQ 200 ?hk ?_
    case hk => exact trivial
    conv => arg 9; cbv
    try simp only [OK]
    repeat' first
      | (with_reducible refine OKK.loop ?_)
      | (with_reducible refine OKK.again ?_)
      | ((with_reducible refine opt_of (fun hop => ?_) (fun xop hop => ?_)) <;> (try simp (disch := omega) only [hA, OK, emaU, Int.reduceToNat, s_bat] at hop))
      | ((with_reducible refine ⟨fun hbr => ?_, fun hbr => ?_⟩) <;> (try simp (disch := omega) only [hA, OK, emaU, Int.reduceToNat, s_bat, reduceCtorEq] at hbr) <;> (try ((with_reducible exfalso); omega)))
      | ((with_reducible refine runK hA hd hQ 200 ?hk ?_); (case hk => exact trivial); (conv => arg 9; cbv); (try simp only [OK]))
      | ((with_reducible refine need_of ?hn ?_); (case hn => ((simp (disch := omega) only [hA, OK, emaU, Int.reduceToNat, s_bat]) <;> omega)))
      | fail
    rotate_right
    · refine CallOK.of (goodF_of F21_ok) (Tri.mono (hpl _) fun v hh hx => ?_)
      obtain ⟨hv, hh'⟩ := hx
      subst hv; subst hh'
      with_reducible refine runK hA hd hQ 1 ?hk ?_
      case hk => exact trivial
      conv => arg 9; cbv
      try simp only [OK]
      repeat' first
        | (with_reducible refine OKK.loop ?_)
        | (with_reducible refine OKK.again ?_)
        | ((with_reducible refine opt_of (fun hop => ?_) (fun xop hop => ?_)) <;> (try simp (disch := omega) only [hA, OK, emaU, Int.reduceToNat, s_bat] at hop))
        | ((with_reducible refine ⟨fun hbr => ?_, fun hbr => ?_⟩) <;> (try simp (disch := omega) only [hA, OK, emaU, Int.reduceToNat, s_bat, reduceCtorEq] at hbr) <;> (try ((with_reducible exfalso); omega)))
        | ((with_reducible refine runK hA hd hQ 200 ?hk ?_); (case hk => exact trivial); (conv => arg 9; cbv); (try simp only [OK]))
        | ((with_reducible refine need_of ?hn ?_); (case hn => ((simp (disch := omega) only [hA, OK, emaU, Int.reduceToNat, s_bat]) <;> omega)))
        | (refine CallOK.of (goodF_of F45_ok) (Tri.mono (bounded_ok _ _) fun v hh hx => ?_); (obtain ⟨⟨b, hv, hb⟩, he⟩ := hx; subst hv; subst he; cases b <;> simp (disch := omega) only [hA, OK, emaU, Int.reduceToNat, s_bat, Bool.false_eq_true, true_iff, false_iff, eq_self, reduceCtorEq] at hb) <;> (try ((with_reducible exfalso); omega)))
        | (refine CallOK.of (goodF_of F46_ok) (Tri.mono (hbl (by assumption) _) fun v hh hx => ?_); (obtain ⟨⟨b, hv, hb⟩, he⟩ := hx; subst hv; subst he; cases b <;> simp (disch := omega) only [hA, OK, emaU, Int.reduceToNat, s_bat, Bool.false_eq_true, true_iff, false_iff, eq_self, reduceCtorEq] at hb) <;> (try ((with_reducible exfalso); omega)))
        | (refine CallOK.of (goodF_of F46_ok) (Tri.mono (hbm (by assumption) _) fun v hh hx => ?_); (obtain ⟨⟨b, hv, hb⟩, he⟩ := hx; subst hv; subst he; cases b <;> simp (disch := omega) only [hA, OK, emaU, Int.reduceToNat, s_bat, Bool.false_eq_true, true_iff, false_iff, eq_self, reduceCtorEq] at hb) <;> (try ((with_reducible exfalso); omega)))
        | (refine CallOK.of (goodF_of F22_ok) (Tri.mono (hor (by assumption) (by assumption : bndP gk lb ln lt ll) (by assumption : bndP gk mb mn mt ml) _) fun v hh hx => ?_); (obtain ⟨⟨z, hv, hz⟩, he⟩ := hx; subst hv; subst he))
        | fail
      all_goals (try (with_reducible refine FinR.self ?_; first | refine FinR.bl rfl ?_ | refine FinR.bs rfl ?_ | refine FinR.blh rfl ?_ rfl | refine FinR.bsh rfl ?_ rfl))
      all_goals (try simp (disch := omega) only [hA, OK, emaU, Int.reduceToNat, s_bat, Bool.false_eq_true, true_iff, false_iff, eq_self, iff_true, iff_false])
      all_goals first
        | exact fun h => absurd (h.2.2.2.2.2 rfl).1 (by assumption)
        | exact fun h => absurd (by assumption) (h.2.2.2.2.2 rfl).2.1
        | exact fun h => absurd (h.2.2.2.2.2 rfl).2.2.1 (by assumption : ¬ bndP gk lb ln lt ll)
        | exact fun h => absurd (h.2.2.2.2.2 rfl).2.2.2.1 (by assumption : ¬ bndP gk mb mn mt ml)
        | (subst hz; refine ⟨fun h => ⟨by omega, by omega, by omega, by omega, fun h => (nomatch h), fun _ => ⟨?_, ?_, ?_, ?_, h⟩⟩, fun h => (h.2.2.2.2.2 rfl).2.2.2.2⟩ <;> assumption)
    all_goals (try (with_reducible refine FinR.self ?_; first | refine FinR.bl rfl ?_ | refine FinR.bs rfl ?_ | refine FinR.blh rfl ?_ rfl | refine FinR.bsh rfl ?_ rfl))
    all_goals (try simp (disch := omega) only [hA, OK, emaU, Int.reduceToNat, s_bat, Bool.false_eq_true, true_iff, false_iff, eq_self, iff_true, iff_false])
    all_goals exact fun h => by have h1 := h.1; have h2 := h.2.1; have h3 := h.2.2.1; have h4 := h.2.2.2.1; omega
end Go.Proofs.YtecephhhjhpcjaaGreatDoor.Stats
end
section
set_option linter.unusedVariables false
set_option linter.unusedSimpArgs false
-- emaX: s_bat
namespace Go.Proofs.YtecephhhjhpcjaaGreatDoor.Stats
open Go Go.Proofs.YtecephhhjhpcjaaGreatDoor Go.Proofs.YtecephhhjhpcjaaGreatDoor.Em
/-- a stat's parts -/
structure StP where
  rows : Int
  nulls : Int
  has : Bool
  l : VP
  m : VP
def StP.cells (s : StP) : List EV := [.lit (.int .i64 s.rows), .lit (.int .i64 s.nulls), .lit (.bool s.has)] ++ s.l.cells ++ s.m.cells
def StP.ok (s : StP) : Prop := i64r s.rows ∧ i64r s.nulls ∧ s.l.ok ∧ s.m.ok
def StP.may (k : Int) (s : StP) : Prop := statP k s.rows s.nulls s.has s.l s.m
def vp0 : VP := ⟨false, 0, ⟨#[]⟩, 0, []⟩
def st0 : StP := ⟨0, 0, false, vp0, vp0⟩
/-- the same value, its empty list apart -/
def VP.same (v w : VP) : Prop := v.b = w.b ∧ v.n = w.n ∧ v.t = w.t ∧ v.ln = 0 ∧ w.ln = 0
def StP.same (s t : StP) : Prop := s.rows = t.rows ∧ s.nulls = t.nulls ∧ s.has = t.has ∧ s.l.same t.l ∧ s.m.same t.m
/-- the plain kind of a field -/
noncomputable def ck (f : Fld) : Int := open Classical in if h : ∃ g, Core f g then (Classical.choose h).kind else 0
theorem ck_eq {f g : Fld} (h : Core f g) : ck f = g.kind := by
  have hx : ∃ g, Core f g := ⟨g, h⟩
  rw [ck, dif_pos hx, (Classical.choose_spec hx).det h]
/-- two together -/
noncomputable def mergeS (may : Prop) (k : Int) (a b : StP) : StP × Int := open Classical in
  if ¬ may then (st0, 5) else if ¬ (a.may k ∧ b.may k) then (st0, 7) else if 1048576 < a.rows + b.rows then (st0, 3) else
  (if a.nulls = a.rows then ⟨a.rows + b.rows, a.nulls + b.nulls, b.has, b.l, b.m⟩ else if b.nulls = b.rows then ⟨a.rows + b.rows, a.nulls + b.nulls, a.has, a.l, a.m⟩
   else if a.has = true ∧ b.has = true then ⟨a.rows + b.rows, a.nulls + b.nulls, true, if ordS k b.l.n a.l.n b.l.t a.l.t < 0 then b.l else a.l, if 0 < ordS k b.m.n a.m.n b.m.t a.m.t then b.m else a.m⟩
   else ⟨a.rows + b.rows, a.nulls + b.nulls, false, vp0, vp0⟩, 0)
def MergeV (f : Fld) (a b : StP) (v : EV) : Prop := ∃ (s : StP) (e : Int), v = .tup [.agg s.cells, .lit (.int .i64 e)] ∧ s.same (mergeS (mayF f) (ck f) a b).1 ∧ e = (mergeS (mayF f) (ck f) a b).2
theorem MergeV.cl {f : Fld} {a b : StP} {v : EV} (h : MergeV f a b v) : clE v = true := by obtain ⟨s, e, rfl, _⟩ := h; rfl
theorem Up.agg {l m : List EV} (h : l.length = m.length) (k : ∀ (j : Nat) (x y : EV), l[j]? = some x → m[j]? = some y → Up x y) : Up (.agg l) (.agg m) := fun w I ρ cv hr => by
  cases hr with
  | agg _ c vs hl hc =>
    refine .agg _ _ _ (by rw [← h]; exact hl) fun j e v he hv => ?_
    have hj : j < l.length := by rw [h]; exact (List.getElem?_eq_some_iff.1 he).1
    exact k j l[j] e (List.getElem?_eq_getElem hj) he _ _ _ _ (hc j _ v (List.getElem?_eq_getElem hj) hv)
theorem FinR.mg {rs : List ER} {s : St} {f : Fld} {a b : StP} {r n : Int} {hs : Bool} {b1 b2 : Bool} {n1 n2 e : Int} {t1 t2 : ByteArray} {L1 L2 : EV} {c1 c2 : List EV}
    (hv : retE rs s.t s.h = some (.tup [.agg [.lit (.int .i64 r), .lit (.int .i64 n), .lit (.bool hs), .lit (.bool b1), .lit (.int .i64 n1), .lit (.string t1), L1, .lit (.bool b2), .lit (.int .i64 n2), .lit (.string t2), L2], .lit (.int .i64 e)]))
    (h1 : Up L1 (.isl 0 none c1)) (h2 : Up L2 (.isl 0 none c2)) (h : StP.same ⟨r, n, hs, ⟨b1, n1, t1, 0, c1⟩, ⟨b2, n2, t2, 0, c2⟩⟩ (mergeS (mayF f) (ck f) a b).1 ∧ e = (mergeS (mayF f) (ck f) a b).2) :
    FinR rs (fun v _ => ∃ v', MergeV f a b v' ∧ Up v v') s := by
  refine ⟨_, hv, _, ⟨⟨r, n, hs, ⟨b1, n1, t1, 0, c1⟩, ⟨b2, n2, t2, 0, c2⟩⟩, e, rfl, h.1, h.2⟩, Up.tup2 (Up.agg rfl fun j x y hx hy => ?_) (Up.refl _)⟩
  match j, hx, hy with
  | 0, hx, hy => cases hx; cases hy; exact Up.refl _
  | 1, hx, hy => cases hx; cases hy; exact Up.refl _
  | 2, hx, hy => cases hx; cases hy; exact Up.refl _
  | 3, hx, hy => cases hx; cases hy; exact Up.refl _
  | 4, hx, hy => cases hx; cases hy; exact Up.refl _
  | 5, hx, hy => cases hx; cases hy; exact Up.refl _
  | 6, hx, hy => cases hx; cases hy; exact h1
  | 7, hx, hy => cases hx; cases hy; exact Up.refl _
  | 8, hx, hy => cases hx; cases hy; exact Up.refl _
  | 9, hx, hy => cases hx; cases hy; exact Up.refl _
  | 10, hx, hy => cases hx; cases hy; exact h2
theorem IsP.to {p q : Prop} {v : EV} (h : IsP p v) (e : p ↔ q) : IsP q v := by obtain ⟨b, h1, h2⟩ := h; exact ⟨b, h1, h2.trans e⟩
theorem Tri.isTo {P : Program} {G : List (List EV)} {f : FuncId} {args : List EV} {h : EH} {p q : Prop} (t : Tri P G f args h fun v h' => IsP p v ∧ h' = h) (e : p ↔ q) : Tri P G f args h fun v h' => IsP q v ∧ h' = h :=
  t.mono fun v h' hx => ⟨IsP.to hx.1 e, hx.2⟩
theorem sameV (b n t c c') : VP.same ⟨b, n, t, 0, c⟩ ⟨b, n, t, 0, c'⟩ := ⟨rfl, rfl, rfl, rfl, rfl⟩
theorem may_ln {k : Int} {s : StP} (h : s.may k) : s.l.ln = 0 ∧ s.m.ln = 0 := by
  obtain ⟨_, _, _, _, h1, h2⟩ := h
  cases hh : s.has with
  | false => exact ⟨(h1 hh).1.2.2.2, (h1 hh).2.2.2.2⟩
  | true => obtain ⟨_, _, h3, h4, _⟩ := h2 hh; exact ⟨h3.2.1, h4.2.1⟩
theorem mergeS_no {may : Prop} {k : Int} {a b : StP} (h : ¬ may) : mergeS may k a b = (st0, 5) := by rw [mergeS, if_pos h]
theorem mergeS_no2 {may : Prop} {k : Int} {a b : StP} (hm : may) (h : ¬ (a.may k ∧ b.may k)) : mergeS may k a b = (st0, 7) := by rw [mergeS, if_neg (not_not_intro hm), if_pos h]
theorem mergeS_no3 {may : Prop} {k : Int} {a b : StP} (hm : may) (h : a.may k ∧ b.may k) (hr : 1048576 < a.rows + b.rows) : mergeS may k a b = (st0, 3) := by rw [mergeS, if_neg (not_not_intro hm), if_neg (not_not_intro h), if_pos hr]
theorem mergeS_a {may : Prop} {k : Int} {a b : StP} (hm : may) (h : a.may k ∧ b.may k) (hr : ¬ 1048576 < a.rows + b.rows) (h1 : a.nulls = a.rows) : mergeS may k a b = (⟨a.rows + b.rows, a.nulls + b.nulls, b.has, b.l, b.m⟩, 0) := by
  rw [mergeS, if_neg (not_not_intro hm), if_neg (not_not_intro h), if_neg hr, if_pos h1]
theorem mergeS_b {may : Prop} {k : Int} {a b : StP} (hm : may) (h : a.may k ∧ b.may k) (hr : ¬ 1048576 < a.rows + b.rows) (h1 : ¬ a.nulls = a.rows) (h2 : b.nulls = b.rows) : mergeS may k a b = (⟨a.rows + b.rows, a.nulls + b.nulls, a.has, a.l, a.m⟩, 0) := by
  rw [mergeS, if_neg (not_not_intro hm), if_neg (not_not_intro h), if_neg hr, if_neg h1, if_pos h2]
theorem mergeS_n {may : Prop} {k : Int} {a b : StP} (hm : may) (h : a.may k ∧ b.may k) (hr : ¬ 1048576 < a.rows + b.rows) (h1 : ¬ a.nulls = a.rows) (h2 : ¬ b.nulls = b.rows) (h3 : ¬ (a.has = true ∧ b.has = true)) : mergeS may k a b = (⟨a.rows + b.rows, a.nulls + b.nulls, false, vp0, vp0⟩, 0) := by
  rw [mergeS, if_neg (not_not_intro hm), if_neg (not_not_intro h), if_neg hr, if_neg h1, if_neg h2, if_neg h3]
theorem mergeS_o {may : Prop} {k : Int} {a b : StP} (hm : may) (h : a.may k ∧ b.may k) (hr : ¬ 1048576 < a.rows + b.rows) (h1 : ¬ a.nulls = a.rows) (h2 : ¬ b.nulls = b.rows) (h3 : a.has = true ∧ b.has = true) :
    mergeS may k a b = (⟨a.rows + b.rows, a.nulls + b.nulls, true, if ordS k b.l.n a.l.n b.l.t a.l.t < 0 then b.l else a.l, if 0 < ordS k b.m.n a.m.n b.m.t a.m.t then b.m else a.m⟩, 0) := by
  rw [mergeS, if_neg (not_not_intro hm), if_neg (not_not_intro h), if_neg hr, if_neg h1, if_neg h2, if_pos h3]
theorem mgo {may : Prop} {k r n : Int} {a b : StP} {l m : VP} (hm : may) (h : a.may k ∧ b.may k) (hr : ¬ 1048576 < a.rows + b.rows) (h1 : ¬ a.nulls = a.rows) (h2 : ¬ b.nulls = b.rows) (h3 : a.has = true) (h4 : b.has = true)
    (hr1 : r = a.rows + b.rows) (hr2 : n = a.nulls + b.nulls) (hl : l.same (if ordS k b.l.n a.l.n b.l.t a.l.t < 0 then b.l else a.l)) (hg : m.same (if 0 < ordS k b.m.n a.m.n b.m.t a.m.t then b.m else a.m)) :
    StP.same ⟨r, n, true, l, m⟩ (mergeS may k a b).1 ∧ (0 : Int) = (mergeS may k a b).2 := by
  rw [mergeS_o hm h hr h1 h2 ⟨h3, h4⟩]; exact ⟨⟨hr1, hr2, rfl, hl, hg⟩, rfl⟩
set_option maxRecDepth 100000 in
set_option maxHeartbeats 16000000 in
theorem merge_ok (f : Fld) (hok : okF f) (a b : StP) (ha : a.ok) (hb0 : b.ok) (h : EH) :
    Tri Tryz.prog gs 6 [.agg (cellsF f), .agg a.cells, .agg b.cells] h fun v h' => MergeV f a b v ∧ h' = h := by
  have t : Tri Tryz.prog gs 6 [.agg (cellsF f), .agg a.cells, .agg b.cells] [] fun v _ => ∃ v', MergeV f a b v' ∧ Up v v' := by
    refine Tri_of F6_ok fun I0 ρ0 w0 Q hρ hQ => ?_
    obtain ⟨A, hA⟩ : ∃ A, A = stdA := ⟨_, rfl⟩
    have hck := checkField_ok f hok
    have hg := fun hm => core_ex (SizeOf.sizeOf f) f (Nat.le_refl _) (mayF_all hm)
    by_cases hm : mayF f
    · obtain ⟨g, hco, hga, _⟩ := hg hm
      have hall := mayF_all hm
      have hk := ck_eq hco
      have hsa := isStat_ok f g hall hco hga a.rows a.nulls a.has a.l a.m ha.2.2.1 ha.2.2.2
      have hsb := isStat_ok f g hall hco hga b.rows b.nulls b.has b.l b.m hb0.2.2.1 hb0.2.2.2
      have hpl := plain_ok f g hall hco
      unfold PlainV at hpl
      have hzero := fits_zero hga
      have hor := fun nm nul (hk : 2 ≤ g.kind ∧ g.kind ≤ 14) (l m : VP) h1 h2 (h3 : l.bnd g.kind) (h4 : m.bnd g.kind) => orderB_ok nm nul g.kind g.width g.id g.idx g.kids.length (cellsFs g.kids) hk (hzero hk) l m h1 h2 h3 h4
      have hma : ∀ s : StP, s.may g.kind → s.l.ln = 0 ∧ s.m.ln = 0 := fun s hs => may_ln hs
      rw [cellsF_eq] at *
      generalize cellsFs f.kids = kc, f.kids.length = kn, f.nm = nm, f.nul = nul, f.kind = k, f.width = w, f.id = i, f.idx = x at *
      generalize cellsFs g.kids = gc, g.kids.length = gn, g.width = gw, g.id = gi, g.idx = gx at *
      generalize g.kind = gk at *
      have hy := hQ
      obtain ⟨ar, an, ah, ⟨alb, aln, alt, all_, alc⟩, ⟨amb, amn, amt, aml, amc⟩⟩ := a
      obtain ⟨br, bn, bh, ⟨blb, bln, blt, bll, blc⟩, ⟨bmb, bmn, bmt, bml, bmc⟩⟩ := b
      by_cases hA1 : StP.may gk ⟨ar, an, ah, ⟨alb, aln, alt, all_, alc⟩, ⟨amb, amn, amt, aml, amc⟩⟩
      · by_cases hB1 : StP.may gk ⟨br, bn, bh, ⟨blb, bln, blt, bll, blc⟩, ⟨bmb, bmn, bmt, bml, bmc⟩⟩
        · obtain ⟨e1, e2⟩ := may_ln hA1
          obtain ⟨e3, e4⟩ := may_ln hB1
          simp only at e1 e2 e3 e4
          subst e1; subst e2; subst e3; subst e4
          have hsa := fun h => Tri.isTo (hsa h) (iff_true_intro hA1)
          have hsb := fun h => Tri.isTo (hsb h) (iff_true_intro hB1)
          have hrr : 0 ≤ ar ∧ ar ≤ 1048576 ∧ 0 ≤ an ∧ an ≤ ar ∧ 0 ≤ br ∧ br ≤ 1048576 ∧ 0 ≤ bn ∧ bn ≤ br := ⟨hA1.1, hA1.2.1, hA1.2.2.1, hA1.2.2.2.1, hB1.1, hB1.2.1, hB1.2.2.1, hB1.2.2.2.1⟩
          have hr1 : A.ib .add .i64 ar br = ar + br := by simp (disch := omega) only [hA, OK, emaU, Int.reduceToNat, s_bat]
          have hr2 : A.ib .add .i64 an bn = an + bn := by simp (disch := omega) only [hA, OK, emaU, Int.reduceToNat, s_bat]
          simp only [StP.cells, VP.cells, List.cons_append, List.nil_append, List.append_assoc] at hsa hsb ⊢
          cases ah <;> cases bh
          all_goals
            with_reducible refine runS hA hd hQ 200 ?hk ?_
            case hk => exact trivial
            conv => arg 9; cbv
            try simp only [OK]
            repeat' first
              | (with_reducible refine OKK.loop ?_)
              | (with_reducible refine OKK.again ?_)
              | ((with_reducible refine opt_of (fun hop => ?_) (fun xop hop => ?_)) <;> (try simp (disch := omega) only [hA, OK, emaU, Int.reduceToNat, s_bat] at hop))
              | ((with_reducible refine ⟨fun hbr => ?_, fun hbr => ?_⟩) <;> (try simp (disch := omega) only [hA, OK, emaU, Int.reduceToNat, s_bat, reduceCtorEq] at hbr) <;> (try ((with_reducible exfalso); omega)))
              | ((with_reducible refine runK hA hd hQ 200 ?hk ?_); (case hk => exact trivial); (conv => arg 9; cbv); (try simp only [OK]))
              | ((with_reducible refine need_of ?hn ?_); (case hn => ((simp (disch := omega) only [hA, OK, emaU, Int.reduceToNat, s_bat]) <;> omega)))
              | fail
            refine CallOK.of (goodF_of F15_ok) (Tri.mono (hck _) fun v hh hx => ?_)
            obtain ⟨⟨e, at', pn, pc, hv, he⟩, hh'⟩ := hx
            subst hv; subst hh'
            with_reducible refine runK hA hd hQ 1 ?hk ?_
            case hk => exact trivial
            conv => arg 9; cbv
            try simp only [OK]
            have he0 : e = 0 := he.2 hm
            subst he0
          rotate_right
          · have hAt := hA1.2.2.2.2.2 rfl
            have hBt := hB1.2.2.2.2.2 rfl
            have ho1 := fun pm pu => hor pm pu hAt.1 ⟨blb, bln, blt, 0, blc⟩ ⟨alb, aln, alt, 0, alc⟩ hb0.2.2.1 ha.2.2.1 hBt.2.2.1 hAt.2.2.1
            have ho2 := fun pm pu => hor pm pu hAt.1 ⟨bmb, bmn, bmt, 0, bmc⟩ ⟨amb, amn, amt, 0, amc⟩ hb0.2.2.2 ha.2.2.2 hBt.2.2.2.1 hAt.2.2.2.1
            simp only [VP.cells] at ho1 ho2
            repeat' first
              | (with_reducible refine OKK.loop ?_)
              | (with_reducible refine OKK.again ?_)
              | ((with_reducible refine opt_of (fun hop => ?_) (fun xop hop => ?_)) <;> (try simp (disch := omega) only [hA, OK, emaU, Int.reduceToNat, s_bat] at hop))
              | ((with_reducible refine ⟨fun hbr => ?_, fun hbr => ?_⟩) <;> (try simp (disch := omega) only [hA, OK, emaU, Int.reduceToNat, s_bat, reduceCtorEq] at hbr) <;> (try ((with_reducible exfalso); omega)))
              | ((with_reducible refine runK hA hd hQ 200 ?hk ?_); (case hk => exact trivial); (conv => arg 9; cbv); (try simp only [OK]))
              | ((with_reducible refine need_of ?hn ?_); (case hn => ((simp (disch := omega) only [hA, OK, emaU, Int.reduceToNat, s_bat]) <;> omega)))
              | (refine CallOK.of (goodF_of F16_ok) (Tri.mono (hsa _) fun v hh hx => ?_); (obtain ⟨⟨b, hv, hb⟩, he⟩ := hx; subst hv; subst he; cases b <;> simp (disch := omega) only [hA, OK, emaU, Int.reduceToNat, s_bat, Bool.false_eq_true, true_iff, false_iff, eq_self, reduceCtorEq] at hb) <;> (try ((with_reducible exfalso); omega)))
              | (refine CallOK.of (goodF_of F16_ok) (Tri.mono (hsb _) fun v hh hx => ?_); (obtain ⟨⟨b, hv, hb⟩, he⟩ := hx; subst hv; subst he; cases b <;> simp (disch := omega) only [hA, OK, emaU, Int.reduceToNat, s_bat, Bool.false_eq_true, true_iff, false_iff, eq_self, reduceCtorEq] at hb) <;> (try ((with_reducible exfalso); omega)))
              | fail
            rotate_right
            refine CallOK.of (goodF_of F17_ok) (Tri.mono (hpl _) fun v hh hx => ?_)
            obtain ⟨⟨pm, pu, hv⟩, hh'⟩ := hx
            subst hv; subst hh'
            with_reducible refine runK hA hd hQ 1 ?hk ?_
            case hk => exact trivial
            conv => arg 9; cbv
            try simp only [OK]
            repeat' first
              | (with_reducible refine OKK.loop ?_)
              | (with_reducible refine OKK.again ?_)
              | (with_reducible refine And.intro trivial ?_)
              | ((with_reducible refine opt_of (fun hop => ?_) (fun xop hop => ?_)) <;> (try simp (disch := omega) only [hA, OK, emaU, Int.reduceToNat, s_bat] at hop))
              | ((with_reducible refine ⟨fun hbr => ?_, fun hbr => ?_⟩) <;> (try simp (disch := omega) only [hA, OK, emaU, Int.reduceToNat, s_bat, reduceCtorEq] at hbr) <;> (try ((with_reducible exfalso); omega)))
              | ((with_reducible refine runK hA hd hQ 200 ?hk ?_); (case hk => exact trivial); (conv => arg 9; cbv); (try simp only [OK]))
              | ((with_reducible refine need_of ?hn ?_); (case hn => ((simp (disch := omega) only [hA, OK, emaU, Int.reduceToNat, s_bat]) <;> omega)))
              | (refine CallOK.of (goodF_of F18_ok) (Tri.mono (ho1 pm pu _) fun v hh hx => ?_); (obtain ⟨⟨z, hv, hz⟩, he⟩ := hx; subst hv; subst he))
              | (refine CallOK.of (goodF_of F18_ok) (Tri.mono (ho2 pm pu _) fun v hh hx => ?_); (obtain ⟨⟨z, hv, hz⟩, he⟩ := hx; subst hv; subst he))
              | fail
            all_goals first
              | exact absurd trivial (by assumption)
              | (refine FinR.mg rfl (by first | exact Up.nil [] | exact Up.refl _) (by first | exact Up.nil [] | exact Up.refl _) ?_
                 first
                  | (rw [hk, mergeS_no3 hm ⟨hA1, hB1⟩ (by show 1048576 < ar + br; omega)]; exact ⟨⟨rfl, rfl, rfl, sameV _ _ _ _ _, sameV _ _ _ _ _⟩, rfl⟩)
                  | (rw [hk, mergeS_a hm ⟨hA1, hB1⟩ (by show ¬ 1048576 < ar + br; omega) (by show an = ar; omega)]; exact ⟨⟨hr1, hr2, rfl, sameV _ _ _ _ _, sameV _ _ _ _ _⟩, rfl⟩)
                  | (rw [hk, mergeS_b hm ⟨hA1, hB1⟩ (by show ¬ 1048576 < ar + br; omega) (by show ¬ an = ar; omega) (by show bn = br; omega)]; exact ⟨⟨hr1, hr2, rfl, sameV _ _ _ _ _, sameV _ _ _ _ _⟩, rfl⟩)
                  | (rw [hk, mergeS_n hm ⟨hA1, hB1⟩ (by show ¬ 1048576 < ar + br; omega) (by show ¬ an = ar; omega) (by show ¬ bn = br; omega) (by simp)]; exact ⟨⟨hr1, hr2, rfl, sameV _ _ _ _ _, sameV _ _ _ _ _⟩, rfl⟩)
                  | (rw [hk]
                     refine mgo hm ⟨hA1, hB1⟩ (by show ¬ 1048576 < ar + br; omega) (by show ¬ an = ar; omega) (by show ¬ bn = br; omega) rfl rfl hr1 hr2 ?_ ?_
                     · show VP.same _ (if ordS gk bln aln blt alt < 0 then (⟨blb, bln, blt, 0, blc⟩ : VP) else ⟨alb, aln, alt, 0, alc⟩)
                       first
                        | (rw [if_pos (by omega)]; exact sameV _ _ _ _ _)
                        | (rw [if_neg (by omega)]; exact sameV _ _ _ _ _)
                     · show VP.same _ (if 0 < ordS gk bmn amn bmt amt then (⟨bmb, bmn, bmt, 0, bmc⟩ : VP) else ⟨amb, amn, amt, 0, amc⟩)
                       first
                        | (rw [if_pos (by omega)]; exact sameV _ _ _ _ _)
                        | (rw [if_neg (by omega)]; exact sameV _ _ _ _ _)))
          all_goals
            repeat' first
              | (with_reducible refine OKK.loop ?_)
              | (with_reducible refine OKK.again ?_)
              | ((with_reducible refine opt_of (fun hop => ?_) (fun xop hop => ?_)) <;> (try simp (disch := omega) only [hA, OK, emaU, Int.reduceToNat, s_bat] at hop))
              | ((with_reducible refine ⟨fun hbr => ?_, fun hbr => ?_⟩) <;> (try simp (disch := omega) only [hA, OK, emaU, Int.reduceToNat, s_bat, reduceCtorEq] at hbr) <;> (try ((with_reducible exfalso); omega)))
              | ((with_reducible refine runK hA hd hQ 200 ?hk ?_); (case hk => exact trivial); (conv => arg 9; cbv); (try simp only [OK]))
              | ((with_reducible refine need_of ?hn ?_); (case hn => ((simp (disch := omega) only [hA, OK, emaU, Int.reduceToNat, s_bat]) <;> omega)))
              | (refine CallOK.of (goodF_of F16_ok) (Tri.mono (hsa _) fun v hh hx => ?_); (obtain ⟨⟨b, hv, hb⟩, he⟩ := hx; subst hv; subst he; cases b <;> simp (disch := omega) only [hA, OK, emaU, Int.reduceToNat, s_bat, Bool.false_eq_true, true_iff, false_iff, eq_self, reduceCtorEq] at hb) <;> (try ((with_reducible exfalso); omega)))
              | (refine CallOK.of (goodF_of F16_ok) (Tri.mono (hsb _) fun v hh hx => ?_); (obtain ⟨⟨b, hv, hb⟩, he⟩ := hx; subst hv; subst he; cases b <;> simp (disch := omega) only [hA, OK, emaU, Int.reduceToNat, s_bat, Bool.false_eq_true, true_iff, false_iff, eq_self, reduceCtorEq] at hb) <;> (try ((with_reducible exfalso); omega)))
              | fail
            rotate_right
            refine CallOK.of (goodF_of F17_ok) (Tri.mono (hpl _) fun v hh hx => ?_)
            obtain ⟨⟨pm, pu, hv⟩, hh'⟩ := hx
            subst hv; subst hh'
            with_reducible refine runK hA hd hQ 1 ?hk ?_
            case hk => exact trivial
            conv => arg 9; cbv
            try simp only [OK]
            repeat' first
              | (with_reducible refine OKK.loop ?_)
              | (with_reducible refine OKK.again ?_)
              | (with_reducible refine And.intro trivial ?_)
              | ((with_reducible refine opt_of (fun hop => ?_) (fun xop hop => ?_)) <;> (try simp (disch := omega) only [hA, OK, emaU, Int.reduceToNat, s_bat] at hop))
              | ((with_reducible refine ⟨fun hbr => ?_, fun hbr => ?_⟩) <;> (try simp (disch := omega) only [hA, OK, emaU, Int.reduceToNat, s_bat, reduceCtorEq] at hbr) <;> (try ((with_reducible exfalso); omega)))
              | ((with_reducible refine runK hA hd hQ 200 ?hk ?_); (case hk => exact trivial); (conv => arg 9; cbv); (try simp only [OK]))
              | ((with_reducible refine need_of ?hn ?_); (case hn => ((simp (disch := omega) only [hA, OK, emaU, Int.reduceToNat, s_bat]) <;> omega)))
              | fail
            all_goals first
              | exact absurd trivial (by assumption)
              | (refine FinR.mg rfl (by first | exact Up.nil [] | exact Up.refl _) (by first | exact Up.nil [] | exact Up.refl _) ?_
                 first
                  | (rw [hk, mergeS_no3 hm ⟨hA1, hB1⟩ (by show 1048576 < ar + br; omega)]; exact ⟨⟨rfl, rfl, rfl, sameV _ _ _ _ _, sameV _ _ _ _ _⟩, rfl⟩)
                  | (rw [hk, mergeS_a hm ⟨hA1, hB1⟩ (by show ¬ 1048576 < ar + br; omega) (by show an = ar; omega)]; exact ⟨⟨hr1, hr2, rfl, sameV _ _ _ _ _, sameV _ _ _ _ _⟩, rfl⟩)
                  | (rw [hk, mergeS_b hm ⟨hA1, hB1⟩ (by show ¬ 1048576 < ar + br; omega) (by show ¬ an = ar; omega) (by show bn = br; omega)]; exact ⟨⟨hr1, hr2, rfl, sameV _ _ _ _ _, sameV _ _ _ _ _⟩, rfl⟩)
                  | (rw [hk, mergeS_n hm ⟨hA1, hB1⟩ (by show ¬ 1048576 < ar + br; omega) (by show ¬ an = ar; omega) (by show ¬ bn = br; omega) (by simp)]; exact ⟨⟨hr1, hr2, rfl, sameV _ _ _ _ _, sameV _ _ _ _ _⟩, rfl⟩)
                  | (rw [hk]
                     refine mgo hm ⟨hA1, hB1⟩ (by show ¬ 1048576 < ar + br; omega) (by show ¬ an = ar; omega) (by show ¬ bn = br; omega) rfl rfl hr1 hr2 ?_ ?_
                     · show VP.same _ (if ordS gk bln aln blt alt < 0 then (⟨blb, bln, blt, 0, blc⟩ : VP) else ⟨alb, aln, alt, 0, alc⟩)
                       first
                        | (rw [if_pos (by omega)]; exact sameV _ _ _ _ _)
                        | (rw [if_neg (by omega)]; exact sameV _ _ _ _ _)
                     · show VP.same _ (if 0 < ordS gk bmn amn bmt amt then (⟨bmb, bmn, bmt, 0, bmc⟩ : VP) else ⟨amb, amn, amt, 0, amc⟩)
                       first
                        | (rw [if_pos (by omega)]; exact sameV _ _ _ _ _)
                        | (rw [if_neg (by omega)]; exact sameV _ _ _ _ _)))
        · have hsa := fun h => Tri.isTo (hsa h) (iff_true_intro hA1)
          have hsb := fun h => Tri.isTo (hsb h) (iff_false_intro hB1)
          simp only [StP.cells, VP.cells, List.cons_append, List.nil_append, List.append_assoc] at hsa hsb ⊢
          with_reducible refine runS hA hd hQ 200 ?hk ?_
          case hk => exact trivial
          conv => arg 9; cbv
          try simp only [OK]
          repeat' first
            | (with_reducible refine OKK.loop ?_)
            | (with_reducible refine OKK.again ?_)
            | ((with_reducible refine opt_of (fun hop => ?_) (fun xop hop => ?_)) <;> (try simp (disch := omega) only [hA, OK, emaU, Int.reduceToNat, s_bat] at hop))
            | ((with_reducible refine ⟨fun hbr => ?_, fun hbr => ?_⟩) <;> (try simp (disch := omega) only [hA, OK, emaU, Int.reduceToNat, s_bat, reduceCtorEq] at hbr) <;> (try ((with_reducible exfalso); omega)))
            | ((with_reducible refine runK hA hd hQ 200 ?hk ?_); (case hk => exact trivial); (conv => arg 9; cbv); (try simp only [OK]))
            | ((with_reducible refine need_of ?hn ?_); (case hn => ((simp (disch := omega) only [hA, OK, emaU, Int.reduceToNat, s_bat]) <;> omega)))
            | fail
          refine CallOK.of (goodF_of F15_ok) (Tri.mono (hck _) fun v hh hx => ?_)
          obtain ⟨⟨e, at', pn, pc, hv, he⟩, hh'⟩ := hx
          subst hv; subst hh'
          with_reducible refine runK hA hd hQ 1 ?hk ?_
          case hk => exact trivial
          conv => arg 9; cbv
          try simp only [OK]
          have he0 : e = 0 := he.2 hm
          subst he0
          repeat' first
            | (with_reducible refine OKK.loop ?_)
            | (with_reducible refine OKK.again ?_)
            | ((with_reducible refine opt_of (fun hop => ?_) (fun xop hop => ?_)) <;> (try simp (disch := omega) only [hA, OK, emaU, Int.reduceToNat, s_bat] at hop))
            | ((with_reducible refine ⟨fun hbr => ?_, fun hbr => ?_⟩) <;> (try simp (disch := omega) only [hA, OK, emaU, Int.reduceToNat, s_bat, reduceCtorEq] at hbr) <;> (try ((with_reducible exfalso); omega)))
            | ((with_reducible refine runK hA hd hQ 200 ?hk ?_); (case hk => exact trivial); (conv => arg 9; cbv); (try simp only [OK]))
            | ((with_reducible refine need_of ?hn ?_); (case hn => ((simp (disch := omega) only [hA, OK, emaU, Int.reduceToNat, s_bat]) <;> omega)))
            | (refine CallOK.of (goodF_of F16_ok) (Tri.mono (hsa _) fun v hh hx => ?_); (obtain ⟨⟨b, hv, hb⟩, he⟩ := hx; subst hv; subst he; cases b <;> simp (disch := omega) only [hA, OK, emaU, Int.reduceToNat, s_bat, Bool.false_eq_true, true_iff, false_iff, eq_self, reduceCtorEq] at hb) <;> (try ((with_reducible exfalso); omega)))
            | (refine CallOK.of (goodF_of F16_ok) (Tri.mono (hsb _) fun v hh hx => ?_); (obtain ⟨⟨b, hv, hb⟩, he⟩ := hx; subst hv; subst he; cases b <;> simp (disch := omega) only [hA, OK, emaU, Int.reduceToNat, s_bat, Bool.false_eq_true, true_iff, false_iff, eq_self, reduceCtorEq] at hb) <;> (try ((with_reducible exfalso); omega)))
            | fail
          all_goals first | exact absurd trivial (by assumption) | exact FinR.mg rfl (Up.nil []) (Up.nil []) (by rw [hk, mergeS_no2 hm (fun h => hB1 h.2)]; exact ⟨⟨rfl, rfl, rfl, sameV _ _ _ _ _, sameV _ _ _ _ _⟩, rfl⟩)
      · have hsa := fun h => Tri.isTo (hsa h) (iff_false_intro hA1)
        simp only [StP.cells, VP.cells, List.cons_append, List.nil_append, List.append_assoc] at hsa hsb ⊢
        with_reducible refine runS hA hd hQ 200 ?hk ?_
        case hk => exact trivial
        conv => arg 9; cbv
        try simp only [OK]
        repeat' first
          | (with_reducible refine OKK.loop ?_)
          | (with_reducible refine OKK.again ?_)
          | ((with_reducible refine opt_of (fun hop => ?_) (fun xop hop => ?_)) <;> (try simp (disch := omega) only [hA, OK, emaU, Int.reduceToNat, s_bat] at hop))
          | ((with_reducible refine ⟨fun hbr => ?_, fun hbr => ?_⟩) <;> (try simp (disch := omega) only [hA, OK, emaU, Int.reduceToNat, s_bat, reduceCtorEq] at hbr) <;> (try ((with_reducible exfalso); omega)))
          | ((with_reducible refine runK hA hd hQ 200 ?hk ?_); (case hk => exact trivial); (conv => arg 9; cbv); (try simp only [OK]))
          | ((with_reducible refine need_of ?hn ?_); (case hn => ((simp (disch := omega) only [hA, OK, emaU, Int.reduceToNat, s_bat]) <;> omega)))
          | fail
        refine CallOK.of (goodF_of F15_ok) (Tri.mono (hck _) fun v hh hx => ?_)
        obtain ⟨⟨e, at', pn, pc, hv, he⟩, hh'⟩ := hx
        subst hv; subst hh'
        with_reducible refine runK hA hd hQ 1 ?hk ?_
        case hk => exact trivial
        conv => arg 9; cbv
        try simp only [OK]
        have he0 : e = 0 := he.2 hm
        subst he0
        repeat' first
          | (with_reducible refine OKK.loop ?_)
          | (with_reducible refine OKK.again ?_)
          | ((with_reducible refine opt_of (fun hop => ?_) (fun xop hop => ?_)) <;> (try simp (disch := omega) only [hA, OK, emaU, Int.reduceToNat, s_bat] at hop))
          | ((with_reducible refine ⟨fun hbr => ?_, fun hbr => ?_⟩) <;> (try simp (disch := omega) only [hA, OK, emaU, Int.reduceToNat, s_bat, reduceCtorEq] at hbr) <;> (try ((with_reducible exfalso); omega)))
          | ((with_reducible refine runK hA hd hQ 200 ?hk ?_); (case hk => exact trivial); (conv => arg 9; cbv); (try simp only [OK]))
          | ((with_reducible refine need_of ?hn ?_); (case hn => ((simp (disch := omega) only [hA, OK, emaU, Int.reduceToNat, s_bat]) <;> omega)))
          | (refine CallOK.of (goodF_of F16_ok) (Tri.mono (hsa _) fun v hh hx => ?_); (obtain ⟨⟨b, hv, hb⟩, he⟩ := hx; subst hv; subst he; cases b <;> simp (disch := omega) only [hA, OK, emaU, Int.reduceToNat, s_bat, Bool.false_eq_true, true_iff, false_iff, eq_self, reduceCtorEq] at hb) <;> (try ((with_reducible exfalso); omega)))
          | fail
        all_goals first | exact absurd trivial (by assumption) | exact FinR.mg rfl (Up.nil []) (Up.nil []) (by rw [hk, mergeS_no2 hm (fun h => hA1 h.1)]; exact ⟨⟨rfl, rfl, rfl, sameV _ _ _ _ _, sameV _ _ _ _ _⟩, rfl⟩)
    · rw [cellsF_eq] at *
      generalize cellsFs f.kids = kc, f.kids.length = kn, f.nm = nm, f.nul = nul, f.kind = k, f.width = w, f.id = i, f.idx = x at *
      obtain ⟨ar, an, ah, ⟨alb, aln, alt, all_, alc⟩, ⟨amb, amn, amt, aml, amc⟩⟩ := a
      obtain ⟨br, bn, bh, ⟨blb, bln, blt, bll, blc⟩, ⟨bmb, bmn, bmt, bml, bmc⟩⟩ := b
      simp only [StP.cells, VP.cells, List.cons_append, List.nil_append, List.append_assoc]
      with_reducible refine runS hA hd hQ 200 ?hk ?_
      case hk => exact trivial
      conv => arg 9; cbv
      try simp only [OK]
      repeat' first
        | (with_reducible refine OKK.loop ?_)
        | (with_reducible refine OKK.again ?_)
        | ((with_reducible refine opt_of (fun hop => ?_) (fun xop hop => ?_)) <;> (try simp (disch := omega) only [hA, OK, emaU, Int.reduceToNat, s_bat] at hop))
        | ((with_reducible refine ⟨fun hbr => ?_, fun hbr => ?_⟩) <;> (try simp (disch := omega) only [hA, OK, emaU, Int.reduceToNat, s_bat, reduceCtorEq] at hbr) <;> (try ((with_reducible exfalso); omega)))
        | ((with_reducible refine runK hA hd hQ 200 ?hk ?_); (case hk => exact trivial); (conv => arg 9; cbv); (try simp only [OK]))
        | ((with_reducible refine need_of ?hn ?_); (case hn => ((simp (disch := omega) only [hA, OK, emaU, Int.reduceToNat, s_bat]) <;> omega)))
        | fail
      refine CallOK.of (goodF_of F15_ok) (Tri.mono (hck _) fun v hh hx => ?_)
      obtain ⟨⟨e, at', pn, pc, hv, he⟩, hh'⟩ := hx
      subst hv; subst hh'
      with_reducible refine runK hA hd hQ 1 ?hk ?_
      case hk => exact trivial
      conv => arg 9; cbv
      try simp only [OK]
      have he0 : e ≠ 0 := fun h => hm (he.1 h)
      repeat' first
        | (with_reducible refine OKK.loop ?_)
        | (with_reducible refine OKK.again ?_)
        | ((with_reducible refine opt_of (fun hop => ?_) (fun xop hop => ?_)) <;> (try simp (disch := omega) only [hA, OK, emaU, Int.reduceToNat, s_bat] at hop))
        | ((with_reducible refine ⟨fun hbr => ?_, fun hbr => ?_⟩) <;> (try simp (disch := omega) only [hA, OK, emaU, Int.reduceToNat, s_bat, reduceCtorEq] at hbr) <;> (try ((with_reducible exfalso); omega)))
        | ((with_reducible refine runK hA hd hQ 200 ?hk ?_); (case hk => exact trivial); (conv => arg 9; cbv); (try simp only [OK]))
        | ((with_reducible refine need_of ?hn ?_); (case hn => ((simp (disch := omega) only [hA, OK, emaU, Int.reduceToNat, s_bat]) <;> omega)))
        | fail
      all_goals first | exact absurd trivial (by assumption) | exact FinR.mg rfl (Up.nil []) (Up.nil []) (by rw [mergeS_no hm]; exact ⟨⟨rfl, rfl, rfl, sameV _ _ _ _ _, sameV _ _ _ _ _⟩, rfl⟩)
  exact Tri.litC (fun v hv => hv.cl) (by rw [cellsF_eq]; rfl) (Tri.up t fun v h' ⟨v', h1, h2⟩ => ⟨v', h1, h2⟩) h
set_option maxRecDepth 100000 in
set_option maxHeartbeats 16000000 in
theorem mergeR_ok (f : Fld) (hok : okF f) (a b : StP) (ha : a.ok) (hb0 : b.ok) (h : EH) :
    Tri Tryz.prog gs 7 [.agg (cellsF f), .agg a.cells, .agg b.cells] h fun v h' => MergeV f a b v ∧ h' = h := by
  have t : Tri Tryz.prog gs 7 [.agg (cellsF f), .agg a.cells, .agg b.cells] [] fun v _ => ∃ v', MergeV f a b v' ∧ Up v v' := by
    refine Tri_of F7_ok fun I0 ρ0 w0 Q hρ hQ => ?_
    obtain ⟨A, hA⟩ : ∃ A, A = stdA := ⟨_, rfl⟩
    have hck := mayBeR_ok f hok
    have hg := fun hm => core_ex (SizeOf.sizeOf f) f (Nat.le_refl _) (mayF_all hm)
    by_cases hm : mayF f
    · obtain ⟨g, hco, hga, _⟩ := hg hm
      have hall := mayF_all hm
      have hk := ck_eq hco
      have hsa := isR_ok f g hall hco hga a.rows a.nulls a.has a.l a.m ha.2.2.1 ha.2.2.2
      have hsb := isR_ok f g hall hco hga b.rows b.nulls b.has b.l b.m hb0.2.2.1 hb0.2.2.2
      have hpl := kindOf_ok f g hall hco
      
      have hzero := fits_zero hga
      have hor := fun (hk : 2 ≤ g.kind ∧ g.kind ≤ 14) (l m : VP) h1 h2 (h3 : l.bnd g.kind) (h4 : m.bnd g.kind) => orderRB_ok g.kind hk l m h1 h2 h3 h4
      have hma : ∀ s : StP, s.may g.kind → s.l.ln = 0 ∧ s.m.ln = 0 := fun s hs => may_ln hs
      rw [cellsF_eq] at *
      generalize cellsFs f.kids = kc, f.kids.length = kn, f.nm = nm, f.nul = nul, f.kind = k, f.width = w, f.id = i, f.idx = x at *
      
      generalize g.kind = gk at *
      have hy := hQ
      obtain ⟨ar, an, ah, ⟨alb, aln, alt, all_, alc⟩, ⟨amb, amn, amt, aml, amc⟩⟩ := a
      obtain ⟨br, bn, bh, ⟨blb, bln, blt, bll, blc⟩, ⟨bmb, bmn, bmt, bml, bmc⟩⟩ := b
      by_cases hA1 : StP.may gk ⟨ar, an, ah, ⟨alb, aln, alt, all_, alc⟩, ⟨amb, amn, amt, aml, amc⟩⟩
      · by_cases hB1 : StP.may gk ⟨br, bn, bh, ⟨blb, bln, blt, bll, blc⟩, ⟨bmb, bmn, bmt, bml, bmc⟩⟩
        · obtain ⟨e1, e2⟩ := may_ln hA1
          obtain ⟨e3, e4⟩ := may_ln hB1
          simp only at e1 e2 e3 e4
          subst e1; subst e2; subst e3; subst e4
          have hsa := fun h => Tri.isTo (hsa h) (iff_true_intro hA1)
          have hsb := fun h => Tri.isTo (hsb h) (iff_true_intro hB1)
          have hrr : 0 ≤ ar ∧ ar ≤ 1048576 ∧ 0 ≤ an ∧ an ≤ ar ∧ 0 ≤ br ∧ br ≤ 1048576 ∧ 0 ≤ bn ∧ bn ≤ br := ⟨hA1.1, hA1.2.1, hA1.2.2.1, hA1.2.2.2.1, hB1.1, hB1.2.1, hB1.2.2.1, hB1.2.2.2.1⟩
          have hr1 : A.ib .add .i64 ar br = ar + br := by simp (disch := omega) only [hA, OK, emaU, Int.reduceToNat, s_bat]
          have hr2 : A.ib .add .i64 an bn = an + bn := by simp (disch := omega) only [hA, OK, emaU, Int.reduceToNat, s_bat]
          simp only [StP.cells, VP.cells, List.cons_append, List.nil_append, List.append_assoc] at hsa hsb ⊢
          have hkN : ∀ h, Tri Tryz.prog gs 21 _ h fun v h' => IsN .i64 (fun n => n = gk) v ∧ h' = h := fun h => Tri.mono (hpl h) fun v h' hx => ⟨⟨gk, hx.1, rfl⟩, hx.2⟩
          by_cases hhh : ah = true ∧ bh = true
          · obtain ⟨e5, e6⟩ := hhh
            subst e5; subst e6
            have hAt := hA1.2.2.2.2.2 rfl
            have hBt := hB1.2.2.2.2.2 rfl
            have ho1 : ∀ z, z = gk → ∀ h, Tri Tryz.prog gs 22 [.lit (.int .i64 z), .agg (VP.cells ⟨blb, bln, blt, 0, blc⟩), .agg (VP.cells ⟨alb, aln, alt, 0, alc⟩)] h fun v h' => IsN .i64 (fun n => n = ordS gk bln aln blt alt) v ∧ h' = h := by
              intro z hz; subst hz; exact hor hAt.1 ⟨blb, bln, blt, 0, blc⟩ ⟨alb, aln, alt, 0, alc⟩ hb0.2.2.1 ha.2.2.1 hBt.2.2.1 hAt.2.2.1
            have ho2 : ∀ z, z = gk → ∀ h, Tri Tryz.prog gs 22 [.lit (.int .i64 z), .agg (VP.cells ⟨bmb, bmn, bmt, 0, bmc⟩), .agg (VP.cells ⟨amb, amn, amt, 0, amc⟩)] h fun v h' => IsN .i64 (fun n => n = ordS gk bmn amn bmt amt) v ∧ h' = h := by
              intro z hz; subst hz; exact hor hAt.1 ⟨bmb, bmn, bmt, 0, bmc⟩ ⟨amb, amn, amt, 0, amc⟩ hb0.2.2.2 ha.2.2.2 hBt.2.2.2.1 hAt.2.2.2.1
            simp only [VP.cells] at ho1 ho2
            with_reducible refine runS hA hd hQ 200 ?hk ?_
            case hk => exact trivial
            conv => arg 9; cbv
            try simp only [OK]
            repeat' first
              | (with_reducible refine OKK.loop ?_)
              | (with_reducible refine OKK.again ?_)
              | (with_reducible refine And.intro trivial ?_)
              | ((with_reducible refine opt_of (fun hop => ?_) (fun xop hop => ?_)) <;> (try simp (disch := omega) only [hA, OK, emaU, Int.reduceToNat, s_bat] at hop))
              | ((with_reducible refine ⟨fun hbr => ?_, fun hbr => ?_⟩) <;> (try simp (disch := omega) only [hA, OK, emaU, Int.reduceToNat, s_bat, reduceCtorEq] at hbr) <;> (try ((with_reducible exfalso); omega)))
              | ((with_reducible refine runK hA hd hQ 200 ?hk ?_); (case hk => exact trivial); (conv => arg 9; cbv); (try simp only [OK]))
              | ((with_reducible refine need_of ?hn ?_); (case hn => ((simp (disch := omega) only [hA, OK, emaU, Int.reduceToNat, s_bat]) <;> omega)))
              | (refine CallOK.of (goodF_of F19_ok) (Tri.mono ((fun h => Tri.isTo (hck h) (iff_true_intro hm)) _) fun v hh hx => ?_); (obtain ⟨⟨b, hv, hb⟩, he⟩ := hx; subst hv; subst he; cases b <;> simp (disch := omega) only [hA, OK, emaU, Int.reduceToNat, s_bat, Bool.false_eq_true, true_iff, false_iff, eq_self, reduceCtorEq] at hb) <;> (try ((with_reducible exfalso); omega)))
              | (refine CallOK.of (goodF_of F20_ok) (Tri.mono (hsa _) fun v hh hx => ?_); (obtain ⟨⟨b, hv, hb⟩, he⟩ := hx; subst hv; subst he; cases b <;> simp (disch := omega) only [hA, OK, emaU, Int.reduceToNat, s_bat, Bool.false_eq_true, true_iff, false_iff, eq_self, reduceCtorEq] at hb) <;> (try ((with_reducible exfalso); omega)))
              | (refine CallOK.of (goodF_of F20_ok) (Tri.mono (hsb _) fun v hh hx => ?_); (obtain ⟨⟨b, hv, hb⟩, he⟩ := hx; subst hv; subst he; cases b <;> simp (disch := omega) only [hA, OK, emaU, Int.reduceToNat, s_bat, Bool.false_eq_true, true_iff, false_iff, eq_self, reduceCtorEq] at hb) <;> (try ((with_reducible exfalso); omega)))
              | (refine CallOK.of (goodF_of F21_ok) (Tri.mono (hkN _) fun v hh hx => ?_); (obtain ⟨⟨z, hv, hz⟩, he⟩ := hx; subst hv; subst he))
              | (refine CallOK.of (goodF_of F22_ok) (Tri.mono (ho1 _ (by assumption) _) fun v hh hx => ?_); (obtain ⟨⟨z, hv, hz⟩, he⟩ := hx; subst hv; subst he))
              | (refine CallOK.of (goodF_of F22_ok) (Tri.mono (ho2 _ (by assumption) _) fun v hh hx => ?_); (obtain ⟨⟨z, hv, hz⟩, he⟩ := hx; subst hv; subst he))
              | fail
            all_goals first
              | exact absurd trivial (by assumption)
              | (refine FinR.mg rfl (by first | exact Up.nil [] | exact Up.refl _) (by first | exact Up.nil [] | exact Up.refl _) ?_
                 first
                  | (rw [hk, mergeS_no3 hm ⟨hA1, hB1⟩ (by show 1048576 < ar + br; omega)]; exact ⟨⟨rfl, rfl, rfl, sameV _ _ _ _ _, sameV _ _ _ _ _⟩, rfl⟩)
                  | (rw [hk, mergeS_a hm ⟨hA1, hB1⟩ (by show ¬ 1048576 < ar + br; omega) (by show an = ar; omega)]; exact ⟨⟨hr1, hr2, rfl, sameV _ _ _ _ _, sameV _ _ _ _ _⟩, rfl⟩)
                  | (rw [hk, mergeS_b hm ⟨hA1, hB1⟩ (by show ¬ 1048576 < ar + br; omega) (by show ¬ an = ar; omega) (by show bn = br; omega)]; exact ⟨⟨hr1, hr2, rfl, sameV _ _ _ _ _, sameV _ _ _ _ _⟩, rfl⟩)
                  | (rw [hk, mergeS_n hm ⟨hA1, hB1⟩ (by show ¬ 1048576 < ar + br; omega) (by show ¬ an = ar; omega) (by show ¬ bn = br; omega) (by simp)]; exact ⟨⟨hr1, hr2, rfl, sameV _ _ _ _ _, sameV _ _ _ _ _⟩, rfl⟩)
                  | (rw [hk]
                     refine mgo hm ⟨hA1, hB1⟩ (by show ¬ 1048576 < ar + br; omega) (by show ¬ an = ar; omega) (by show ¬ bn = br; omega) rfl rfl hr1 hr2 ?_ ?_
                     · show VP.same _ (if ordS gk bln aln blt alt < 0 then (⟨blb, bln, blt, 0, blc⟩ : VP) else ⟨alb, aln, alt, 0, alc⟩)
                       first
                        | (rw [if_pos (by omega)]; exact sameV _ _ _ _ _)
                        | (rw [if_neg (by omega)]; exact sameV _ _ _ _ _)
                     · show VP.same _ (if 0 < ordS gk bmn amn bmt amt then (⟨bmb, bmn, bmt, 0, bmc⟩ : VP) else ⟨amb, amn, amt, 0, amc⟩)
                       first
                        | (rw [if_pos (by omega)]; exact sameV _ _ _ _ _)
                        | (rw [if_neg (by omega)]; exact sameV _ _ _ _ _)))
          · cases ah <;> cases bh
            rotate_right
            · exact absurd ⟨rfl, rfl⟩ hhh
            all_goals
              with_reducible refine runS hA hd hQ 200 ?hk ?_
              case hk => exact trivial
              conv => arg 9; cbv
              try simp only [OK]
              repeat' first
                | (with_reducible refine OKK.loop ?_)
                | (with_reducible refine OKK.again ?_)
                | (with_reducible refine And.intro trivial ?_)
                | ((with_reducible refine opt_of (fun hop => ?_) (fun xop hop => ?_)) <;> (try simp (disch := omega) only [hA, OK, emaU, Int.reduceToNat, s_bat] at hop))
                | ((with_reducible refine ⟨fun hbr => ?_, fun hbr => ?_⟩) <;> (try simp (disch := omega) only [hA, OK, emaU, Int.reduceToNat, s_bat, reduceCtorEq] at hbr) <;> (try ((with_reducible exfalso); omega)))
                | ((with_reducible refine runK hA hd hQ 200 ?hk ?_); (case hk => exact trivial); (conv => arg 9; cbv); (try simp only [OK]))
                | ((with_reducible refine need_of ?hn ?_); (case hn => ((simp (disch := omega) only [hA, OK, emaU, Int.reduceToNat, s_bat]) <;> omega)))
                | (refine CallOK.of (goodF_of F19_ok) (Tri.mono ((fun h => Tri.isTo (hck h) (iff_true_intro hm)) _) fun v hh hx => ?_); (obtain ⟨⟨b, hv, hb⟩, he⟩ := hx; subst hv; subst he; cases b <;> simp (disch := omega) only [hA, OK, emaU, Int.reduceToNat, s_bat, Bool.false_eq_true, true_iff, false_iff, eq_self, reduceCtorEq] at hb) <;> (try ((with_reducible exfalso); omega)))
                | (refine CallOK.of (goodF_of F20_ok) (Tri.mono (hsa _) fun v hh hx => ?_); (obtain ⟨⟨b, hv, hb⟩, he⟩ := hx; subst hv; subst he; cases b <;> simp (disch := omega) only [hA, OK, emaU, Int.reduceToNat, s_bat, Bool.false_eq_true, true_iff, false_iff, eq_self, reduceCtorEq] at hb) <;> (try ((with_reducible exfalso); omega)))
                | (refine CallOK.of (goodF_of F20_ok) (Tri.mono (hsb _) fun v hh hx => ?_); (obtain ⟨⟨b, hv, hb⟩, he⟩ := hx; subst hv; subst he; cases b <;> simp (disch := omega) only [hA, OK, emaU, Int.reduceToNat, s_bat, Bool.false_eq_true, true_iff, false_iff, eq_self, reduceCtorEq] at hb) <;> (try ((with_reducible exfalso); omega)))
                | fail
              all_goals first
                | exact absurd trivial (by assumption)
                | (refine FinR.mg rfl (by first | exact Up.nil [] | exact Up.refl _) (by first | exact Up.nil [] | exact Up.refl _) ?_
                   first
                    | (rw [hk, mergeS_no3 hm ⟨hA1, hB1⟩ (by show 1048576 < ar + br; omega)]; exact ⟨⟨rfl, rfl, rfl, sameV _ _ _ _ _, sameV _ _ _ _ _⟩, rfl⟩)
                    | (rw [hk, mergeS_a hm ⟨hA1, hB1⟩ (by show ¬ 1048576 < ar + br; omega) (by show an = ar; omega)]; exact ⟨⟨hr1, hr2, rfl, sameV _ _ _ _ _, sameV _ _ _ _ _⟩, rfl⟩)
                    | (rw [hk, mergeS_b hm ⟨hA1, hB1⟩ (by show ¬ 1048576 < ar + br; omega) (by show ¬ an = ar; omega) (by show bn = br; omega)]; exact ⟨⟨hr1, hr2, rfl, sameV _ _ _ _ _, sameV _ _ _ _ _⟩, rfl⟩)
                    | (rw [hk, mergeS_n hm ⟨hA1, hB1⟩ (by show ¬ 1048576 < ar + br; omega) (by show ¬ an = ar; omega) (by show ¬ bn = br; omega) (by simp)]; exact ⟨⟨hr1, hr2, rfl, sameV _ _ _ _ _, sameV _ _ _ _ _⟩, rfl⟩)
                    | (rw [hk]
                       refine mgo hm ⟨hA1, hB1⟩ (by show ¬ 1048576 < ar + br; omega) (by show ¬ an = ar; omega) (by show ¬ bn = br; omega) rfl rfl hr1 hr2 ?_ ?_
                       · show VP.same _ (if ordS gk bln aln blt alt < 0 then (⟨blb, bln, blt, 0, blc⟩ : VP) else ⟨alb, aln, alt, 0, alc⟩)
                         first
                          | (rw [if_pos (by omega)]; exact sameV _ _ _ _ _)
                          | (rw [if_neg (by omega)]; exact sameV _ _ _ _ _)
                       · show VP.same _ (if 0 < ordS gk bmn amn bmt amt then (⟨bmb, bmn, bmt, 0, bmc⟩ : VP) else ⟨amb, amn, amt, 0, amc⟩)
                         first
                          | (rw [if_pos (by omega)]; exact sameV _ _ _ _ _)
                          | (rw [if_neg (by omega)]; exact sameV _ _ _ _ _)))
        · have hsa := fun h => Tri.isTo (hsa h) (iff_true_intro hA1)
          have hsb := fun h => Tri.isTo (hsb h) (iff_false_intro hB1)
          simp only [StP.cells, VP.cells, List.cons_append, List.nil_append, List.append_assoc] at hsa hsb ⊢
          with_reducible refine runS hA hd hQ 200 ?hk ?_
          case hk => exact trivial
          conv => arg 9; cbv
          try simp only [OK]
          repeat' first
            | (with_reducible refine OKK.loop ?_)
            | (with_reducible refine OKK.again ?_)
            | ((with_reducible refine opt_of (fun hop => ?_) (fun xop hop => ?_)) <;> (try simp (disch := omega) only [hA, OK, emaU, Int.reduceToNat, s_bat] at hop))
            | ((with_reducible refine ⟨fun hbr => ?_, fun hbr => ?_⟩) <;> (try simp (disch := omega) only [hA, OK, emaU, Int.reduceToNat, s_bat, reduceCtorEq] at hbr) <;> (try ((with_reducible exfalso); omega)))
            | ((with_reducible refine runK hA hd hQ 200 ?hk ?_); (case hk => exact trivial); (conv => arg 9; cbv); (try simp only [OK]))
            | ((with_reducible refine need_of ?hn ?_); (case hn => ((simp (disch := omega) only [hA, OK, emaU, Int.reduceToNat, s_bat]) <;> omega)))
            | (refine CallOK.of (goodF_of F19_ok) (Tri.mono ((fun h => Tri.isTo (hck h) (iff_true_intro hm)) _) fun v hh hx => ?_); (obtain ⟨⟨b, hv, hb⟩, he⟩ := hx; subst hv; subst he; cases b <;> simp (disch := omega) only [hA, OK, emaU, Int.reduceToNat, s_bat, Bool.false_eq_true, true_iff, false_iff, eq_self, reduceCtorEq] at hb) <;> (try ((with_reducible exfalso); omega)))
            | (refine CallOK.of (goodF_of F20_ok) (Tri.mono (hsa _) fun v hh hx => ?_); (obtain ⟨⟨b, hv, hb⟩, he⟩ := hx; subst hv; subst he; cases b <;> simp (disch := omega) only [hA, OK, emaU, Int.reduceToNat, s_bat, Bool.false_eq_true, true_iff, false_iff, eq_self, reduceCtorEq] at hb) <;> (try ((with_reducible exfalso); omega)))
            | (refine CallOK.of (goodF_of F20_ok) (Tri.mono (hsb _) fun v hh hx => ?_); (obtain ⟨⟨b, hv, hb⟩, he⟩ := hx; subst hv; subst he; cases b <;> simp (disch := omega) only [hA, OK, emaU, Int.reduceToNat, s_bat, Bool.false_eq_true, true_iff, false_iff, eq_self, reduceCtorEq] at hb) <;> (try ((with_reducible exfalso); omega)))
            | fail
          
          all_goals first | exact absurd trivial (by assumption) | exact FinR.mg rfl (Up.nil []) (Up.nil []) (by rw [hk, mergeS_no2 hm (fun h => hB1 h.2)]; exact ⟨⟨rfl, rfl, rfl, sameV _ _ _ _ _, sameV _ _ _ _ _⟩, rfl⟩)
      · have hsa := fun h => Tri.isTo (hsa h) (iff_false_intro hA1)
        simp only [StP.cells, VP.cells, List.cons_append, List.nil_append, List.append_assoc] at hsa hsb ⊢
        with_reducible refine runS hA hd hQ 200 ?hk ?_
        case hk => exact trivial
        conv => arg 9; cbv
        try simp only [OK]
        repeat' first
          | (with_reducible refine OKK.loop ?_)
          | (with_reducible refine OKK.again ?_)
          | ((with_reducible refine opt_of (fun hop => ?_) (fun xop hop => ?_)) <;> (try simp (disch := omega) only [hA, OK, emaU, Int.reduceToNat, s_bat] at hop))
          | ((with_reducible refine ⟨fun hbr => ?_, fun hbr => ?_⟩) <;> (try simp (disch := omega) only [hA, OK, emaU, Int.reduceToNat, s_bat, reduceCtorEq] at hbr) <;> (try ((with_reducible exfalso); omega)))
          | ((with_reducible refine runK hA hd hQ 200 ?hk ?_); (case hk => exact trivial); (conv => arg 9; cbv); (try simp only [OK]))
          | ((with_reducible refine need_of ?hn ?_); (case hn => ((simp (disch := omega) only [hA, OK, emaU, Int.reduceToNat, s_bat]) <;> omega)))
          | (refine CallOK.of (goodF_of F19_ok) (Tri.mono ((fun h => Tri.isTo (hck h) (iff_true_intro hm)) _) fun v hh hx => ?_); (obtain ⟨⟨b, hv, hb⟩, he⟩ := hx; subst hv; subst he; cases b <;> simp (disch := omega) only [hA, OK, emaU, Int.reduceToNat, s_bat, Bool.false_eq_true, true_iff, false_iff, eq_self, reduceCtorEq] at hb) <;> (try ((with_reducible exfalso); omega)))
          | (refine CallOK.of (goodF_of F20_ok) (Tri.mono (hsa _) fun v hh hx => ?_); (obtain ⟨⟨b, hv, hb⟩, he⟩ := hx; subst hv; subst he; cases b <;> simp (disch := omega) only [hA, OK, emaU, Int.reduceToNat, s_bat, Bool.false_eq_true, true_iff, false_iff, eq_self, reduceCtorEq] at hb) <;> (try ((with_reducible exfalso); omega)))
          | (refine CallOK.of (goodF_of F20_ok) (Tri.mono (hsb _) fun v hh hx => ?_); (obtain ⟨⟨b, hv, hb⟩, he⟩ := hx; subst hv; subst he; cases b <;> simp (disch := omega) only [hA, OK, emaU, Int.reduceToNat, s_bat, Bool.false_eq_true, true_iff, false_iff, eq_self, reduceCtorEq] at hb) <;> (try ((with_reducible exfalso); omega)))
          | fail
        
        all_goals first | exact absurd trivial (by assumption) | exact FinR.mg rfl (Up.nil []) (Up.nil []) (by rw [hk, mergeS_no2 hm (fun h => hA1 h.1)]; exact ⟨⟨rfl, rfl, rfl, sameV _ _ _ _ _, sameV _ _ _ _ _⟩, rfl⟩)
    · rw [cellsF_eq] at *
      generalize cellsFs f.kids = kc, f.kids.length = kn, f.nm = nm, f.nul = nul, f.kind = k, f.width = w, f.id = i, f.idx = x at *
      obtain ⟨ar, an, ah, ⟨alb, aln, alt, all_, alc⟩, ⟨amb, amn, amt, aml, amc⟩⟩ := a
      obtain ⟨br, bn, bh, ⟨blb, bln, blt, bll, blc⟩, ⟨bmb, bmn, bmt, bml, bmc⟩⟩ := b
      simp only [StP.cells, VP.cells, List.cons_append, List.nil_append, List.append_assoc]
      with_reducible refine runS hA hd hQ 200 ?hk ?_
      case hk => exact trivial
      conv => arg 9; cbv
      try simp only [OK]
      repeat' first
        | (with_reducible refine OKK.loop ?_)
        | (with_reducible refine OKK.again ?_)
        | ((with_reducible refine opt_of (fun hop => ?_) (fun xop hop => ?_)) <;> (try simp (disch := omega) only [hA, OK, emaU, Int.reduceToNat, s_bat] at hop))
        | ((with_reducible refine ⟨fun hbr => ?_, fun hbr => ?_⟩) <;> (try simp (disch := omega) only [hA, OK, emaU, Int.reduceToNat, s_bat, reduceCtorEq] at hbr) <;> (try ((with_reducible exfalso); omega)))
        | ((with_reducible refine runK hA hd hQ 200 ?hk ?_); (case hk => exact trivial); (conv => arg 9; cbv); (try simp only [OK]))
        | ((with_reducible refine need_of ?hn ?_); (case hn => ((simp (disch := omega) only [hA, OK, emaU, Int.reduceToNat, s_bat]) <;> omega)))
        | (refine CallOK.of (goodF_of F19_ok) (Tri.mono ((fun h => Tri.isTo (hck h) (iff_false_intro hm)) _) fun v hh hx => ?_); (obtain ⟨⟨b, hv, hb⟩, he⟩ := hx; subst hv; subst he; cases b <;> simp (disch := omega) only [hA, OK, emaU, Int.reduceToNat, s_bat, Bool.false_eq_true, true_iff, false_iff, eq_self, reduceCtorEq] at hb) <;> (try ((with_reducible exfalso); omega)))
        | fail
      
      all_goals first | exact absurd trivial (by assumption) | exact FinR.mg rfl (Up.nil []) (Up.nil []) (by rw [mergeS_no hm]; exact ⟨⟨rfl, rfl, rfl, sameV _ _ _ _ _, sameV _ _ _ _ _⟩, rfl⟩)
  exact Tri.litC (fun v hv => hv.cl) (by rw [cellsF_eq]; rfl) (Tri.up t fun v h' ⟨v', h1, h2⟩ => ⟨v', h1, h2⟩) h
end Go.Proofs.YtecephhhjhpcjaaGreatDoor.Stats
end
section
set_option linter.unusedVariables false
set_option linter.unusedSimpArgs false
-- emaX: s_bat
namespace Go.Proofs.YtecephhhjhpcjaaGreatDoor.Stats
open Go Go.Proofs.YtecephhhjhpcjaaGreatDoor Go.Proofs.YtecephhhjhpcjaaGreatDoor.Em
set_option maxRecDepth 100000 in
set_option maxHeartbeats 4000000 in
theorem sameVR_ok (v w : VP) (e : v.same w) (h : EH) : Tri Tryz.prog gs 23 [.agg v.cells, .agg w.cells] h fun v h' => IsP True v ∧ h' = h := by
  obtain ⟨b, n, t, l, c⟩ := v
  obtain ⟨b', n', t', l', c'⟩ := w
  obtain ⟨e1, e2, e3, e4, e5⟩ := e
  simp only at e1 e2 e3 e4 e5
  subst e1; subst e2; subst e3; subst e4; subst e5
  refine Tri.boolC rfl (Tri_of F23_ok fun I0 ρ0 w0 Q hρ hQ => ?_) h
  obtain ⟨A, hA⟩ : ∃ A, A = stdA := ⟨_, rfl⟩
  simp only [VP.cells]
  have hne := s_neqB t t
  cases b
  all_goals
    with_reducible refine runS hA hd hQ 200 ?hk ?_
    case hk => exact trivial
    conv => arg 9; cbv
    try simp only [OK]
    repeat' first
      | (with_reducible refine OKK.loop ?_)
      | (with_reducible refine OKK.again ?_)
      | ((with_reducible refine opt_of (fun hop => ?_) (fun xop hop => ?_)) <;> (try simp (disch := omega) only [hA, OK, emaU, Int.reduceToNat, s_bat , s_neqB, ne_eq, not_true_eq_false, decide_false] at hop))
      | ((with_reducible refine ⟨fun hbr => ?_, fun hbr => ?_⟩) <;> (try simp (disch := omega) only [hA, OK, emaU, Int.reduceToNat, s_bat, reduceCtorEq , s_neqB, ne_eq, not_true_eq_false, decide_false] at hbr) <;> (try ((with_reducible exfalso); omega)))
      | ((with_reducible refine runK hA hd hQ 200 ?hk ?_); (case hk => exact trivial); (conv => arg 9; cbv); (try simp only [OK]))
      | ((with_reducible refine need_of ?hn ?_); (case hn => ((simp (disch := omega) only [hA, OK, emaU, Int.reduceToNat, s_bat , s_neqB, ne_eq, not_true_eq_false, decide_false]) <;> omega)))
      | fail
  all_goals (try (with_reducible refine FinR.self ?_; first | refine FinR.bl rfl ?_ | refine FinR.bs rfl ?_ | refine FinR.blh rfl ?_ rfl | refine FinR.bsh rfl ?_ rfl))
  all_goals (try simp (disch := omega) only [hA, OK, emaU, Int.reduceToNat, s_bat, Bool.false_eq_true, true_iff, false_iff, eq_self, iff_true, iff_false])
  all_goals first
    | exact absurd trivial (by assumption)
    | exact absurd (by assumption : (false == false) = false) (by decide)
    | exact absurd (by assumption : (true == true) = false) (by decide)
    | (refine OKs.loop (fun s => s = _) (fun _ => 0) (fun s hs _ => ?_) rfl; subst hs)
  all_goals
    with_reducible refine runS hA hd hQ 200 ?hk ?_
    case hk => exact trivial
    conv => arg 9; cbv
    try simp only [OK]
    repeat' first
      | (with_reducible refine OKK.loop ?_)
      | (with_reducible refine OKK.again ?_)
      | ((with_reducible refine opt_of (fun hop => ?_) (fun xop hop => ?_)) <;> (try simp (disch := omega) only [hA, OK, emaU, Int.reduceToNat, s_bat] at hop))
      | ((with_reducible refine ⟨fun hbr => ?_, fun hbr => ?_⟩) <;> (try simp (disch := omega) only [hA, OK, emaU, Int.reduceToNat, s_bat, reduceCtorEq] at hbr) <;> (try ((with_reducible exfalso); omega)))
      | ((with_reducible refine runK hA hd hQ 200 ?hk ?_); (case hk => exact trivial); (conv => arg 9; cbv); (try simp only [OK]))
      | ((with_reducible refine need_of ?hn ?_); (case hn => ((simp (disch := omega) only [hA, OK, emaU, Int.reduceToNat, s_bat]) <;> omega)))
      | fail
  all_goals (try (with_reducible refine FinR.self ?_; first | refine FinR.bl rfl ?_ | refine FinR.bs rfl ?_ | refine FinR.blh rfl ?_ rfl | refine FinR.bsh rfl ?_ rfl))
  all_goals (try simp (disch := omega) only [hA, OK, emaU, Int.reduceToNat, s_bat, Bool.false_eq_true, true_iff, false_iff, eq_self, iff_true, iff_false])
  all_goals first
    | exact absurd trivial (by assumption)
    | exact absurd (by assumption : (false == false) = false) (by decide)
    | exact absurd (by assumption : (true == true) = false) (by decide)
    | (simp_all; done)
    | omega
set_option maxRecDepth 100000 in
set_option maxHeartbeats 4000000 in
theorem sameSR_ok (s t : StP) (e : s.same t) (h : EH) : Tri Tryz.prog gs 8 [.agg s.cells, .agg t.cells] h fun v h' => IsP True v ∧ h' = h := by
  have h1 := sameVR_ok s.l t.l e.2.2.2.1
  have h2 := sameVR_ok s.m t.m e.2.2.2.2
  obtain ⟨r, n, hs, ⟨b, m, x, l, c⟩, ⟨b2, m2, x2, l2, c2⟩⟩ := s
  obtain ⟨r', n', hs', ⟨b', m', x', l', c'⟩, ⟨b2', m2', x2', l2', c2'⟩⟩ := t
  obtain ⟨e1, e2, e3, ⟨e4, e5, e6, e7, e8⟩, ⟨e9, e10, e11, e12, e13⟩⟩ := e
  simp only at e1 e2 e3 e4 e5 e6 e7 e8 e9 e10 e11 e12 e13
  subst e1; subst e2; subst e3; subst e4; subst e5; subst e6; subst e7; subst e8; subst e9; subst e10; subst e11; subst e12; subst e13
  refine Tri.boolC rfl (Tri_of F8_ok fun I0 ρ0 w0 Q hρ hQ => ?_) h
  obtain ⟨A, hA⟩ : ∃ A, A = stdA := ⟨_, rfl⟩
  simp only [StP.cells, VP.cells, List.cons_append, List.nil_append, List.append_assoc] at *
  cases hs
  all_goals
    with_reducible refine runS hA hd hQ 200 ?hk ?_
    case hk => exact trivial
    conv => arg 9; cbv
    try simp only [OK]
    repeat' first
      | (with_reducible refine OKK.loop ?_)
      | (with_reducible refine OKK.again ?_)
      | ((with_reducible refine opt_of (fun hop => ?_) (fun xop hop => ?_)) <;> (try simp (disch := omega) only [hA, OK, emaU, Int.reduceToNat, s_bat] at hop))
      | ((with_reducible refine ⟨fun hbr => ?_, fun hbr => ?_⟩) <;> (try simp (disch := omega) only [hA, OK, emaU, Int.reduceToNat, s_bat, reduceCtorEq] at hbr) <;> (try ((with_reducible exfalso); omega)))
      | ((with_reducible refine runK hA hd hQ 200 ?hk ?_); (case hk => exact trivial); (conv => arg 9; cbv); (try simp only [OK]))
      | ((with_reducible refine need_of ?hn ?_); (case hn => ((simp (disch := omega) only [hA, OK, emaU, Int.reduceToNat, s_bat]) <;> omega)))
      | (refine CallOK.of (goodF_of F23_ok) (Tri.mono (h1 _) fun v hh hx => ?_); (obtain ⟨⟨b, hv, hb⟩, he⟩ := hx; subst hv; subst he; cases b <;> simp (disch := omega) only [hA, OK, emaU, Int.reduceToNat, s_bat, Bool.false_eq_true, true_iff, false_iff, eq_self, reduceCtorEq] at hb) <;> (try ((with_reducible exfalso); omega)))
      | (refine CallOK.of (goodF_of F23_ok) (Tri.mono (h2 _) fun v hh hx => ?_); (obtain ⟨⟨b, hv, hb⟩, he⟩ := hx; subst hv; subst he; cases b <;> simp (disch := omega) only [hA, OK, emaU, Int.reduceToNat, s_bat, Bool.false_eq_true, true_iff, false_iff, eq_self, reduceCtorEq] at hb) <;> (try ((with_reducible exfalso); omega)))
      | fail
  all_goals (try (with_reducible refine FinR.self ?_; first | refine FinR.bl rfl ?_ | refine FinR.bs rfl ?_ | refine FinR.blh rfl ?_ rfl | refine FinR.bsh rfl ?_ rfl))
  all_goals (try simp (disch := omega) only [hA, OK, emaU, Int.reduceToNat, s_bat, Bool.false_eq_true, true_iff, false_iff, eq_self, iff_true, iff_false])
  all_goals first
    | exact absurd trivial (by assumption)
    | exact absurd (by assumption : (false == false) = false) (by decide)
    | exact absurd (by assumption : (true == true) = false) (by decide)
    | (simp_all; done)
    | omega
theorem same_both {s t m : StP} (h : s.same m) (k : t.same m) : s.same t := by
  obtain ⟨e1, e2, e3, ⟨e4, e5, e6, e7, e8⟩, ⟨e9, e10, e11, e12, e13⟩⟩ := h
  obtain ⟨k1, k2, k3, ⟨k4, k5, k6, k7, k8⟩, ⟨k9, k10, k11, k12, k13⟩⟩ := k
  exact ⟨e1.trans k1.symm, e2.trans k2.symm, e3.trans k3.symm, ⟨e4.trans k4.symm, e5.trans k5.symm, e6.trans k6.symm, e7, k7⟩, ⟨e9.trans k9.symm, e10.trans k10.symm, e11.trans k11.symm, e12, k12⟩⟩
set_option maxRecDepth 100000 in
set_option maxHeartbeats 8000000 in
theorem merges_ok (f : Fld) (hok : okF f) (a b : StP) (ha : a.ok) (hb0 : b.ok) (h : EH) :
    Tri Tryz.prog gs 3 [.agg (cellsF f), .agg a.cells, .agg b.cells] h fun v h' => IsP True v ∧ h' = h := by
  refine Tri.boolC (by rw [cellsF_eq]; rfl) (Tri_of F3_ok fun I0 ρ0 w0 Q hρ hQ => ?_) h
  obtain ⟨A, hA⟩ : ∃ A, A = stdA := ⟨_, rfl⟩
  have hm1 := merge_ok f hok a b ha hb0
  have hm2 := mergeR_ok f hok a b ha hb0
  have hfx : ∀ h : EH, Tri Tryz.prog gs 9 [] h fun v h' => IsP True v ∧ h' = h := fun h => (fixed_ok h).mono fun v h' hx => ⟨⟨true, hx.1, by simp⟩, hx.2⟩
  unfold MergeV at hm1 hm2
  generalize mergeS (mayF f) (ck f) a b = M at hm1 hm2
  rw [cellsF_eq] at *
  generalize cellsFs f.kids = kc, f.kids.length = kn, f.nm = nm, f.nul = nul, f.kind = k, f.width = w, f.id = i, f.idx = x at *
  obtain ⟨ar, an, ah, ⟨alb, aln, alt, all_, alc⟩, ⟨amb, amn, amt, aml, amc⟩⟩ := a
  obtain ⟨br, bn, bh, ⟨blb, bln, blt, bll, blc⟩, ⟨bmb, bmn, bmt, bml, bmc⟩⟩ := b
  simp only [StP.cells, VP.cells, List.cons_append, List.nil_append, List.append_assoc] at hm1 hm2 ⊢
  with_reducible refine runS hA hd hQ 200 ?hk ?_
  case hk => exact trivial
  conv => arg 9; cbv
  try simp only [OK]
  repeat' first
    | (with_reducible refine OKK.loop ?_)
    | (with_reducible refine OKK.again ?_)
    | ((with_reducible refine opt_of (fun hop => ?_) (fun xop hop => ?_)) <;> (try simp (disch := omega) only [hA, OK, emaU, Int.reduceToNat, s_bat] at hop))
    | ((with_reducible refine ⟨fun hbr => ?_, fun hbr => ?_⟩) <;> (try simp (disch := omega) only [hA, OK, emaU, Int.reduceToNat, s_bat, reduceCtorEq] at hbr) <;> (try ((with_reducible exfalso); omega)))
    | ((with_reducible refine runK hA hd hQ 200 ?hk ?_); (case hk => exact trivial); (conv => arg 9; cbv); (try simp only [OK]))
    | ((with_reducible refine need_of ?hn ?_); (case hn => ((simp (disch := omega) only [hA, OK, emaU, Int.reduceToNat, s_bat]) <;> omega)))
    | fail
  refine CallOK.of (goodF_of F6_ok) (Tri.mono (hm1 _) fun v hh hx => ?_)
  obtain ⟨⟨s1, e1, hv, hs1, he1⟩, hh'⟩ := hx
  subst hv; subst hh'
  obtain ⟨r1, n1, h1, ⟨b1, c1, d1, l1, g1⟩, ⟨b2, c2, d2, l2, g2⟩⟩ := s1
  simp only [StP.cells, VP.cells, List.cons_append, List.nil_append, List.append_assoc]
  with_reducible refine runK hA hd hQ 1 ?hk ?_
  case hk => exact trivial
  conv => arg 9; cbv
  try simp only [OK]
  repeat' first
    | (with_reducible refine OKK.loop ?_)
    | (with_reducible refine OKK.again ?_)
    | ((with_reducible refine opt_of (fun hop => ?_) (fun xop hop => ?_)) <;> (try simp (disch := omega) only [hA, OK, emaU, Int.reduceToNat, s_bat] at hop))
    | ((with_reducible refine ⟨fun hbr => ?_, fun hbr => ?_⟩) <;> (try simp (disch := omega) only [hA, OK, emaU, Int.reduceToNat, s_bat, reduceCtorEq] at hbr) <;> (try ((with_reducible exfalso); omega)))
    | ((with_reducible refine runK hA hd hQ 200 ?hk ?_); (case hk => exact trivial); (conv => arg 9; cbv); (try simp only [OK]))
    | ((with_reducible refine need_of ?hn ?_); (case hn => ((simp (disch := omega) only [hA, OK, emaU, Int.reduceToNat, s_bat]) <;> omega)))
    | fail
  refine CallOK.of (goodF_of F7_ok) (Tri.mono (hm2 _) fun v hh hx => ?_)
  obtain ⟨⟨s2, e2, hv, hs2, he2⟩, hh'⟩ := hx
  subst hv; subst hh'
  have hsm := sameSR_ok _ _ (same_both hs1 hs2)
  have hee : e2 = e1 := he2.trans he1.symm
  subst hee
  obtain ⟨r3, n3, h3, ⟨b3, c3, d3, l3, g3⟩, ⟨b4, c4, d4, l4, g4⟩⟩ := s2
  simp only [StP.cells, VP.cells, List.cons_append, List.nil_append, List.append_assoc] at hsm ⊢
  with_reducible refine runK hA hd hQ 1 ?hk ?_
  case hk => exact trivial
  conv => arg 9; cbv
  try simp only [OK]
  repeat' first
    | (with_reducible refine OKK.loop ?_)
    | (with_reducible refine OKK.again ?_)
    | ((with_reducible refine opt_of (fun hop => ?_) (fun xop hop => ?_)) <;> (try simp (disch := omega) only [hA, OK, emaU, Int.reduceToNat, s_bat] at hop))
    | ((with_reducible refine ⟨fun hbr => ?_, fun hbr => ?_⟩) <;> (try simp (disch := omega) only [hA, OK, emaU, Int.reduceToNat, s_bat, reduceCtorEq] at hbr) <;> (try ((with_reducible exfalso); omega)))
    | ((with_reducible refine runK hA hd hQ 200 ?hk ?_); (case hk => exact trivial); (conv => arg 9; cbv); (try simp only [OK]))
    | ((with_reducible refine need_of ?hn ?_); (case hn => ((simp (disch := omega) only [hA, OK, emaU, Int.reduceToNat, s_bat]) <;> omega)))
    | (refine CallOK.of (goodF_of F8_ok) (Tri.mono (hsm _) fun v hh hx => ?_); (obtain ⟨⟨b, hv, hb⟩, he⟩ := hx; subst hv; subst he; cases b <;> simp (disch := omega) only [hA, OK, emaU, Int.reduceToNat, s_bat, Bool.false_eq_true, true_iff, false_iff, eq_self, reduceCtorEq] at hb) <;> (try ((with_reducible exfalso); omega)))
    | (refine CallOK.of (goodF_of F9_ok) (Tri.mono (hfx _) fun v hh hx => ?_); (obtain ⟨⟨b, hv, hb⟩, he⟩ := hx; subst hv; subst he; cases b <;> simp (disch := omega) only [hA, OK, emaU, Int.reduceToNat, s_bat, Bool.false_eq_true, true_iff, false_iff, eq_self, reduceCtorEq] at hb) <;> (try ((with_reducible exfalso); omega)))
    | fail
  all_goals (try (with_reducible refine FinR.self ?_; first | refine FinR.bl rfl ?_ | refine FinR.bs rfl ?_ | refine FinR.blh rfl ?_ rfl | refine FinR.bsh rfl ?_ rfl))
  all_goals (try simp (disch := omega) only [hA, OK, emaU, Int.reduceToNat, s_bat, Bool.false_eq_true, true_iff, false_iff, eq_self, iff_true, iff_false])
  all_goals first
    | exact absurd trivial (by assumption)
    | (simp_all; done)
    | omega
end Go.Proofs.YtecephhhjhpcjaaGreatDoor.Stats
end
