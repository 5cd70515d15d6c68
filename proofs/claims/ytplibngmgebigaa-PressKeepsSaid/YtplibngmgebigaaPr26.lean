/- Pr26: Pack and Unpack give own memory; a call that is lent own memory and gives own bytes. No conditions beyond those written. -/
import Derived.Test.YtplibngmgebigaaPr24
import Derived.Test.YtplibngmgebigaaPr15
-- emaT
set_option linter.unusedVariables false
set_option linter.unusedSimpArgs false
namespace Go.Proofs.Ytplibngmgebigaa.Press
open Go Go.Proofs.Ytplibngmgebigaa Go.Proofs.Ytplibngmgebigaa.Em

theorem emaT : (∀ (a b : Nat), (stdA.le a b = true) = (a ≤ b)) ∧ (∀ (a : Int) (b : Nat), (stdA.inb a b = true) = (0 ≤ a ∧ a < b)) ∧ (∀ (a b : Int) (n : Nat), (stdA.slb a b n = true) = (0 ≤ a ∧ a ≤ b ∧ b ≤ n)) ∧ (∀ (n b : Nat), (stdA.room n b = true) = (n * b ≤ 140737488355328 ∧ n ≤ 9223372036854775807)) ∧ (∀ (b : Nat) (n m : Int), (stdA.mks b n m = true) = (0 ≤ n ∧ n ≤ m ∧ m * b ≤ 281474976710656 ∧ m ≤ 9223372036854775807)) ∧ (∀ (a : Int), (stdA.ne0 a = true) = (a ≠ 0)) ∧ (∀ (a : Int), (stdA.nn a = true) = (0 ≤ a)) ∧ (∀ (a b : Int), stdA.ic .eql a b = decide (a = b)) ∧ (∀ (a b : Int), stdA.ic .neq a b = decide (a ≠ b)) ∧ (∀ (a b : Int), stdA.ic .lss a b = decide (a < b)) ∧ (∀ (a b : Int), stdA.ic .leq a b = decide (a ≤ b)) ∧ (∀ (a b : Int), stdA.ic .gtr a b = decide (b < a)) ∧ (∀ (a b : Int), stdA.ic .geq a b = decide (b ≤ a)) ∧ (∀ (n : Nat), stdA.isz n = decide (n = 0)) ∧ (∀ (b : Bool), stdA.bnot b = !b) ∧ (∀ (a b : Bool), stdA.beq a b = (a == b)) ∧ (∀ (o : Nat) (i : Int) (e : Nat), stdA.idx o i e = o + i.toNat * e) ∧ (∀ (a b : Nat), stdA.add a b = a + b) ∧ (∀ (a b : Nat), stdA.sub a b = a - b) ∧ (∀ (a b : Nat), stdA.mul a b = a * b) ∧ (∀ (a : Int), stdA.tn a = a.toNat) ∧ (∀ (a : Nat), stdA.ofn a = (a : Int)) ∧ (∀ (a b : Nat), stdA.nmin a b = min a b) ∧ (∀ (n : Nat) (l : List EV), stdA.drp n l = l.drop n) ∧ (∀ (n : Nat) (l : List EV), stdA.tak n l = l.take n) ∧ (∀ (l m : List EV), stdA.app l m = l ++ m) ∧ (∀ (l : List EV), stdA.len l = l.length) ∧ (∀ (a b : Nat), stdA.le a b = decide (a ≤ b)) ∧ (∀ (a b : Int) (h1 : -9223372036854775808 ≤ a + b) (h2 : a + b ≤ 9223372036854775807), stdA.ib .add .i64 a b = a + b) ∧ (∀ (a b : Int) (h1 : -9223372036854775808 ≤ a - b) (h2 : a - b ≤ 9223372036854775807), stdA.ib .sub .i64 a b = a - b) ∧ (∀ (a b : Int) (h1 : -9223372036854775808 ≤ a * b) (h2 : a * b ≤ 9223372036854775807), stdA.ib .mul .i64 a b = a * b) ∧ (∀ (n : Int) (h1 : -9223372036854775808 ≤ n) (h2 : n ≤ 9223372036854775807), stdA.wr .i64 n = n) ∧ (∀ (n : Int) (h1 : 0 ≤ n) (h2 : n < 256), stdA.wr .u8 n = n) ∧ (∀ (l : List Nat), l.map byteV = bytesE l) ∧ (∀ (l : List Nat), (bytesE l).length = l.length) ∧ (∀ (n : Nat) (l : List Nat), (bytesE l).drop n = bytesE (l.drop n)) ∧ (∀ (n : Nat) (l : List Nat), (bytesE l).take n = bytesE (l.take n)) ∧ (∀ (l m : List Nat), bytesE l ++ bytesE m = bytesE (l ++ m)) ∧ (∀ (l : List Int), l.map intV = intsE l) ∧ (∀ (l : List Int), (intsE l).length = l.length) ∧ (∀ (p : Prop) [Decidable p], (decide p = true) = p) ∧ (∀ (p : Prop) [Decidable p], (decide p = false) = ¬p) ∧ (∀ n : Nat, n * 1 = n) ∧ (∀ n : Nat, 0 + n = n) ∧ (∀ n : Nat, n + 0 = n) ∧ (∀ b : Bool, ((!b) = true) = (b = false)) ∧ (∀ (α : Type) (n : Nat) (l : List α), (l.take n).length = min n l.length) ∧ (∀ (α : Type) (n : Nat) (l : List α), (l.drop n).length = l.length - n) ∧ (∀ (α : Type) (l m : List α), (l ++ m).length = l.length + m.length) ∧ (∀ (α : Type) (x : α) (l : List α), (x :: l).length = l.length + 1) ∧ (∀ α : Type, ([] : List α).length = 0) ∧ (∀ (α : Type) (l : List α), l.drop 0 = l) :=
  ⟨@s_le, @s_inb, @s_slb, @s_room, @s_mks, @s_ne0, @s_nn, @s_eql, @s_neq, @s_lss, @s_leq, @s_gtr, @s_geq, @s_isz, @s_bnot, @s_beq, @s_idx, @s_addN, @s_subN, @s_mulN, @s_tn, @s_ofn, @s_nmin, @s_drp, @s_tak, @s_app, @s_len, @s_leB, @s_add, @s_sub, @s_mul, @s_wr64, @s_wr8, @bytesE_fold, @bytesE_length, @bytesE_drop, @bytesE_take, @bytesE_app, @intsE_fold, @intsE_length, fun p _ => by simp, fun p _ => by simp, by intros; simp, by intros; simp, by intros; simp, fun b => by simp, by intros; simp, by intros; simp, by intros; simp, by intros; simp, fun _ => rfl, by intros; simp⟩

section
variable {P : Program} {G : List (List EV)}

theorem blk_lt {h : EH} {id : Nat} {c : List EV} (hg : getH h id = .blk c) : id < sizeH h := by
  rcases Nat.lt_or_ge id (sizeH h) with h1 | h1
  · exact h1
  · rw [getH_ge h id h1] at hg; cases hg

theorem outE_ne {r : List Nat} (h : r ≠ []) : outE r = .sl 1 0 0 r.length none := by
  cases r with
  | nil => exact absurd rfl h
  | cons x l => rfl
theorem outH_ne {r : List Nat} (h : r ≠ []) : outH r = [.blk (bytesE r)] := by
  cases r with
  | nil => exact absurd rfl h
  | cons x l => rfl

theorem mvH_one (id : Nat) (h : EH) (r : List Nat) (hg : getH h id = .blk (bytesE r)) : mvH [id] [] h [id] = [.blk (bytesE r)] := by
  simp [mvH, hg, mvO, mvL_bytes, show inL [] id = false from rfl]

/-- What comes back as own bytes, or none, and nothing beside. -/
theorem Tri.own1 {f : FuncId} {args : List EV} {r : List Nat}
    (t : Tri P G f args [] fun v h => (v = .lit (.slice none 0 0) ∧ r = []) ∨ (r ≠ [] ∧ ∃ id cap, v = .sl 1 id 0 r.length cap ∧ getH h id = .blk (bytesE r))) :
    Tri P G f args [] fun v h => v = outE r ∧ h = outH r := by
  refine Tri.up (R := fun v h => Up v (outE r) ∧ h = outH r) (Tri.mv t fun v h hc => ?_) (fun v h hx => ⟨outE r, ⟨rfl, hx.2⟩, hx.1⟩)
  rcases hc with ⟨rfl, rfl⟩ | ⟨hne, id, cap, rfl, hg⟩
  · exact ⟨[], [], rfl, ⟨by simp, by simp, by simp⟩, by simp only [mvE]; exact Up.refl _, rfl⟩
  · refine ⟨[id], [], rfl, ⟨by simp, fun i hi => ?_, by simp⟩, ?_, ?_⟩
    · simp at hi; subst hi; exact blk_lt hg
    · rw [outE_ne hne]
      simp [mvE, mvG, ixL, inL]
      exact Up.scap _ _ _ _ _
    · rw [outH_ne hne]; exact mvH_one id h r hg

theorem niE_out (r : List Nat) : niE (outE r) = true := by cases r <;> rfl
theorem niH_out (r : List Nat) : niH (outH r) = true := by
  cases r with
  | nil => rfl
  | cons x l => simp [outH, niH, niO]; exact niL_bytes _

/-- A call that is lent own memory and gives own bytes. -/
theorem Tri.lendO {f : FuncId} {args args' : List EV} {r : List Nat} {e : EV} {h : EH} (fr : List Nat) (hfr : ∀ id ∈ fr, ∃ c, getH h id = .blk c ∧ clL c = true)
    (hu : ∀ w I ρ vs, RepL w I ρ (mvL (mvG [] fr) (mvZ fr h) args) vs → RepL w I ρ args' vs) (he : clE e = true) (he2 : niE e = true)
    (t : Tri P G f args' [] fun v h => v = .tup [outE r, e] ∧ h = outH r) :
    Tri P G f args h fun v h' => (r = [] ∧ v = .tup [.lit (.slice none 0 0), e] ∧ h' = h) ∨ (r ≠ [] ∧ v = .tup [.sl 1 (sizeH h) 0 r.length none, e] ∧ h' = pushH h (.blk (bytesE r))) := by
  refine (Tri.frame (h := h) fr hfr (Tri.args t hu) (.inr fun v h' hx => ?_)).mono fun v h' ⟨v0, h0, ⟨e1, e2⟩, e3, e4⟩ => ?_
  · obtain ⟨e1, e2⟩ := hx; subst e1; subst e2
    exact ⟨by simp [niE, niL, niE_out, he2], niH_out r⟩
  · subst e1; subst e2; subst e3; subst e4
    by_cases hr : r = []
    · subst hr
      exact .inl ⟨rfl, by simp [outE, mvE, mvL, mvE_cl _ _ e he], rfl⟩
    · refine .inr ⟨hr, ?_, ?_⟩
      · rw [outE_ne hr]; simp [mvE, mvL, mvE_cl _ _ e he, shG]
      · rw [outH_ne hr]; simp [appH, mvO, mvL_bytes]

end

theorem opened_own (how : Int) (b : List Nat) (hb : AllB b) (hl : b.length ≤ 9223372036854775807) (most more : Int) (hm : 0 ≤ most ∧ most ≤ 65536) :
    Tri Try.prog [] 22 [.lit (.int .i64 how), .isl b.length none (bytesE b), .lit (.int .i64 most), .lit (.int .i64 more)] [] fun v h =>
      v = .tup [outE (opL how b most more).1, .lit (.int .i64 (opL how b most more).2)] ∧ h = outH (opL how b most more).1 := by
  refine Tri.mv (opened_ok how b hb hl most more hm) fun v h hx => ?_
  obtain ⟨hv, hh⟩ := hx
  subst hv
  obtain ⟨r, hr⟩ : ∃ r, r = (opL how b most more).1 := ⟨_, rfl⟩
  rw [← hr] at hh ⊢
  by_cases h0 : r = []
  · subst h0
    exact ⟨[], [], rfl, ⟨by simp, by simp, by simp⟩, by simp [mvE, mvL, outE], rfl⟩
  · rcases hh with hh | hh
    · exact absurd hh h0
    · subst hh
      rw [outE_ne h0, outH_ne h0]
      exact ⟨[0], [], rfl, ⟨by simp, by simp [sizeH], by simp⟩, by simp [mvE, mvL, mvG, ixL, inL], by simp [mvH, getH, mvO, mvL_bytes, show inL [] 0 = false from rfl]⟩

set_option maxHeartbeats 4000000 in
theorem unpackP_own (how : Int) (b : List Nat) (hb : AllB b) (hl : b.length ≤ 140737488351232) (raw : Int) :
    Tri Try.prog [] 14 [.lit (.int .i64 how), isB b, .lit (.int .i64 raw)] [] fun v h => v = .tup [outE (unL how b raw).1, .lit (.int .i64 (unL how b raw).2)] ∧ h = outH (unL how b raw).1 := by
  refine Tri.mv (R := fun v h => v = .tup [outE (unL how b raw).1, .lit (.int .i64 (unL how b raw).2)] ∧ ((unL how b raw).1 = [] ∨ h = outH (unL how b raw).1)) ?_ fun v h hx => ?_
  · refine Tri_of F14_ok fun I0 ρ0 w0 Q hρ hQ => ?_
    obtain ⟨A, hA⟩ : ∃ A, A = stdA := ⟨_, rfl⟩
    obtain ⟨n, c, hi, hn, hc⟩ := isB_open b
    rw [hi]
    with_reducible refine runS hA hd hQ 100 ?hk ?_
    case hk => exact trivial
    conv => arg 8; cbv
    try simp only [OK]
    refine ⟨goodF_of F21_ok, (right_fr how).mono fun v h' hx => ?_⟩
    obtain ⟨hv, hh⟩ := hx
    obtain ⟨rb, hrb⟩ : ∃ rb, rb = decide (0 ≤ how ∧ how ≤ 2) := ⟨_, rfl⟩
    rw [← hrb] at hv; subst hv; subst hh
    with_reducible refine runK hA hd hQ 100 ?hk ?_
    case hk => exact trivial
    conv => arg 8; cbv
    try simp only [OK]
    refine ⟨fun h1 => ?_, fun h1 => ?_⟩ <;> simp only [hA, s_bnot, hrb, Bool.not_eq_true', Bool.not_eq_false', decide_eq_true_eq, decide_eq_false_iff_not] at h1
    · have hr' : unL how b raw = ([], 1) := by unfold unL; rw [if_pos (by omega)]
      with_reducible refine runK hA hd hQ 100 ?hk ?_
      case hk => exact trivial
      conv => arg 8; cbv
      try simp only [OK]
      exact ⟨_, rfl, by rw [hr']; rfl, .inl (by rw [hr'])⟩
    · with_reducible refine runK hA hd hQ 100 ?hk ?_
      case hk => exact trivial
      conv => arg 8; cbv
      try simp only [OK]
      refine ⟨fun h2 => ?_, fun h2 => ?_⟩ <;> simp (disch := omega) only [hA, OK, emaT] at h2
      · have hr' : unL how b raw = ([], 1) := by unfold unL; rw [if_pos (by omega)]
        with_reducible refine runK hA hd hQ 100 ?hk ?_
        case hk => exact trivial
        conv => arg 8; cbv
        try simp only [OK]
        exact ⟨_, rfl, by rw [hr']; rfl, .inl (by rw [hr'])⟩
      · with_reducible refine runK hA hd hQ 100 ?hk ?_
        case hk => exact trivial
        conv => arg 8; cbv
        try simp only [OK]
        refine ⟨fun h3 => ?_, fun h3 => ?_⟩ <;> simp (disch := omega) only [hA, OK, emaT] at h3
        · have hr' : unL how b raw = ([], 4) := by unfold unL; rw [if_neg (by omega), if_pos (by omega)]
          with_reducible refine runK hA hd hQ 100 ?hk ?_
          case hk => exact trivial
          conv => arg 8; cbv
          try simp only [OK]
          exact ⟨_, rfl, by rw [hr']; rfl, .inl (by rw [hr'])⟩
        · with_reducible refine runK hA hd hQ 100 ?hk ?_
          case hk => exact trivial
          conv => arg 8; cbv
          try simp only [OK]
          have t := opened_own how b hb (by omega) raw 61 (by omega)
          rw [← hc, ← hn] at t
          refine ⟨goodF_of F22_ok, t.mono fun v h' hx => ?_⟩
          obtain ⟨hv, hh⟩ := hx
          obtain ⟨r, hr⟩ : ∃ r, r = opL how b raw 61 := ⟨_, rfl⟩
          rw [← hr] at hv hh
          obtain ⟨re, hre⟩ : ∃ re, re = r.2 := ⟨_, rfl⟩
          rw [← hre] at hv
          by_cases h0 : r.1 = []
          · rw [h0] at hv hh
            subst hv; subst hh
            with_reducible refine runK hA hd hQ 100 ?hk ?_
            case hk => exact trivial
            conv => arg 8; cbv
            try simp only [OK]
            refine ⟨fun h4 => ?_, fun h4 => ?_⟩ <;> simp (disch := omega) only [hA, OK, emaT] at h4
            · have hr' : unL how b raw = ([], re) := by unfold unL; rw [if_neg (by omega), if_neg (by omega), ← hr, if_pos (by rw [← hre]; exact h4), hre]
              with_reducible refine runK hA hd hQ 100 ?hk ?_
              case hk => exact trivial
              conv => arg 8; cbv
              try simp only [OK]
              exact ⟨_, rfl, by rw [hr']; rfl, .inl (by rw [hr'])⟩
            · with_reducible refine runK hA hd hQ 100 ?hk ?_
              case hk => exact trivial
              conv => arg 8; cbv
              try simp only [OK]
              refine ⟨fun h5 => ?_, fun h5 => ?_⟩ <;> simp (disch := omega) only [hA, OK, emaT] at h5
              · have hr' : unL how b raw = ([], 62) := by unfold unL; rw [if_neg (by omega), if_neg (by omega), ← hr, if_neg (by rw [← hre]; exact h4), if_pos (by rw [h0]; exact h5)]
                with_reducible refine runK hA hd hQ 100 ?hk ?_
                case hk => exact trivial
                conv => arg 8; cbv
                try simp only [OK]
                exact ⟨_, rfl, by rw [hr']; rfl, .inl (by rw [hr'])⟩
              · have hr' : unL how b raw = ([], 0) := by unfold unL; rw [if_neg (by omega), if_neg (by omega), ← hr, if_neg (by rw [← hre]; exact h4), if_neg (by rw [h0]; exact h5), h0]
                with_reducible refine runK hA hd hQ 100 ?hk ?_
                case hk => exact trivial
                conv => arg 8; cbv
                try simp only [OK]
                exact ⟨_, rfl, by rw [hr']; rfl, .inl (by rw [hr'])⟩
          · obtain ⟨rn, hrn⟩ : ∃ rn, rn = r.1.length := ⟨_, rfl⟩
            obtain ⟨rc, hrc⟩ : ∃ rc, rc = bytesE r.1 := ⟨_, rfl⟩
            rw [outE_ne h0, ← hrn] at hv
            rw [outH_ne h0, ← hrc] at hh
            subst hv; subst hh
            with_reducible refine runK hA hd hQ 100 ?hk ?_
            case hk => exact trivial
            conv => arg 8; cbv
            try simp only [OK]
            refine ⟨fun h4 => ?_, fun h4 => ?_⟩ <;> simp (disch := omega) only [hA, OK, emaT] at h4
            · have hr' : unL how b raw = ([], re) := by unfold unL; rw [if_neg (by omega), if_neg (by omega), ← hr, if_pos (by rw [← hre]; exact h4), hre]
              with_reducible refine runK hA hd hQ 100 ?hk ?_
              case hk => exact trivial
              conv => arg 8; cbv
              try simp only [OK]
              exact ⟨_, rfl, by rw [hr']; rfl, .inl (by rw [hr'])⟩
            · with_reducible refine runK hA hd hQ 100 ?hk ?_
              case hk => exact trivial
              conv => arg 8; cbv
              try simp only [OK]
              refine ⟨fun h5 => ?_, fun h5 => ?_⟩ <;> simp (disch := omega) only [hA, OK, emaT] at h5
              · have hr' : unL how b raw = ([], 62) := by unfold unL; rw [if_neg (by omega), if_neg (by omega), ← hr, if_neg (by rw [← hre]; exact h4), if_pos (by omega)]
                with_reducible refine runK hA hd hQ 100 ?hk ?_
                case hk => exact trivial
                conv => arg 8; cbv
                try simp only [OK]
                exact ⟨_, rfl, by rw [hr']; rfl, .inl (by rw [hr'])⟩
              · have hr' : unL how b raw = (r.1, 0) := by unfold unL; rw [if_neg (by omega), if_neg (by omega), ← hr, if_neg (by rw [← hre]; exact h4), if_neg (by omega)]
                with_reducible refine runK hA hd hQ 100 ?hk ?_
                case hk => exact trivial
                conv => arg 8; cbv
                try simp only [OK]
                exact ⟨_, rfl, by rw [hr', outE_ne h0, hrn]; rfl, .inr (by rw [hr', outH_ne h0, hrc])⟩
  · obtain ⟨hv, hh⟩ := hx
    subst hv
    obtain ⟨r, hr⟩ : ∃ r, r = (unL how b raw).1 := ⟨_, rfl⟩
    rw [← hr] at hh ⊢
    by_cases h0 : r = []
    · subst h0
      exact ⟨[], [], rfl, ⟨by simp, by simp, by simp⟩, by simp [mvE, mvL, outE], rfl⟩
    · rcases hh with hh | hh
      · exact absurd hh h0
      · subst hh
        rw [outE_ne h0, outH_ne h0]
        exact ⟨[0], [], rfl, ⟨by simp, by simp [sizeH], by simp⟩, by simp [mvE, mvL, mvG, ixL, inL], by simp [mvH, getH, mvO, mvL_bytes, show inL [] 0 = false from rfl]⟩

set_option maxHeartbeats 4000000 in
theorem packP_own (how : Int) (b : List Nat) (hb : AllB b) (hl : b.length ≤ 140737488351232) :
    Tri Try.prog [] 17 [.lit (.int .i64 how), isB b] [] fun v h => v = .tup [outE (packL how b).1, .lit (.int .i64 (packL how b).2)] ∧ h = outH (packL how b).1 := by
  refine Tri_of F17_ok fun I0 ρ0 w0 Q hρ hQ => ?_
  obtain ⟨A, hA⟩ : ∃ A, A = stdA := ⟨_, rfl⟩
  obtain ⟨N, c, hi, hN, hc⟩ := isB_open b
  rw [hi]
  with_reducible refine runS hA hd hQ 100 ?hk ?_
  case hk => exact trivial
  conv => arg 8; cbv
  try simp only [OK]
  refine ⟨goodF_of F21_ok, (right_fr how).mono fun v h' hx => ?_⟩
  obtain ⟨hv, hh⟩ := hx
  obtain ⟨rb, hrb⟩ : ∃ rb, rb = decide (0 ≤ how ∧ how ≤ 2) := ⟨_, rfl⟩
  rw [← hrb] at hv; subst hv; subst hh
  with_reducible refine runK hA hd hQ 100 ?hk ?_
  case hk => exact trivial
  conv => arg 8; cbv
  try simp only [OK]
  refine ⟨fun h1 => ?_, fun h1 => ?_⟩ <;> simp only [hA, s_bnot, hrb, Bool.not_eq_true', Bool.not_eq_false', decide_eq_true_eq, decide_eq_false_iff_not] at h1
  · have hr' : packL how b = ([], 1) := by unfold packL; rw [if_pos (by omega)]
    with_reducible refine runK hA hd hQ 100 ?hk ?_
    case hk => exact trivial
    conv => arg 8; cbv
    try simp only [OK]
    exact ⟨_, rfl, by rw [hr']; rfl, by rw [hr']; rfl⟩
  · with_reducible refine runK hA hd hQ 100 ?hk ?_
    case hk => exact trivial
    conv => arg 8; cbv
    try simp only [OK]
    refine ⟨fun h2 => ?_, fun h2 => ?_⟩ <;> simp (disch := omega) only [hA, OK, emaT] at h2
    · have hr' : packL how b = ([], 4) := by unfold packL; rw [if_neg (by omega), if_pos (by omega)]
      with_reducible refine runK hA hd hQ 100 ?hk ?_
      case hk => exact trivial
      conv => arg 8; cbv
      try simp only [OK]
      exact ⟨_, rfl, by rw [hr']; rfl, by rw [hr']; rfl⟩
    · have hl2 : b.length ≤ 65536 := by omega
      with_reducible refine runK hA hd hQ 100 ?hk ?_
      case hk => exact trivial
      conv => arg 8; cbv
      try simp only [OK]
      refine ⟨fun h3 => ?_, fun h3 => ?_⟩ <;> simp (disch := omega) only [hA, OK, emaT] at h3
      · have hr' : packL how b = (pkF (fdR b) b b.length 0 0 [], 0) := by unfold packL; rw [if_neg (by omega), if_neg (by omega), if_pos h3]
        with_reducible refine runK hA hd hQ 100 ?hk ?_
        case hk => exact trivial
        conv => arg 8; cbv
        try simp only [OK]
        have t := Tri.own1 (packedR_own b hb hl2 N c hN hc (fdR b) (fdR_ok b hb) (fun p hp => by
          have := runs_at b hb hl2 p hp
          rwa [hi] at this))
        refine ⟨goodF_of F23_ok, t.mono fun v h' hx => ?_⟩
        rw [← show (packL how b).1 = pkF (fdR b) b b.length 0 0 [] by rw [hr']] at hx
        obtain ⟨hv, hh⟩ := hx
        rw [← hv, ← hh] at hQ
        with_reducible refine runK hA hd hQ 100 ?hk ?_
        case hk => exact trivial
        conv => arg 8; cbv
        try simp only [OK]
        exact ⟨_, rfl, by rw [hr']; rfl, rfl⟩
      · with_reducible refine runK hA hd hQ 100 ?hk ?_
        case hk => exact trivial
        conv => arg 8; cbv
        try simp only [OK]
        refine ⟨fun h4 => ?_, fun h4 => ?_⟩ <;> simp (disch := omega) only [hA, OK, emaT] at h4
        · have hr' : packL how b = (pkF (fdB b (lastL b)) b b.length 0 0 [], 0) := by unfold packL; rw [if_neg (by omega), if_neg (by omega), if_neg h3, if_pos h4]
          with_reducible refine runK hA hd hQ 100 ?hk ?_
          case hk => exact trivial
          conv => arg 8; cbv
          try simp only [OK]
          have t0 := meets_fr b hb hl2 N c hN hc
          obtain ⟨N2, c2, hi2, hN2, hc2⟩ := isI_open (lastL b)
          rw [hi2] at t0
          refine ⟨goodF_of F24_ok, t0.mono fun v h' hx => ?_⟩
          obtain ⟨hv, hh⟩ := hx
          subst hv; subst hh
          with_reducible refine runK hA hd hQ 100 ?hk ?_
          case hk => exact trivial
          conv => arg 8; cbv
          try simp only [OK]
          have t := Tri.own1 (packedB_own b hb hl2 N c N2 c2 hN hc (fdB b (lastL b)) (fdB_ok b hb) (fun p hp => by
            have := backs_at b hb hl2 (lastL b) (by simp [lastL]) p hp (by rw [lastL_get b p hp]; exact lastA_ok b p)
            rwa [hi, hi2] at this))
          refine ⟨goodF_of F23_ok, t.mono fun v h' hx => ?_⟩
          rw [← show (packL how b).1 = pkF (fdB b (lastL b)) b b.length 0 0 [] by rw [hr']] at hx
          obtain ⟨hv, hh⟩ := hx
          rw [← hv, ← hh] at hQ
          with_reducible refine runK hA hd hQ 100 ?hk ?_
          case hk => exact trivial
          conv => arg 8; cbv
          try simp only [OK]
          exact ⟨_, rfl, by rw [hr']; rfl, rfl⟩
        · have hr' : packL how b = (b, 0) := by unfold packL; rw [if_neg (by omega), if_neg (by omega), if_neg h3, if_neg h4]
          with_reducible refine runK hA hd hQ 100 ?hk ?_
          case hk => exact trivial
          conv => arg 8; cbv
          try simp only [OK]
          refine ⟨by simp (disch := omega) only [hA, OK, emaT , hc] <;> omega, by simp (disch := omega) only [hA, OK, emaT] <;> omega, fun h5 => ?_, fun h5 => ?_⟩ <;> simp (disch := omega) only [hA, OK, emaT] at h5
          · with_reducible refine runK hA hd hQ 100 ?hk ?_
            case hk => exact trivial
            conv => arg 8; cbv
            try simp only [OK]
            have hb0 : b = [] := List.length_eq_zero_iff.1 (by omega)
            exact ⟨_, rfl, by rw [hr', hb0]; rfl, by rw [hr', hb0]; rfl⟩
          · with_reducible refine runK hA hd hQ 100 ?hk ?_
            case hk => exact trivial
            conv => arg 8; cbv
            try simp only [OK]
            have hb0 : b ≠ [] := fun h => by rw [h] at hN; simp at hN; omega
            refine ⟨_, rfl, by rw [hr', outE_ne hb0, hN]; rfl, ?_⟩
            rw [hr', outH_ne hb0]; simp (disch := omega) only [hA, OK, emaT , hc, hN, List.take_length]

end Go.Proofs.Ytplibngmgebigaa.Press
