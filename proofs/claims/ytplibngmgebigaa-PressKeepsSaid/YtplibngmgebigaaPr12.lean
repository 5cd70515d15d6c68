/- Pr12: the places that are met again. No conditions beyond those written. -/
import Derived.Test.YtplibngmgebigaaPr11
set_option linter.unusedVariables false
set_option linter.unusedSimpArgs false
namespace Go.Proofs.Ytplibngmgebigaa.Press
open Go Go.Proofs.Ytplibngmgebigaa Go.Proofs.Ytplibngmgebigaa.Em

/-- the latest place below j from which four bytes stand -/
def lastW (b w : List Nat) : Nat → Option Nat
  | 0 => none
  | j + 1 => if j + 4 ≤ b.length ∧ (b.drop j).take 4 = w then some j else lastW b w j

def lastA (b : List Nat) (i : Nat) : Int :=
  if i + 4 ≤ b.length then match lastW b ((b.drop i).take 4) i with
    | some j => (j : Int)
    | none => -1
  else -1

def lastL (b : List Nat) : List Int := (List.range b.length).map (lastA b)

theorem lastW_lt (b w : List Nat) : ∀ (i j : Nat), lastW b w i = some j → j < i ∧ j + 4 ≤ b.length ∧ (b.drop j).take 4 = w
  | 0, j, h => by cases h
  | i + 1, j, h => by
    simp only [lastW] at h
    split at h
    · rename_i hc; cases h; exact ⟨by omega, hc⟩
    · have := lastW_lt b w i j h; exact ⟨by omega, this.2⟩

theorem lastL_get (b : List Nat) (p : Nat) (hp : p < b.length) : (lastL b).getD p 0 = lastA b p := by
  simp [lastL, List.getD_eq_getElem?_getD, List.getElem?_map, List.getElem?_range hp]

theorem lastA_ok (b : List Nat) (p : Nat) : lastA b p < 0 ∨ (0 ≤ lastA b p ∧ lastA b p < p) := by
  unfold lastA
  split
  · split
    · rename_i j hj; have := (lastW_lt _ _ _ _ hj).1; right; omega
    · left; omega
  · left; omega

def kE (w : List Nat) : EV := .agg (bytesE w)

theorem numsE_bytes (w : List Nat) : numsE (bytesE w) = some (w.map fun n : Nat => (IntKind.u8, (n : Int))) := by
  induction w with
  | nil => rfl
  | cons x w ih =>
    simp only [bytesE, List.map_cons, byteV, numsE] at ih ⊢
    rw [ih]

theorem keyV_k (w : List Nat) : keyV (kE w) = some (.arr (w.map fun n : Nat => (IntKind.u8, (n : Int)))) := by
  simp only [kE, keyV, numsE_bytes]

theorem map_inj : ∀ (w w' : List Nat), (w.map fun n : Nat => (IntKind.u8, (n : Int))) = (w'.map fun n : Nat => (IntKind.u8, (n : Int))) → w = w'
  | [], [], _ => rfl
  | [], _ :: _, h => by simp at h
  | _ :: _, [], h => by simp at h
  | x :: w, y :: w', h => by
    simp only [List.map_cons, List.cons.injEq, Prod.mk.injEq] at h
    rw [map_inj w w' h.2]
    have := h.1.2
    congr 1
    omega

theorem keyEq_k (w w' : List Nat) : keyEq (kE w) (kE w') = decide (w = w') := by
  simp only [keyEq, keyV_k]
  by_cases h : w = w'
  · subst h; simp
  · have : KeyV.arr (w.map fun n : Nat => (IntKind.u8, (n : Int))) ≠ KeyV.arr (w'.map fun n : Nat => (IntKind.u8, (n : Int))) := fun he => h (map_inj _ _ (by simpa using he))
    simp [h, this]

theorem keyLike_k (w w' : List Nat) (h : w.length = w'.length) : keyLike (kE w) (kE w') = true := by
  simp only [keyLike, keyV_k, KeyV.like, List.map_map]
  have : (w.map ((fun x => x.1) ∘ fun n : Nat => (IntKind.u8, (n : Int)))) = (w'.map ((fun x => x.1) ∘ fun n : Nat => (IntKind.u8, (n : Int)))) := by
    apply List.ext_getElem?
    intro i
    simp only [List.getElem?_map, Function.comp_def]
    by_cases hi : i < w.length
    · rw [List.getElem?_eq_getElem hi, List.getElem?_eq_getElem (by omega)]; rfl
    · rw [List.getElem?_eq_none (by omega), List.getElem?_eq_none (by omega)]
  rw [this]; simp

def Keys4 (es : List (EV × EV)) : Prop := ∀ p ∈ es, ∃ (w : List Nat) (j : Int), w.length = 4 ∧ p.1 = kE w ∧ p.2 = .lit (.int .i64 j)

theorem mvM_keys (g z) : ∀ {es : List (EV × EV)}, Keys4 es → mvM g z es = es
  | [], _ => rfl
  | (a, c) :: es, h => by
    obtain ⟨w, j, _, h1, h2⟩ := h (a, c) (by simp)
    simp only at h1 h2
    subst h1; subst h2
    simp only [mvM]
    rw [mvM_keys g z fun q hq => h q (by simp [hq]), mvE_cl _ _ (kE w) (by simp [kE, clE, clL_bytes]), mvE_cl _ _ _ rfl]

theorem keyed_ok {es : List (EV × EV)} (h : Keys4 es) (w : List Nat) (hw : w.length = 4) : stdA.keyed 6 es (kE w) = true := by
  simp only [stdA, Bool.and_eq_true, List.all_eq_true]
  refine ⟨by simp [shpIs, keyV_k, KeyV.shp, hw], fun p hp => ?_⟩
  obtain ⟨w', _, h1, h2, _⟩ := h p hp
  rw [h2]; exact keyLike_k _ _ (by omega)

theorem mset_keys {es : List (EV × EV)} (h : Keys4 es) (w : List Nat) (hw : w.length = 4) (v : Int) : Keys4 (stdA.mset es (kE w) (.lit (.int .i64 v))) := by
  show Keys4 (msetL es (kE w) (.lit (.int .i64 v)))
  induction es with
  | nil => intro p hp; simp [msetL] at hp; subst hp; exact ⟨w, v, hw, rfl, rfl⟩
  | cons x es ih =>
    obtain ⟨a, c⟩ := x
    intro p hp
    simp only [msetL] at hp
    split at hp
    · rcases List.mem_cons.1 hp with rfl | hp
      · exact ⟨w, v, hw, rfl, rfl⟩
      · exact h p (by simp [hp])
    · rcases List.mem_cons.1 hp with rfl | hp
      · exact h _ (by simp)
      · exact ih (fun q hq => h q (by simp [hq])) p hp

theorem find_mset {es : List (EV × EV)} (h : Keys4 es) (w : List Nat) (v : EV) (w' : List Nat) : stdA.find (stdA.mset es (kE w) v) (kE w') = if w' = w then some v else stdA.find es (kE w') := by
  show ((msetL es (kE w) v).find? fun p => keyEq (kE w') p.1).map (·.2) = if w' = w then some v else (es.find? fun p => keyEq (kE w') p.1).map (·.2)
  induction es with
  | nil =>
    simp only [msetL, List.find?_cons, keyEq_k, List.find?_nil]
    by_cases hw : w' = w <;> simp [hw]
  | cons x es ih =>
    obtain ⟨a, c⟩ := x
    obtain ⟨wa, _, _, ha, _⟩ := h (a, c) (by simp)
    simp only at ha; subst ha
    have ih := ih fun q hq => h q (by simp [hq])
    simp only [msetL, keyEq_k]
    by_cases h1 : w = wa
    · subst h1
      simp only [decide_true, if_true, List.find?_cons, keyEq_k]
      by_cases h2 : w' = w <;> simp [h2]
    · simp only [h1, decide_false, Bool.false_eq_true, if_false, List.find?_cons, keyEq_k]
      by_cases h2 : w' = wa
      · subst h2; simp [Ne.symm h1]
      · simp only [h2, decide_false]
        exact ih

theorem setl_ints (l : List Int) (i : Nat) (v : Int) (h : i < l.length) : stdA.setl (intsE l) i [.lit (.int .i64 v)] = intsE (l.set i v) := by
  rw [s_setl]
  simp only [intsE, List.length_cons, List.length_nil]
  rw [List.set_eq_take_append_cons_drop, if_pos h]
  simp [intV, List.map_take, List.map_drop]

theorem take4 (l : List Nat) (i : Nat) (h : i + 4 ≤ l.length) : (l.drop i).take 4 = [l.getD i 0, l.getD (i + 1) 0, l.getD (i + 2) 0, l.getD (i + 3) 0] := by
  rw [drop_cons_getD l i (by omega), drop_cons_getD l (i + 1) (by omega), drop_cons_getD l (i + 1 + 1) (by omega), drop_cons_getD l (i + 1 + 1 + 1) (by omega)]
  rfl

theorem look4 {l : List Nat} {c : List EV} (hc : c = bytesE l) (i : Nat) (h : i + 4 ≤ l.length) : ∃ x0 x1 x2 x3 : Int,
    (c.drop i).take 4 = [.lit (.int .u8 x0), .lit (.int .u8 x1), .lit (.int .u8 x2), .lit (.int .u8 x3)] ∧
    EV.agg [.lit (.int .u8 x0), .lit (.int .u8 x1), .lit (.int .u8 x2), .lit (.int .u8 x3)] = kE ((l.drop i).take 4) := by
  refine ⟨((l.getD i 0 : Nat) : Int), ((l.getD (i + 1) 0 : Nat) : Int), ((l.getD (i + 2) 0 : Nat) : Int), ((l.getD (i + 3) 0 : Nat) : Int), ?_, ?_⟩
  · rw [hc, bytesE_drop, bytesE_take, take4 l i h]; rfl
  · rw [take4 l i h]; rfl

theorem rep_ints (N : Nat) : (List.replicate N [EV.lit (.int .i64 0)]).flatten = intsE (List.replicate N 0) := by
  induction N with
  | zero => rfl
  | succ n ih => simp only [List.replicate_succ, List.flatten_cons, ih]; rfl

theorem getD_set (l : List Int) (i j : Nat) (v : Int) (h : i < l.length) : (l.set i v).getD j 0 = if j = i then v else l.getD j 0 := by
  simp only [List.getD_eq_getElem?_getD, List.getElem?_set]
  by_cases hj : j = i
  · subst hj; simp [h]
  · simp [hj, Ne.symm hj]

set_option maxHeartbeats 4000000 in
theorem meets_pre (b : List Nat) (hb : AllB b) (hl : b.length ≤ 65536) (N : Nat) (c : List EV) (hN : N = b.length) (hc : c = bytesE b) :
    Tri Try.prog [] 24 [.isl N none c] [] fun v h => v = .agg [.isl N none c, .sl 1 1 0 N (some N)] ∧ getH h 1 = .blk (intsE (lastL b)) := by
  refine Tri_of F24_ok fun I0 ρ0 w0 Q hρ hQ => ?_
  obtain ⟨A, hA⟩ : ∃ A, A = stdA := ⟨_, rfl⟩
  obtain ⟨nz, hnz⟩ : ∃ nz : Nat, nz = A.tn (A.ofn N) := ⟨_, rfl⟩
  have hnN : nz = N := by rw [hnz, hA]; rfl
  with_reducible refine runS hA hd hQ 200 ?hk ?_
  case hk => exact trivial
  conv => arg 8; cbv
  try simp only [OK]
  refine ⟨by simp (disch := omega) only [hA, OK, s_le, s_inb, s_slb, s_room, s_mks, s_ne0, s_nn, s_eql, s_neq, s_lss, s_leq, s_gtr, s_geq, s_isz, s_bnot, s_beq, s_idx, s_addN, s_subN, s_mulN, s_tn, s_ofn, s_nmin, s_drp, s_tak, s_app, s_len, s_leB, s_add, s_sub, s_mul, s_wr64, s_wr8, bytesE_fold, bytesE_length, bytesE_drop, bytesE_take, bytesE_app, intsE_fold, intsE_length, decide_eq_true_eq, decide_eq_false_iff_not, Nat.mul_one, Nat.zero_add, Nat.add_zero, Bool.not_eq_true', List.length_take, List.length_drop, List.length_append, List.length_cons, List.length_nil, List.drop_zero]; omega, ?_⟩
  refine OKs.mask (msk 53 [0, 2, 3, 4, 16, 17]) ?_
  refine OKs.loop (fun s => ∃ (i : Int) (lc : List EV) (l : List Int) (es : List (EV × EV)), s = ⟨mkT 53 [(0, .isl N none c), (2, .ptr 0 0), (3, .ptr 2 0), (4, .mp 3), (16, .lit (.int .i64 (A.ofn N))), (17, .lit (.int .i64 i))],
        [.blk [.lit (.slice none 0 0), .lit (.slice none 0 0)], .blk lc, .blk [.isl N none c, .sl 1 1 0 (A.tn (A.ofn N)) (some (A.tn (A.ofn N)))], .emap es]⟩ ∧
      lc = intsE l ∧ l.length = N ∧ 0 ≤ i ∧ i ≤ N ∧ (∀ j : Nat, (j : Int) < i → l.getD j 0 = lastA b j) ∧ Keys4 es ∧
      ∀ w : List Nat, w.length = 4 → stdA.find es (kE w) = (lastW b w i.toNat).map fun j => .lit (.int .i64 (j : Int))) (fun s => (N - intN (getT s.t 17)).toNat) (fun s hs ih => ?_)
    ⟨0, _, List.replicate N 0, [], rfl, ?_, by simp, by omega, by omega, fun j hj => by omega, (show Keys4 [] from fun p hp => by cases hp), fun w hw => rfl⟩
  · obtain ⟨i, lc, l, es, rfl, hlc, hll, hi0, hi1, hlj, hk4, hfnd⟩ := hs
    with_reducible refine runS hA hd hQ 200 ?hk ?_
    case hk => exact trivial
    conv => arg 8; cbv
    try simp only [OK]
    refine ⟨fun h1 => ?_, fun h1 => ?_⟩ <;> simp (disch := omega) only [hA, OK, s_le, s_inb, s_slb, s_room, s_mks, s_ne0, s_nn, s_eql, s_neq, s_lss, s_leq, s_gtr, s_geq, s_isz, s_bnot, s_beq, s_idx, s_addN, s_subN, s_mulN, s_tn, s_ofn, s_nmin, s_drp, s_tak, s_app, s_len, s_leB, s_add, s_sub, s_mul, s_wr64, s_wr8, bytesE_fold, bytesE_length, bytesE_drop, bytesE_take, bytesE_app, intsE_fold, intsE_length, decide_eq_true_eq, decide_eq_false_iff_not, Nat.mul_one, Nat.zero_add, Nat.add_zero, Bool.not_eq_true', List.length_take, List.length_drop, List.length_append, List.length_cons, List.length_nil, List.drop_zero] at h1
    · with_reducible refine runK hA hd hQ 200 ?hk ?_
      case hk => exact trivial
      conv => arg 8; cbv
      try simp only [OK]
      have e0 : i.toNat = i.toNat := rfl
      have z1 : A.inb i (A.tn (A.ofn N)) = true := by simp (disch := omega) only [hA, OK, s_le, s_inb, s_slb, s_room, s_mks, s_ne0, s_nn, s_eql, s_neq, s_lss, s_leq, s_gtr, s_geq, s_isz, s_bnot, s_beq, s_idx, s_addN, s_subN, s_mulN, s_tn, s_ofn, s_nmin, s_drp, s_tak, s_app, s_len, s_leB, s_add, s_sub, s_mul, s_wr64, s_wr8, bytesE_fold, bytesE_length, bytesE_drop, bytesE_take, bytesE_app, intsE_fold, intsE_length, decide_eq_true_eq, decide_eq_false_iff_not, Nat.mul_one, Nat.zero_add, Nat.add_zero, Bool.not_eq_true', List.length_take, List.length_drop, List.length_append, List.length_cons, List.length_nil, List.drop_zero]; omega
      have z2 : A.le (A.add (A.idx 0 i 1) 1) (A.len lc) = true := by simp (disch := omega) only [hA, OK, s_le, s_inb, s_slb, s_room, s_mks, s_ne0, s_nn, s_eql, s_neq, s_lss, s_leq, s_gtr, s_geq, s_isz, s_bnot, s_beq, s_idx, s_addN, s_subN, s_mulN, s_tn, s_ofn, s_nmin, s_drp, s_tak, s_app, s_len, s_leB, s_add, s_sub, s_mul, s_wr64, s_wr8, bytesE_fold, bytesE_length, bytesE_drop, bytesE_take, bytesE_app, intsE_fold, intsE_length, decide_eq_true_eq, decide_eq_false_iff_not, Nat.mul_one, Nat.zero_add, Nat.add_zero, Bool.not_eq_true', List.length_take, List.length_drop, List.length_append, List.length_cons, List.length_nil, List.drop_zero , hlc]; omega
      have hs1 : A.setl lc (A.idx 0 i 1) [.lit (.int .i64 (-1))] = intsE (l.set i.toNat (-1)) := by
        rw [hA, hlc, s_idx, show 0 + i.toNat * 1 = i.toNat by omega]; exact setl_ints _ _ _ (by omega)
      obtain ⟨l1, hl1⟩ : ∃ l1, l1 = A.setl lc (A.idx 0 i 1) [.lit (.int .i64 (-1))] := ⟨_, rfl⟩
      rw [← hl1] at hs1
      refine ⟨z1, z2, fun h2 => ?_, fun h2 => ?_⟩ <;> simp (disch := omega) only [hA, OK, s_le, s_inb, s_slb, s_room, s_mks, s_ne0, s_nn, s_eql, s_neq, s_lss, s_leq, s_gtr, s_geq, s_isz, s_bnot, s_beq, s_idx, s_addN, s_subN, s_mulN, s_tn, s_ofn, s_nmin, s_drp, s_tak, s_app, s_len, s_leB, s_add, s_sub, s_mul, s_wr64, s_wr8, bytesE_fold, bytesE_length, bytesE_drop, bytesE_take, bytesE_app, intsE_fold, intsE_length, decide_eq_true_eq, decide_eq_false_iff_not, Nat.mul_one, Nat.zero_add, Nat.add_zero, Bool.not_eq_true', List.length_take, List.length_drop, List.length_append, List.length_cons, List.length_nil, List.drop_zero] at h2
      · -- too near the end
        with_reducible refine runK hA hd hQ 200 ?hk ?_
        case hk => exact trivial
        conv => arg 8; cbv
        try simp only [OK]
        have zz : (i + 1).toNat = i.toNat + 1 := by omega
        refine OKs.mask (msk 53 [0, 2, 3, 4, 16, 17]) (OKs.mv [0, 1, 2, 3] [] (by rw [hρ]; rfl) ⟨by simp, by simp [sizeH], by simp⟩ ?_)
        refine ih _ ⟨A.ib .add .i64 i 1, _, l.set i.toNat (-1), _, rfl, ?_, by simpa using hll, ?_, ?_, ?_, ?_, ?_⟩ (show (N - A.ib .add .i64 i 1).toNat < (N - i).toNat from ?_)
        · show mvL _ _ (A.setl lc (A.idx 0 i 1) [.lit (.int .i64 (-1))]) = _
          rw [← hl1, hs1, mvL_ints]
        · simp (disch := omega) only [hA, OK, s_le, s_inb, s_slb, s_room, s_mks, s_ne0, s_nn, s_eql, s_neq, s_lss, s_leq, s_gtr, s_geq, s_isz, s_bnot, s_beq, s_idx, s_addN, s_subN, s_mulN, s_tn, s_ofn, s_nmin, s_drp, s_tak, s_app, s_len, s_leB, s_add, s_sub, s_mul, s_wr64, s_wr8, bytesE_fold, bytesE_length, bytesE_drop, bytesE_take, bytesE_app, intsE_fold, intsE_length, decide_eq_true_eq, decide_eq_false_iff_not, Nat.mul_one, Nat.zero_add, Nat.add_zero, Bool.not_eq_true', List.length_take, List.length_drop, List.length_append, List.length_cons, List.length_nil, List.drop_zero]; omega
        · simp (disch := omega) only [hA, OK, s_le, s_inb, s_slb, s_room, s_mks, s_ne0, s_nn, s_eql, s_neq, s_lss, s_leq, s_gtr, s_geq, s_isz, s_bnot, s_beq, s_idx, s_addN, s_subN, s_mulN, s_tn, s_ofn, s_nmin, s_drp, s_tak, s_app, s_len, s_leB, s_add, s_sub, s_mul, s_wr64, s_wr8, bytesE_fold, bytesE_length, bytesE_drop, bytesE_take, bytesE_app, intsE_fold, intsE_length, decide_eq_true_eq, decide_eq_false_iff_not, Nat.mul_one, Nat.zero_add, Nat.add_zero, Bool.not_eq_true', List.length_take, List.length_drop, List.length_append, List.length_cons, List.length_nil, List.drop_zero]; omega
        · intro j hj
          have hj' : (j : Int) < i + 1 := by simpa (disch := omega) only [hA, s_add] using hj
          rw [getD_set _ _ _ _ (by omega)]
          split
          · rename_i hji; rw [hji, lastA, if_neg (by omega)]
          · exact hlj j (by omega)
        · rw [mvM_keys _ _ hk4]; exact hk4
        · intro w hw
          rw [mvM_keys _ _ hk4, hfnd w hw]
          simp (disch := omega) only [hA, s_add]
          rw [zz, lastW, if_neg (by omega)]
        · simp (disch := omega) only [hA, OK, s_le, s_inb, s_slb, s_room, s_mks, s_ne0, s_nn, s_eql, s_neq, s_lss, s_leq, s_gtr, s_geq, s_isz, s_bnot, s_beq, s_idx, s_addN, s_subN, s_mulN, s_tn, s_ofn, s_nmin, s_drp, s_tak, s_app, s_len, s_leB, s_add, s_sub, s_mul, s_wr64, s_wr8, bytesE_fold, bytesE_length, bytesE_drop, bytesE_take, bytesE_app, intsE_fold, intsE_length, decide_eq_true_eq, decide_eq_false_iff_not, Nat.mul_one, Nat.zero_add, Nat.add_zero, Bool.not_eq_true', List.length_take, List.length_drop, List.length_append, List.length_cons, List.length_nil, List.drop_zero]; omega
      · with_reducible refine runK hA hd hQ 200 ?hk ?_
        case hk => exact trivial
        conv => arg 8; cbv
        try simp only [OK]
        have zz : (i + 1).toNat = i.toNat + 1 := by omega
        obtain ⟨x0, x1, x2, x3, hx, hkk⟩ := look4 hc i.toNat (by omega)
        obtain ⟨w0, hw0⟩ : ∃ w0, w0 = (b.drop i.toNat).take 4 := ⟨_, rfl⟩
        rw [← hw0] at hkk
        have hw4 : w0.length = 4 := by rw [hw0, List.length_take, List.length_drop]; omega
        have hkey := keyed_ok hk4 w0 hw4
        have hnew : ∀ w : List Nat, w.length = 4 → stdA.find (stdA.mset es (kE w0) (.lit (.int .i64 i))) (kE w) = (lastW b w (i.toNat + 1)).map fun j => .lit (.int .i64 (j : Int)) := by
          intro w hw
          rw [find_mset hk4, lastW]
          by_cases h : w = w0
          · rw [if_pos h, if_pos ⟨by omega, by rw [h, hw0]⟩, Option.map_some, show ((i.toNat : Nat) : Int) = i by omega]
          · rw [if_neg h, if_neg (by rw [← hw0]; intro hh; exact h hh.2.symm), hfnd w hw]
        have hla : lastA b i.toNat = match lastW b w0 i.toNat with
            | some j => (j : Int)
            | none => -1 := by rw [lastA, if_pos (by omega), ← hw0]
        have hf0 := hfnd w0 hw4
        refine ⟨by simp (disch := omega) only [hA, OK, s_le, s_inb, s_slb, s_room, s_mks, s_ne0, s_nn, s_eql, s_neq, s_lss, s_leq, s_gtr, s_geq, s_isz, s_bnot, s_beq, s_idx, s_addN, s_subN, s_mulN, s_tn, s_ofn, s_nmin, s_drp, s_tak, s_app, s_len, s_leB, s_add, s_sub, s_mul, s_wr64, s_wr8, bytesE_fold, bytesE_length, bytesE_drop, bytesE_take, bytesE_app, intsE_fold, intsE_length, decide_eq_true_eq, decide_eq_false_iff_not, Nat.mul_one, Nat.zero_add, Nat.add_zero, Bool.not_eq_true', List.length_take, List.length_drop, List.length_append, List.length_cons, List.length_nil, List.drop_zero]; omega, by simp (disch := omega) only [hA, OK, s_le, s_inb, s_slb, s_room, s_mks, s_ne0, s_nn, s_eql, s_neq, s_lss, s_leq, s_gtr, s_geq, s_isz, s_bnot, s_beq, s_idx, s_addN, s_subN, s_mulN, s_tn, s_ofn, s_nmin, s_drp, s_tak, s_app, s_len, s_leB, s_add, s_sub, s_mul, s_wr64, s_wr8, bytesE_fold, bytesE_length, bytesE_drop, bytesE_take, bytesE_app, intsE_fold, intsE_length, decide_eq_true_eq, decide_eq_false_iff_not, Nat.mul_one, Nat.zero_add, Nat.add_zero, Bool.not_eq_true', List.length_take, List.length_drop, List.length_append, List.length_cons, List.length_nil, List.drop_zero]; omega, [.lit (.int .u8 x0), .lit (.int .u8 x1), .lit (.int .u8 x2), .lit (.int .u8 x3)], _, rfl, by simp (disch := omega) only [hA, OK, s_le, s_inb, s_slb, s_room, s_mks, s_ne0, s_nn, s_eql, s_neq, s_lss, s_leq, s_gtr, s_geq, s_isz, s_bnot, s_beq, s_idx, s_addN, s_subN, s_mulN, s_tn, s_ofn, s_nmin, s_drp, s_tak, s_app, s_len, s_leB, s_add, s_sub, s_mul, s_wr64, s_wr8, bytesE_fold, bytesE_length, bytesE_drop, bytesE_take, bytesE_app, intsE_fold, intsE_length, decide_eq_true_eq, decide_eq_false_iff_not, Nat.mul_one, Nat.zero_add, Nat.add_zero, Bool.not_eq_true', List.length_take, List.length_drop, List.length_append, List.length_cons, List.length_nil, List.drop_zero]; exact hx, rfl, ?_⟩
        with_reducible refine runK hA hd hQ 200 ?hk ?_
        case hk => exact trivial
        conv => arg 8; cbv
        try simp only [OK]
        refine ⟨by rw [hkk]; simpa only [hA] using hkey, fun h3 => ?_, fun x h3 => ?_⟩
        · -- met for the first time
          with_reducible refine runK hA hd hQ 200 ?hk ?_
          case hk => exact trivial
          conv => arg 8; cbv
          try simp only [OK]
          refine ⟨by rw [hkk]; simpa only [hA] using hkey, ?_⟩
          have hnone : lastW b w0 i.toNat = none := by
            rw [hkk] at h3
            have h3' : stdA.find es (kE w0) = none := by simpa only [hA] using h3
            rw [hf0] at h3'
            simpa using h3'
          refine OKs.mask (msk 53 [0, 2, 3, 4, 16, 17]) (OKs.mv [0, 1, 2, 3] [] (by rw [hρ]; rfl) ⟨by simp, by simp [sizeH], by simp⟩ ?_)
          have hes : A.mset es (.agg [.lit (.int .u8 x0), .lit (.int .u8 x1), .lit (.int .u8 x2), .lit (.int .u8 x3)]) (.lit (.int .i64 i)) = stdA.mset es (kE w0) (.lit (.int .i64 i)) := by rw [hA, hkk]
          have hmk := mset_keys hk4 w0 hw4 i
          refine ih _ ⟨A.ib .add .i64 i 1, _, l.set i.toNat (-1), _, rfl, ?_, by simpa using hll, ?_, ?_, ?_, ?_, ?_⟩ (show (N - A.ib .add .i64 i 1).toNat < (N - i).toNat from ?_)
          · show mvL _ _ (A.setl lc (A.idx 0 i 1) [.lit (.int .i64 (-1))]) = _
            rw [← hl1, hs1, mvL_ints]
          · simp (disch := omega) only [hA, OK, s_le, s_inb, s_slb, s_room, s_mks, s_ne0, s_nn, s_eql, s_neq, s_lss, s_leq, s_gtr, s_geq, s_isz, s_bnot, s_beq, s_idx, s_addN, s_subN, s_mulN, s_tn, s_ofn, s_nmin, s_drp, s_tak, s_app, s_len, s_leB, s_add, s_sub, s_mul, s_wr64, s_wr8, bytesE_fold, bytesE_length, bytesE_drop, bytesE_take, bytesE_app, intsE_fold, intsE_length, decide_eq_true_eq, decide_eq_false_iff_not, Nat.mul_one, Nat.zero_add, Nat.add_zero, Bool.not_eq_true', List.length_take, List.length_drop, List.length_append, List.length_cons, List.length_nil, List.drop_zero]; omega
          · simp (disch := omega) only [hA, OK, s_le, s_inb, s_slb, s_room, s_mks, s_ne0, s_nn, s_eql, s_neq, s_lss, s_leq, s_gtr, s_geq, s_isz, s_bnot, s_beq, s_idx, s_addN, s_subN, s_mulN, s_tn, s_ofn, s_nmin, s_drp, s_tak, s_app, s_len, s_leB, s_add, s_sub, s_mul, s_wr64, s_wr8, bytesE_fold, bytesE_length, bytesE_drop, bytesE_take, bytesE_app, intsE_fold, intsE_length, decide_eq_true_eq, decide_eq_false_iff_not, Nat.mul_one, Nat.zero_add, Nat.add_zero, Bool.not_eq_true', List.length_take, List.length_drop, List.length_append, List.length_cons, List.length_nil, List.drop_zero]; omega
          · intro j hj
            have hj' : (j : Int) < i + 1 := by simpa (disch := omega) only [hA, s_add] using hj
            rw [getD_set _ _ _ _ (by omega)]
            split
            · rename_i hji; rw [hji, hla, hnone]
            · exact hlj j (by omega)
          · show Keys4 (mvM _ _ (A.mset _ _ _))
            rw [hes, mvM_keys _ _ hmk]; exact hmk
          · intro w hw
            show stdA.find (mvM _ _ (A.mset _ _ _)) _ = _
            rw [hes, mvM_keys _ _ hmk, hnew w hw]
            simp (disch := omega) only [hA, s_add]
            rw [zz]
          · simp (disch := omega) only [hA, OK, s_le, s_inb, s_slb, s_room, s_mks, s_ne0, s_nn, s_eql, s_neq, s_lss, s_leq, s_gtr, s_geq, s_isz, s_bnot, s_beq, s_idx, s_addN, s_subN, s_mulN, s_tn, s_ofn, s_nmin, s_drp, s_tak, s_app, s_len, s_leB, s_add, s_sub, s_mul, s_wr64, s_wr8, bytesE_fold, bytesE_length, bytesE_drop, bytesE_take, bytesE_app, intsE_fold, intsE_length, decide_eq_true_eq, decide_eq_false_iff_not, Nat.mul_one, Nat.zero_add, Nat.add_zero, Bool.not_eq_true', List.length_take, List.length_drop, List.length_append, List.length_cons, List.length_nil, List.drop_zero]; omega
        · -- met again
          obtain ⟨j0, hj0, hxj⟩ : ∃ j, lastW b w0 i.toNat = some j ∧ .lit (.int .i64 (j : Int)) = x := by
            rw [hkk] at h3
            have h3' : stdA.find es (kE w0) = some x := by simpa only [hA] using h3
            rw [hf0] at h3'
            simpa using h3'
          obtain ⟨jz, hjz⟩ : ∃ jz : Int, jz = (j0 : Int) := ⟨_, rfl⟩
          rw [← hjz] at hxj
          subst hxj
          with_reducible refine runK hA hd hQ 200 ?hk ?_
          case hk => exact trivial
          conv => arg 8; cbv
          try simp only [OK]
          have hs2 : A.setl l1 (A.idx 0 i 1) [.lit (.int .i64 jz)] = intsE (l.set i.toNat jz) := by
            rw [hA, hs1, s_idx, show 0 + i.toNat * 1 = i.toNat by omega, setl_ints _ _ _ (by simp; omega), List.set_set]
          have z3 : A.le (A.add (A.idx 0 i 1) 1) (A.len l1) = true := by simp (disch := omega) only [hA, OK, s_le, s_inb, s_slb, s_room, s_mks, s_ne0, s_nn, s_eql, s_neq, s_lss, s_leq, s_gtr, s_geq, s_isz, s_bnot, s_beq, s_idx, s_addN, s_subN, s_mulN, s_tn, s_ofn, s_nmin, s_drp, s_tak, s_app, s_len, s_leB, s_add, s_sub, s_mul, s_wr64, s_wr8, bytesE_fold, bytesE_length, bytesE_drop, bytesE_take, bytesE_app, intsE_fold, intsE_length, decide_eq_true_eq, decide_eq_false_iff_not, Nat.mul_one, Nat.zero_add, Nat.add_zero, Bool.not_eq_true', List.length_take, List.length_drop, List.length_append, List.length_cons, List.length_nil, List.drop_zero , hs1]; simp; omega
          rw [hl1] at z3 hs2
          refine ⟨z1, z3, by rw [hkk]; simpa only [hA] using hkey, ?_⟩
          refine OKs.mask (msk 53 [0, 2, 3, 4, 16, 17]) (OKs.mv [0, 1, 2, 3] [] (by rw [hρ]; rfl) ⟨by simp, by simp [sizeH], by simp⟩ ?_)
          have hes : A.mset es (.agg [.lit (.int .u8 x0), .lit (.int .u8 x1), .lit (.int .u8 x2), .lit (.int .u8 x3)]) (.lit (.int .i64 i)) = stdA.mset es (kE w0) (.lit (.int .i64 i)) := by rw [hA, hkk]
          have hmk := mset_keys hk4 w0 hw4 i
          refine ih _ ⟨A.ib .add .i64 i 1, _, l.set i.toNat jz, _, rfl, ?_, by simpa using hll, ?_, ?_, ?_, ?_, ?_⟩ (show (N - A.ib .add .i64 i 1).toNat < (N - i).toNat from ?_)
          · show mvL _ _ (A.setl (A.setl lc (A.idx 0 i 1) [.lit (.int .i64 (-1))]) (A.idx 0 i 1) [.lit (.int .i64 jz)]) = _
            rw [hs2, mvL_ints]
          · simp (disch := omega) only [hA, OK, s_le, s_inb, s_slb, s_room, s_mks, s_ne0, s_nn, s_eql, s_neq, s_lss, s_leq, s_gtr, s_geq, s_isz, s_bnot, s_beq, s_idx, s_addN, s_subN, s_mulN, s_tn, s_ofn, s_nmin, s_drp, s_tak, s_app, s_len, s_leB, s_add, s_sub, s_mul, s_wr64, s_wr8, bytesE_fold, bytesE_length, bytesE_drop, bytesE_take, bytesE_app, intsE_fold, intsE_length, decide_eq_true_eq, decide_eq_false_iff_not, Nat.mul_one, Nat.zero_add, Nat.add_zero, Bool.not_eq_true', List.length_take, List.length_drop, List.length_append, List.length_cons, List.length_nil, List.drop_zero]; omega
          · simp (disch := omega) only [hA, OK, s_le, s_inb, s_slb, s_room, s_mks, s_ne0, s_nn, s_eql, s_neq, s_lss, s_leq, s_gtr, s_geq, s_isz, s_bnot, s_beq, s_idx, s_addN, s_subN, s_mulN, s_tn, s_ofn, s_nmin, s_drp, s_tak, s_app, s_len, s_leB, s_add, s_sub, s_mul, s_wr64, s_wr8, bytesE_fold, bytesE_length, bytesE_drop, bytesE_take, bytesE_app, intsE_fold, intsE_length, decide_eq_true_eq, decide_eq_false_iff_not, Nat.mul_one, Nat.zero_add, Nat.add_zero, Bool.not_eq_true', List.length_take, List.length_drop, List.length_append, List.length_cons, List.length_nil, List.drop_zero]; omega
          · intro j hj
            have hj' : (j : Int) < i + 1 := by simpa (disch := omega) only [hA, s_add] using hj
            rw [getD_set _ _ _ _ (by omega)]
            split
            · rename_i hji; rw [hji, hla, hj0]; exact hjz
            · exact hlj j (by omega)
          · show Keys4 (mvM _ _ (A.mset _ _ _))
            rw [hes, mvM_keys _ _ hmk]; exact hmk
          · intro w hw
            show stdA.find (mvM _ _ (A.mset _ _ _)) _ = _
            rw [hes, mvM_keys _ _ hmk, hnew w hw]
            simp (disch := omega) only [hA, s_add]
            rw [zz]
          · simp (disch := omega) only [hA, OK, s_le, s_inb, s_slb, s_room, s_mks, s_ne0, s_nn, s_eql, s_neq, s_lss, s_leq, s_gtr, s_geq, s_isz, s_bnot, s_beq, s_idx, s_addN, s_subN, s_mulN, s_tn, s_ofn, s_nmin, s_drp, s_tak, s_app, s_len, s_leB, s_add, s_sub, s_mul, s_wr64, s_wr8, bytesE_fold, bytesE_length, bytesE_drop, bytesE_take, bytesE_app, intsE_fold, intsE_length, decide_eq_true_eq, decide_eq_false_iff_not, Nat.mul_one, Nat.zero_add, Nat.add_zero, Bool.not_eq_true', List.length_take, List.length_drop, List.length_append, List.length_cons, List.length_nil, List.drop_zero]; omega
    · with_reducible refine runK hA hd hQ 200 ?hk ?_
      case hk => exact trivial
      conv => arg 8; cbv
      try simp only [OK]
      have hll2 : l = lastL b := by
        apply List.ext_getElem?
        intro j
        by_cases hj : j < b.length
        · have e1 := hlj j (by omega)
          have e2 := lastL_get b j hj
          rw [← e2] at e1
          have h1 : j < l.length := by omega
          have h2 : j < (lastL b).length := by simp [lastL]; exact hj
          rw [List.getD_eq_getElem?_getD, List.getD_eq_getElem?_getD, List.getElem?_eq_getElem h1, List.getElem?_eq_getElem h2] at e1
          rw [List.getElem?_eq_getElem h1, List.getElem?_eq_getElem h2]
          simpa using e1
        · rw [List.getElem?_eq_none (by omega), List.getElem?_eq_none (by simp [lastL]; omega)]
      refine ⟨_, rfl, ?_, ?_⟩
      · show EV.agg [.isl N none c, .sl 1 1 0 (A.tn (A.ofn N)) (some (A.tn (A.ofn N)))] = _
        rw [← hnz, hnN]
      · rw [← hll2, ← hlc]; rfl
  · rw [hA]
    show stdA.rep [EV.lit (.int .i64 0)] (stdA.tn (stdA.ofn N)) = _
    rw [s_rep, s_ofn, s_tn, Int.toNat_natCast]; exact rep_ints N

end Go.Proofs.Ytplibngmgebigaa.Press
