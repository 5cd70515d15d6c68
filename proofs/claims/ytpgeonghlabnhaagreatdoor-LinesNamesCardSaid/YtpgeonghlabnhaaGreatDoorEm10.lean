/- Em10: made slices and maps, copy, strings turned into bytes, the greater and the lesser, calls. No conditions beyond those written. -/
import Derived.Test.YtpgeonghlabnhaaGreatDoorEm9
set_option linter.unusedVariables false
set_option linter.unusedSimpArgs false
namespace Go.Proofs.YtpgeonghlabnhaaGreatDoor.Em
open Go
section
variable {I : Imm} {w : World} {ρ : Ren} {h : EH} {post : EV → EH → Prop} {pc : FuncId → List EV → Prop} {P : Program}
theorem freeze_alloc (w : World) (c : Array Value) (e : TypeId) (n : Nat) :
    (w.alloc (.cells c e)).freeze ⟨w.heap.size, n, none⟩ 1 = w.alloc (.cells c e (n, n + 1)) := by
  have h1 : ((w.heap.push (.cells c e)).modify w.heap.size fun
      | .cells c elem (lo, hi) => .cells c elem (if lo == hi then (n, n + 1) else (min lo n, max hi (n + 1)))
      | o => o) = w.heap.push (.cells c e (n, n + 1)) := by
    apply Array.ext
    · simp
    · intro i h1 h2
      simp only [Array.getElem_modify]
      simp only [Array.size_push] at h2
      by_cases hi : w.heap.size = i
      · subst hi; simp
      · rw [if_neg hi]
        rw [Array.getElem_push_lt (by omega), Array.getElem_push_lt (by omega)]
  unfold World.freeze
  rw [if_neg (by omega)]
  show ({ w with heap := _ } : World) = { w with heap := _ }
  congr 1
theorem newBlkF (hs : HSim I w ρ h) (hI : ∀ b, I b → b < w.heap.size) {c : List EV} {vs : Array Value} (e : TypeId) {fz : Nat × Nat} (hfz : fzOk vs.size fz)
    (hr : ∀ (j : Nat) (x : EV), c[j]? = some x → ∃ v, vs[j]? = some v ∧ v.oneCell' = true ∧ Rep w I ρ x v) (hl : c.length ≤ vs.size) :
    OS I (w.alloc (.cells vs e fz)) (ρ ++ [(w.heap.size, 0)]) (sizeH h) (.blk c) := by
  refine ⟨w.heap.size, 0, vs, e, fz, ren_last hs _, fun hb => absurd (hI _ hb) (Nat.lt_irrefl _), heap_alloc_at w _, hfz, by simpa using hl, fun j x hx => ?_⟩
  obtain ⟨v, hv, ho, hrp⟩ := hr j x hx
  exact ⟨v, by simpa using hv, ho, (hrp.keep (.alloc w _ hI)).ext _⟩
theorem s2b_sound {s d e : TypeId} {x : EV} {u : Value} (hs1 : P.underlying s = some .string) (hd : P.underlying d = some (.slice e)) (he : P.underlying e = some (.int .u8))
    (hs : HSim I w ρ h) (hI : ∀ b, I b → b < w.heap.size) (hr : Rep w I ρ x u) (ok : SROK post pc (s2bE stdA x h)) :
    Res I w ρ post pc (((convert s d u).run P w).andThen fun a w' => .ok (.value a) w') := by
  unfold s2bE at ok
  split at ok
  · rename_i str
    cases hr
    obtain ⟨hroom, hp⟩ := ok
    obtain ⟨cap, hcap⟩ : ∃ cap, cap = grownCap w str.size 0 e := ⟨_, rfl⟩
    have hge : str.size ≤ cap := by rw [hcap]; exact grownCap_ge _ _ _ _
    obtain ⟨arr, harr⟩ : ∃ arr : Array Value, arr = str.data.map (fun b => Value.int .u8 b.toNat) ++ Array.replicate (cap - str.size) (.int .u8 0) := ⟨_, rfl⟩
    have hasz : arr.size = cap := by rw [harr]; simp; show str.size + (cap - str.size) = cap; omega
    have hrun : (convert s d (.string str)).run P w = .ok (.slice (some ⟨w.heap.size, 0, none⟩) str.size cap) (w.drew.alloc (.cells arr e (cap, cap + 1))) := by
      have hst : (Conv.stringToBytes e str).run P w = .ok (.slice (some ⟨w.heap.size, 0, none⟩) str.size cap) (w.drew.alloc (.cells arr e (cap, cap + 1))) := by
        have hsh : ∀ c : Array Value, (w.drew.alloc (.cells c e)).shape? w.heap.size = some (e, c.size) := by
          intro c
          simp only [World.shape?]
          rw [show (w.drew.alloc (.cells c e)).heap[w.heap.size]? = some (.cells c e) from heap_alloc_at w.drew _]
        have hfr := freeze_alloc w.drew arr e arr.size
        rw [hasz] at hfr
        have hfr' : (w.drew.alloc (.cells arr e)).freeze ⟨w.heap.size, cap, none⟩ 1 = w.drew.alloc (.cells arr e (cap, cap + 1)) := hfr
        have e1 : (Question.appendCap str.size 0 e).cut (w.tape w.drawn (.appendCap str.size 0 e)) = cap := hcap.symm
        have hsh' := hsh arr
        simp only [Conv.stringToBytes, Sem.run_bind, run_choose, Question.forced, Bool.false_eq_true, if_false, Result.andThen_ok, newRow, run_newObj, Sem.run_pure, markStringish, run_shape, e1,
          World.drew_eq, World.alloc_eq, ← harr, World.size_drew, hsh', hasz, run_freeze, hfr']
      rw [← hst]
      simp [convert, underlying, hs1, hd, he]
    have hkd := Keep.drew I w
    refine .inl ⟨_, _, _, _, [(w.heap.size, 0)], .inl (by rw [hrun]; rfl), hp, hkd.trans (.alloc w.drew _ hI), hs.drew.alloc hI _ _ ?_, ?_⟩
    · refine newBlkF hs.drew hI e (.inr (by rw [hasz]; exact Nat.le_refl _)) (fun j q hq => ?_) (by simp [stdA, hasz]; omega)
      simp only [stdA, List.getElem?_map] at hq
      cases hb : str.data.toList[j]? with
      | none => simp [hb] at hq
      | some b =>
        simp [hb] at hq; subst hq
        have hj : j < str.data.size := by have := (List.getElem?_eq_some_iff.1 hb).1; simpa using this
        refine ⟨.int .u8 b.toNat, ?_, rfl, .lit _ _⟩
        rw [harr, Array.getElem?_append_left (by simpa using hj)]
        simp at hb
        simp [hb]
    · refine .sl _ _ _ _ _ _ _ cap w.heap.size 0 (ren_last hs _) ⟨hge, fun q hq => by cases hq⟩ rfl fun _ => ⟨rfl, _, e, (cap, cap + 1), heap_alloc_at w.drew _, ?_⟩
      rw [hasz]; omega
  · exact ok.elim
theorem strish_sound {s e e' : TypeId} {x : EV} {u : Value} (hs1 : P.underlying s = some (.slice e)) (he : P.underlying e = some (.int .u8))
    (hs : HSim I w ρ h) (hr : Rep w I ρ x u) (ok : SROK post pc (strishE stdA x h)) :
    Res I w ρ post pc (((convert s s u).run P w).andThen fun a w' => .ok (.value a) w') := by
  unfold strishE at ok
  split at ok
  · rename_i es id off n cap
    split at ok
    · rename_i c hg
      obtain ⟨hn, hp⟩ := ok
      have hn' : n ≠ 0 := by simpa [stdA] using hn
      have hr0 := hr
      cases hr with
      | sl _ _ _ _ _ _ ad k b o hb hcap hsp hf =>
        have hk0 : k ≠ 0 := by have := hcap.1; omega
        obtain ⟨had, hfit⟩ := hf hk0
        have hlive := hs.live id
        rw [hg] at hlive
        obtain ⟨b2, o2, cs, ety, fz, k1, k2, k3, k4, klen, k5⟩ := hlive
        rw [hb] at k1; cases k1
        have hshape : w.shape? ad.block = some (ety, cs.size) := by rw [had]; simp [World.shape?, k3]
        obtain ⟨w', hw'⟩ : ∃ w', w' = w.freeze ⟨b, cs.size, none⟩ 1 := ⟨_, rfl⟩
        have hrun : (convert s s (.slice (some ad) n k)).run P w = .ok (.slice (some ad) n k) w' := by
          simp [convert, underlying, hs1, he, markStringish, hshape, hw']
          rw [had]
        -- the frozen block
        obtain ⟨fz', hfz', hfzok⟩ : ∃ fz', w'.heap[b]? = some (.cells cs ety fz') ∧ fzOk cs.size fz' := by
          rw [hw']
          unfold World.freeze
          rw [if_neg (by omega)]
          simp only [Array.getElem?_modify, if_true, k3, Option.map_some]
          refine ⟨_, rfl, ?_⟩
          obtain ⟨lo, hi⟩ := fz
          dsimp only
          split
          · exact .inr (Nat.le_refl _)
          · rename_i hne
            rcases k4 with h4 | h4
            · simp at h4; simp [h4] at hne
            · refine .inr ?_; simp at h4 ⊢; omega
        have hother : ∀ b', b' ≠ b → w'.heap[b']? = w.heap[b']? := by
          intro b' hb'
          rw [hw']; unfold World.freeze; rw [if_neg (by omega)]
          simp only [Array.getElem?_modify]
          rw [if_neg (fun e => hb' e.symm)]
        have hkeep : Keep I w w' := by
          refine ⟨?_, ?_, ?_, ?_, fun b' hb' => hother b' (fun e => k2 (e ▸ hb')), fun b' cs' e2 fz2 hb' => ?_⟩
          · rw [hw']; unfold World.freeze; rw [if_neg (by omega)]
          · rw [hw']; unfold World.freeze; rw [if_neg (by omega)]
          · rw [hw']; unfold World.freeze; rw [if_neg (by omega)]
          · rw [hw']; unfold World.freeze; rw [if_neg (by omega)]; simp
          · by_cases hbb : b' = b
            · subst hbb
              rw [k3] at hb'; cases hb'
              exact ⟨cs, fz', hfz', rfl⟩
            · exact ⟨cs', fz2, by rw [hother b' hbb]; exact hb', rfl⟩
        have hsim := hs.write (w' := w') hkeep (by rw [hg]; simp) hb hother (.blk c) ⟨b, o, cs, ety, fz', hb, k2, hfz', hfzok, klen, fun j q hq => by
          obtain ⟨vv, v1, v2, v3⟩ := k5 j q hq
          exact ⟨vv, v1, v2, v3.keep hkeep⟩⟩
        have hsame : setH h id (.blk c) = h := by
          have : ∀ (h : EH) (id : Nat), getH h id = .blk c → setH h id (.blk c) = h := by
            intro h
            induction h with
            | nil => intro id hh; rfl
            | cons x l ih =>
              intro id hh
              cases id with
              | zero => simp [getH] at hh; simp [setH, hh]
              | succ id => simp [setH, ih id (by simpa [getH] using hh)]
          exact this h id hg
        rw [hsame] at hsim
        exact .inl ⟨_, _, _, _, [], .inl (by rw [hrun]; rfl), hp, hkeep, by rw [List.append_nil]; exact hsim, by rw [List.append_nil]; exact hr0.keep hkeep⟩
    · exact ok.elim
  · exact ok.elim
theorem flat_rep (z : List EV) (m : Nat) : (List.replicate m z).flatten.length = m * z.length := by
  induction m with
  | zero => simp
  | succ m ih => simp [List.replicate_succ, ih, Nat.add_mul, Nat.add_comm]
theorem flat_rep_get (z : List EV) : ∀ (m j : Nat), j < m * z.length → (List.replicate m z).flatten[j]? = z[j % z.length]?
  | 0, j, hj => by simp at hj
  | m + 1, j, hj => by
    rw [List.replicate_succ, List.flatten_cons]
    rcases Nat.lt_or_ge j z.length with h1 | h1
    · rw [List.getElem?_append_left h1, Nat.mod_eq_of_lt h1]
    · rw [List.getElem?_append_right h1, flat_rep_get z m (j - z.length) (by rw [Nat.add_mul] at hj; omega)]
      congr 1
      rw [Nat.mod_eq_sub_mod h1]
theorem mkSlice_sound {t e : TypeId} {es by_ : Nat} {z : Value} {x y : EV} {u v : Value} (hu : P.underlying t = some (.slice e)) (hsz : szP P e = some es) (hby : byP P e = some by_) (hz : zeP P e = some z)
    (hzs : z.cells.size = es) (hn : es ≠ 0) (hs : HSim I w ρ h) (hI : ∀ b, I b → b < w.heap.size) (hx : Rep w I ρ x u) (hy : Rep w I ρ y v)
    (hone : ∀ c ∈ z.cells.toList, c.oneCell' = true) (ok : SROK post pc (mkSliceE stdA es by_ (litL z.cells.toList) x y h)) :
    Res I w ρ post pc (((Instr.makeSlice t u v).run P w).andThen fun a w' => .ok (.value a) w') := by
  unfold mkSliceE at ok
  split at ok
  · rename_i k1 n k2 m
    cases hx; cases hy
    obtain ⟨hm, hp⟩ := ok
    have hm' : 0 ≤ n ∧ n ≤ m ∧ m * by_ ≤ 281474976710656 ∧ m ≤ 9223372036854775807 := by simpa [stdA] using hm
    obtain ⟨hn0, hnm, hb, h63⟩ := hm'
    have wn : IntKind.i64.wrap n = n := by
      simp [IntKind.wrap, IntKind.bits, IntKind.signed]; omega
    have wm : IntKind.i64.wrap m = m := by
      simp [IntKind.wrap, IntKind.bits, IntKind.signed]; omega
    obtain ⟨i, hi, hib⟩ : ∃ i, P.info? e = some i ∧ i.bytes = by_ := by
      unfold byP at hby
      cases hi : P.info? e with
      | none => simp [hi] at hby
      | some i => simp [hi] at hby; exact ⟨i, rfl, hby⟩
    obtain ⟨arr, harr⟩ : ∃ arr : Array Value, arr = (Array.range (m.toNat * es)).map (z.cells[· % z.cells.size]!) := ⟨_, rfl⟩
    have hasz : arr.size = m.toNat * es := by rw [harr]; simp
    have hbm : ¬ (by_ * m > 2 ^ 48) := by rw [Int.mul_comm]; omega
    have hrun : (Instr.makeSlice t (.int k1 n) (.int k2 m)).run P w = .ok (.slice (some ⟨w.heap.size, 0, none⟩) n.toNat m.toNat) (w.alloc (.cells arr e)) := by
      have hmul : (by_ : Int) * m = m * by_ := Int.mul_comm _ _
      have hc1 : ¬ (m < 0) := by omega
      have hc2 : ¬ ((281474976710656 : Int) < by_ * m) := by rw [hmul]; omega
      have hc3 : ¬ (n < 0) := by omega
      have hc4 : ¬ (m < n) := by omega
      by_cases h0 : m.toNat * es = 0
      · have hrg : Array.range 0 = #[] := rfl
        have ha : arr = #[] := by rw [harr, h0]; simp
        simp [Instr.makeSlice, run_underlying hu, asInt, asIntOf, typeInfo, hi, hib, wn, wm, run_szP hsz, newRow, hc1, hc2, hc3, hc4, h0, hrg, ha]
      · simp [Instr.makeSlice, run_underlying hu, asInt, asIntOf, typeInfo, hi, hib, wn, wm, hc1, hc2, hc3, hc4, run_szP hsz, h0, run_zeP hz, newRow, ← harr]
    refine Res.made hs hI (v := .sl es (sizeH h) 0 n.toNat (some m.toNat)) (by rw [hrun]; rfl) hp ?_ ?_
    · have hzl : (litL z.cells.toList).length = es := by rw [litL_length]; simpa using hzs
      refine newBlk (n := 0) hs hI e (fun j q hq => ?_) (by show (List.replicate m.toNat (litL z.cells.toList)).flatten.length ≤ _; rw [flat_rep, hzl, hasz]; exact Nat.le_refl _)
      have hj : j < m.toNat * es := by
        have := (List.getElem?_eq_some_iff.1 hq).1
        have e1 : (stdA.rep (litL z.cells.toList) (stdA.tn m)).length = m.toNat * es := by
          show (List.replicate m.toNat (litL z.cells.toList)).flatten.length = _
          rw [flat_rep, hzl]
        omega
      have hq2 : (litL z.cells.toList)[j % es]? = some q := by
        have := flat_rep_get (litL z.cells.toList) m.toNat j (by rw [hzl]; exact hj)
        rw [hzl] at this
        rw [← this]; exact hq
      have hmod : j % es < z.cells.size := by rw [hzs]; exact Nat.mod_lt _ (by omega)
      have hcell : z.cells.toList[j % es]? = some z.cells[j % es] := by simp [hmod]
      have hrp := (litL_rep (w := w) (I := I) (ρ := ρ) z.cells.toList).at _ q _ hq2 hcell
      refine ⟨z.cells[j % es], ?_, hone _ (by simp), hrp⟩
      rw [harr]
      simp [hj, hzs]
      exact getElem!_pos z.cells (j % es) hmod
    · refine .sl _ _ _ _ _ _ _ m.toNat w.heap.size 0 (ren_last hs _) ⟨by omega, fun q hq => by cases hq; rfl⟩ rfl fun _ => ⟨rfl, arr, e, (0, 0), heap_alloc_at w _, ?_⟩
      rw [hasz]; simp
  · exact ok.elim
theorem copy_sound {tys : Array TypeId} {ty t e : TypeId} {es : Nat} {x y : EV} {u v : Value} (ht : tys[0]? = some t) (hu : P.underlying t = some (.slice e)) (hsz : szP P e = some es)
    (hs : HSim I w ρ h) (hx : Rep w I ρ x u) (hy : Rep w I ρ y v) (ok : SROK post pc (copyE stdA es x y h)) :
    Res I w ρ post pc (((Builtin.copy_ tys ty #[u, v]).run P w).andThen fun a w' => .ok (.value a) w') := by
  unfold copyE at ok
  split at ok
  case h_2 => exact ok.elim
  rename_i n ys hsrc
  split at ok
  · rename_i es' id off len cap
    split at ok
    case isFalse => exact ok.elim
    rename_i hes
    subst hes
    split at ok
    · rename_i c hg
      obtain ⟨hlc, hle, hp⟩ := ok
      have hlc' : off + len * es' ≤ c.length := by simpa [stdA] using hlc
      have hle' : n * es' ≤ ys.length := by simpa [stdA] using hle
      have hmin : Nat.min n len ≤ n := Nat.min_le_left _ _
      have hmin2 : Nat.min n len ≤ len := Nat.min_le_right _ _
      obtain ⟨hysl, hlen, us, hru, hul, hone, hfc⟩ := src_first (P := P) hs hy hsrc hle' hmin
      cases hx with
      | sl _ _ _ _ _ _ ad k b o hb hcap hsp hf =>
        have hlive := hs.live id
        rw [hg] at hlive
        obtain ⟨b2, o2, cs, ety, fz, k1, k2, k3, k4, klen, k5⟩ := hlive
        rw [hb] at k1; cases k1
        have hmul : Nat.min n len * es' ≤ len * es' := Nat.mul_le_mul_right _ hmin2
        have htl : (ys.take (Nat.min n len * es')).length = Nat.min n len * es' := by rw [hru.length]; exact hul
        have hsl := setl_spec c off (ys.take (Nat.min n len * es')) (by rw [htl]; omega)
        rw [htl] at hsl
        obtain ⟨w', hw'⟩ : ∃ w', w' = w.setRow b (cs.toList.take (o + off) ++ us ++ cs.toList.drop (o + off + us.length)).toArray := ⟨_, rfl⟩
        obtain ⟨hk, hsim⟩ := write_blk (off := off) (c' := stdA.setl c off (ys.take (Nat.min n len * es'))) hs hg hb k3 (vs := us) (by rw [hul]; omega)
          (by show o + (c.take off ++ ys.take (Nat.min n len * es') ++ c.drop (off + (ys.take (Nat.min n len * es')).length)).length ≤ _
              rw [List.length_append, List.length_append, htl, List.length_take, List.length_drop]; omega) hone w' hw'
          (fun j q hq hj => by rw [← hsl.1 j (by rw [hul] at hj; exact hj)]; exact hq)
          (fun j q vv hq hvv => by
            have hj : j < Nat.min n len * es' := by rw [← hul]; exact (List.getElem?_eq_some_iff.1 hvv).1
            rw [hsl.2 j hj] at hq
            exact hru.at j q vv hq hvv)
        have hst : (storeCells ad us).run P w = .ok () w' := by
          by_cases hk0 : k = 0
          · have hm0 : Nat.min n len = 0 := by have := hcap.1; omega
            have hus : us = [] := List.length_eq_zero_iff.1 (by rw [hul, hm0]; simp)
            subst hus
            rw [hw']
            simp only [List.append_nil, List.length_nil, Nat.add_zero, List.take_append_drop, Array.toArray_toList, setRow_self w b cs ety fz k3]
            rfl
          · rw [(hf hk0).1, hw']
            have := storeCells_run (P := P) b (o + off) ety fz us 0 cs w k3 k4 (by rw [hul]; omega) hone
            simpa using this
        have hfc' := hfc w rfl
        have hrun : (Builtin.copy_ tys ty #[.slice (some ad) len k, v]).run P w = .ok (.int .i64 (Nat.min n len)) w' := by
          simp [Builtin.copy_, ht, run_underlying hu, hlen, run_szP hsz, hfc', hst, goInt]
        refine .inl ⟨_, _, _, _, [], .inl (by rw [hrun]; rfl), hp, hk, by rw [List.append_nil]; exact hsim, .lit _ _⟩
    · exact ok.elim
  · cases hx
    have hle' : True := trivial
    have hlen : ∃ m, Builtin.lenOf v = Pure.pure m := by
      unfold srcE at hsrc
      split at hsrc
      · cases hy <;> exact ⟨_, rfl⟩
      · cases hy <;> exact ⟨_, rfl⟩
      · cases hy <;> exact ⟨_, rfl⟩
      · cases hy <;> exact ⟨_, rfl⟩
      · cases hy <;> exact ⟨_, rfl⟩
      · cases hsrc
    obtain ⟨m, hm⟩ := hlen
    have hfc : (Builtin.firstCells es 0 v).run P w = .ok #[] w := by
      unfold srcE at hsrc
      split at hsrc
      · cases hy; rfl
      · cases hy <;> first | rfl | simp [Builtin.firstCells, loadCells, loadCellsFrom]
      · cases hy; simp [Builtin.firstCells, loadCells, loadCellsFrom]
      · cases hy; rfl
      · cases hy; simp [Builtin.firstCells]
      · cases hsrc
    have hrun : (Builtin.copy_ tys ty #[.slice none 0 0, v]).run P w = .ok (.int .i64 0) w := by
      have e0 : Nat.min m 0 = 0 := Nat.min_zero _
      simp [Builtin.copy_, ht, run_underlying hu, hm, run_szP hsz, e0, hfc, goInt]
    exact Res.pure hs (v := .lit (.int .i64 0)) (by rw [hrun]; rfl) ok (.lit _ _)
  · exact ok.elim
theorem clr_sound {tys : Array TypeId} {ty t e : TypeId} {es : Nat} {z : Value} {x : EV} {u : Value} (ht : tys[0]? = some t) (hu : P.underlying t = some (.slice e)) (hz : zeP P e = some z)
    (hzs : z.cells.size = es) (honez : ∀ c ∈ z.cells.toList, c.oneCell' = true)
    (hs : HSim I w ρ h) (hx : Rep w I ρ x u) (ok : SROK post pc (clrE stdA es (litL z.cells.toList) x h)) :
    Res I w ρ post pc (((Builtin.clear_ tys ty #[u]).run P w).andThen fun a w' => .ok (.value a) w') := by
  unfold clrE at ok
  split at ok
  · rename_i es' id off len cap
    split at ok
    case isFalse => exact ok.elim
    rename_i hes
    subst hes
    split at ok
    · rename_i c hg
      obtain ⟨hlc, hp⟩ := ok
      have hlc' : off + len * es' ≤ c.length := by simpa [stdA] using hlc
      cases hx with
      | sl _ _ _ _ _ _ ad k b o hb hcap hsp hf =>
        have hlive := hs.live id
        rw [hg] at hlive
        obtain ⟨b2, o2, cs, ety, fz, k1, k2, k3, k4, klen, k5⟩ := hlive
        rw [hb] at k1; cases k1
        obtain ⟨us, hus⟩ : ∃ us : List Value, us = (Builtin.zeroCells z.cells len).toList := ⟨_, rfl⟩
        have hul : us.length = len * es' := by rw [hus]; simp [Builtin.zeroCells, hzs]
        have hzl : (litL z.cells.toList).length = es' := by rw [litL_length]; simpa using hzs
        obtain ⟨ys, hys⟩ : ∃ ys : List EV, ys = stdA.rep (litL z.cells.toList) len := ⟨_, rfl⟩
        have htl : ys.length = len * es' := by rw [hys]; show (List.replicate len (litL z.cells.toList)).flatten.length = _; rw [flat_rep, hzl]
        have hget : ∀ j, j < len * es' → ∃ (q : EV) (v : Value), ys[j]? = some q ∧ us[j]? = some v ∧ v.oneCell' = true ∧ Rep w I ρ q v := by
          intro j hj
          have hes0 : 0 < es' := by rcases Nat.eq_zero_or_pos es' with h0 | h0; · rw [h0] at hj; simp at hj
                                    · exact h0
          have hmod : j % es' < z.cells.size := by rw [hzs]; exact Nat.mod_lt _ hes0
          have hcell : z.cells.toList[j % es']? = some z.cells[j % es'] := by simp [hmod]
          have hq : (litL z.cells.toList)[j % es']? = some (litL z.cells.toList)[j % es'] := List.getElem?_eq_getElem (by rw [hzl]; exact Nat.mod_lt _ hes0)
          refine ⟨_, z.cells[j % es'], ?_, ?_, honez _ (by simp), (litL_rep (w := w) (I := I) (ρ := ρ) z.cells.toList).at _ _ _ hq hcell⟩
          · have := flat_rep_get (litL z.cells.toList) len j (by rw [hzl]; exact hj)
            rw [hzl] at this
            rw [hys]
            exact this.trans hq
          · rw [hus]
            simp [Builtin.zeroCells, hzs, hj]
            exact getElem!_pos z.cells (j % es') hmod
        have hone : ∀ v ∈ us, v.oneCell' = true := by
          intro v hv
          obtain ⟨j, hj, hv⟩ := List.getElem_of_mem hv
          obtain ⟨q, v', _, h2, h3, _⟩ := hget j (by omega)
          rw [List.getElem?_eq_getElem hj] at h2
          cases h2
          rwa [← hv]
        have hsl := setl_spec c off ys (by rw [htl]; omega)
        rw [htl] at hsl
        rw [← hys] at hp
        obtain ⟨w', hw'⟩ : ∃ w', w' = w.setRow b (cs.toList.take (o + off) ++ us ++ cs.toList.drop (o + off + us.length)).toArray := ⟨_, rfl⟩
        obtain ⟨hk, hsim⟩ := write_blk (off := off) (c' := stdA.setl c off ys) hs hg hb k3 (vs := us) (by rw [hul]; omega)
          (by show o + (c.take off ++ ys ++ c.drop (off + ys.length)).length ≤ _
              rw [List.length_append, List.length_append, htl, List.length_take, List.length_drop]; omega) hone w' hw'
          (fun j q hq hj => by rw [← hsl.1 j (by rw [hul] at hj; exact hj)]; exact hq)
          (fun j q vv hq hvv => by
            have hj : j < len * es' := by rw [← hul]; exact (List.getElem?_eq_some_iff.1 hvv).1
            rw [hsl.2 j hj] at hq
            obtain ⟨q', v', h1, h2, _, h4⟩ := hget j hj
            rw [h1] at hq; rw [h2] at hvv
            cases hq; cases hvv
            exact h4)
        have hrun : (Builtin.clear_ tys ty #[.slice (some ad) len k]).run P w = .ok (.tuple #[]) w' := by
          by_cases hl0 : len = 0
          · subst hl0
            have hus0 : us = [] := List.length_eq_zero_iff.1 (by rw [hul]; simp)
            subst hus0
            rw [hw']
            simp only [List.append_nil, List.length_nil, Nat.add_zero, List.take_append_drop, Array.toArray_toList, setRow_self w b cs ety fz k3]
            simp [Builtin.clear_, ht, run_underlying hu]
          · have hk0 : k ≠ 0 := by have := hcap.1; omega
            rw [(hf hk0).1, hw']
            have hst := storeCells_run (P := P) b (o + off) ety fz us 0 cs w k3 k4 (by rw [hul]; omega) hone
            simp only [Nat.add_zero] at hst
            obtain ⟨m, rfl⟩ : ∃ m, len = m + 1 := ⟨len - 1, by omega⟩
            simp [Builtin.clear_, ht, run_underlying hu, run_zeP hz, ← hus, hst]
        refine .inl ⟨_, _, _, _, [], .inl (by rw [hrun]; rfl), hp, hk, by rw [List.append_nil]; exact hsim, .lit _ _⟩
    · exact ok.elim
  · cases hx
    have hrun : (Builtin.clear_ tys ty #[.slice none 0 0]).run P w = .ok (.tuple #[]) w := by
      simp [Builtin.clear_, ht, run_underlying hu]
    exact Res.pure hs (v := undefE) (by rw [hrun]; rfl) ok (.lit _ _)
  · exact ok.elim
theorem foldMM_sound (mx : Bool) (k : IntKind) : ∀ (l : List EV) (us : List Value) (a m : Int), RepL w I ρ l us → foldMM stdA mx k a l = some m →
    (us.foldlM (if mx then Builtin.max2 else Builtin.min2) (.int k a)).run P w = .ok (.int k m) w
  | [], [], a, m, _, hf => by simp [foldMM] at hf; subst hf; rfl
  | x :: l, u :: us, a, m, hr, hf => by
    cases x with
    | lit v =>
      cases v with
      | int k' b =>
        simp only [foldMM] at hf
        split at hf
        · rename_i hk
          subst hk
          have h1 := hr.1
          cases h1
          have ih := foldMM_sound mx k l us _ m hr.2 hf
          cases mx with
          | true => simp [List.foldlM_cons, Builtin.max2] at ih ⊢; simpa [stdA] using ih
          | false => simp [List.foldlM_cons, Builtin.min2] at ih ⊢; simpa [stdA] using ih
        · cases hf
      | _ => simp [foldMM] at hf
    | _ => simp [foldMM] at hf
theorem minmax_sound {mx : Bool} {x : EV} {u : Value} {l : List EV} {us : List Value} {tys : Array TypeId} {ty : TypeId} (hx : Rep w I ρ x u) (hl : RepL w I ρ l us)
    (ok : SROK post pc (minmaxE stdA mx x l h)) : Looks I w ρ h post P (if mx then Builtin.max_ tys ty (u :: us).toArray else Builtin.min_ tys ty (u :: us).toArray) := by
  unfold minmaxE at ok
  split at ok
  · rename_i k n
    cases hx
    split at ok
    · rename_i m hm
      have := foldMM_sound (P := P) mx k l us n m hl hm
      cases mx with
      | true => exact ⟨_, .int k m, by simpa [Builtin.max_] using this, ok, .lit _ _⟩
      | false => exact ⟨_, .int k m, by simpa [Builtin.min_] using this, ok, .lit _ _⟩
    · exact ok.elim
  · exact ok.elim
theorem mkMap_sound {t : TypeId} (hs : HSim I w ρ h) (hI : ∀ b, I b → b < w.heap.size) (hp : post (.mp (sizeH h)) (pushH h (.emap []))) :
    Res I w ρ post pc (((Instr.makeMap t none).run P w).andThen fun a w' => .ok (.value a) w') := by
  refine Res.made hs hI (v := .mp (sizeH h)) (v' := .map (some w.heap.size)) (o := .map #[] 0) (by simp [Instr.makeMap]) hp ?_ ?_
  · exact ⟨w.heap.size, 0, #[], 0, ren_last hs _, fun hb => absurd (hI _ hb) (Nat.lt_irrefl _), heap_alloc_at w _, rfl, fun j x hx => by simp at hx⟩
  · exact .mp _ _ w.heap.size 0 (ren_last hs _)
theorem mkFunc_sound {f : Fn} {x y : List EV} {us vs : Array Value} (hx : RepL w I ρ x us.toList) (hy : RepL w I ρ y vs.toList) (hp : post (.fn f x y) h) :
    Looks I w ρ h post P (Instr.makeFunc f us vs) :=
  ⟨_, .func f us vs, rfl, hp, .fn _ f x y us vs (by simpa using hx.length) (by simpa using hy.length) (fun j e v he hv => hx.at j e v he (by simpa using hv)) (fun j e v he hv => hy.at j e v he (by simpa using hv))⟩
end
end Go.Proofs.YtpgeonghlabnhaaGreatDoor.Em
