/- Em50: rows of bytes, builders of strings, ranges over strings, assertions of types: their operations are sound. No conditions beyond those written. -/
import Derived.Test.YtpgeonghlabnhaaGreatDoorEm11
set_option linter.unusedVariables false
namespace Go.Proofs.YtpgeonghlabnhaaGreatDoor.Em
open Go
section
variable {I : Imm} {w : World} {ρ : Ren} {h : EH} {post : EV → EH → Prop} {pc : FuncId → List EV → Prop} {P : Program}
theorem lit_vals : ∀ (l : List UInt8) (us : List Value), RepL w I ρ (l.map fun b => EV.lit (.int .u8 b.toNat)) us → us = l.map fun b => Value.int .u8 b.toNat
  | [], [], _ => rfl
  | [], _ :: _, h => h.elim
  | _ :: _, [], h => h.elim
  | b :: l, u :: us, h => by
    have h1 := h.1
    cases h1
    rw [List.map_cons, lit_vals l us h.2]
theorem enc_dec : ∀ (c : List EV), c.all byteE = true → stdA.enc (stdA.dec c) = c := by
  intro c hc
  simp only [stdA, List.map_map]
  conv => rhs; rw [← List.map_id c]
  apply List.map_congr_left
  intro x hx
  have hb := List.all_eq_true.1 hc x hx
  cases x with
  | lit v =>
    cases v with
    | int k n =>
      cases k <;> simp [byteE] at hb
      simp [numE]
      omega
    | _ => simp [byteE] at hb
  | _ => simp [byteE] at hb
theorem dec_size (c : List EV) : (stdA.dec c).size = c.length := by
  show (List.map _ c).toArray.size = _
  simp
theorem srcR_srcE {y : EV} {n : Nat} {t : ByteArray} (hsrc : srcR stdA h y = some (true, n, t)) : srcE stdA 1 h y = some (n, stdA.enc t) ∧ t.size = n := by
  unfold srcR at hsrc
  split at hsrc
  · cases hsrc; exact ⟨by simp [srcE, stdA], rfl⟩
  · cases hsrc; exact ⟨by simp [srcE, stdA], rfl⟩
  · rename_i n' cap c
    injection hsrc with e; injection e with e1 e2; injection e2 with e2 e3
    subst e2; subst e3
    have hb : n' ≤ c.length ∧ (c.take n').all byteE = true := by simpa [stdA] using e1
    refine ⟨?_, ?_⟩
    · rw [show stdA.tak n' c = c.take n' from rfl, enc_dec _ hb.2]; simp [srcE, stdA]
    · rw [dec_size]; simp [stdA]; omega
  · rename_i es id off n' cap
    split at hsrc
    case isFalse => cases hsrc
    rename_i hes
    subst hes
    split at hsrc
    · rename_i c hg
      injection hsrc with e; injection e with e1 e2; injection e2 with e2 e3
      subst e2; subst e3
      have hb : n' ≤ (c.drop off).length ∧ ((c.drop off).take n').all byteE = true := by simpa [stdA] using e1
      refine ⟨?_, ?_⟩
      · rw [show stdA.tak n' (stdA.drp off c) = (c.drop off).take n' from rfl, enc_dec _ hb.2]; simp [srcE, hg, stdA]
      · rw [dec_size]
        show ((c.drop off).take n').length = n'
        rw [List.length_take]; omega
    · rename_i s hg
      injection hsrc with e; injection e with e1 e2; injection e2 with e2 e3
      subst e2; subst e3
      have hb : off + n' ≤ s.size := by simpa [stdA] using e1
      refine ⟨?_, ?_⟩
      · have : stdA.enc (stdA.bex s off (off + n')) = ((stdA.enc s).drop off).take n' := by
          rw [← dec_enc, enc_dec]
          have := byt_enc hb
          have : n' ≤ ((stdA.enc s).drop off).length ∧ (((stdA.enc s).drop off).take n').all byteE = true := by simpa [stdA] using this
          exact this.2
        rw [show stdA.add off n' = off + n' from rfl, this]
        simp [srcE, hg]; rfl
      · show (s.extract off (off + n')).size = n'
        simp; omega
    · cases hsrc
  · cases hsrc; exact ⟨by simp [srcE], rfl⟩
  · cases hsrc
/-- The block that holds a row of bytes. -/
theorem newRowB (hs : HSim I w ρ h) (hI : ∀ b, I b → b < w.heap.size) {s : ByteArray} {vs : Array Value} {e : TypeId} (hu : I.P.underlying e = some (.int .u8)) (hz : szP I.P e = some 1)
    (hr : ∀ (j : Nat) (x : UInt8), s.data.toList[j]? = some x → vs[j]? = some (.int .u8 x.toNat)) (hl : s.size ≤ vs.size) :
    OS I (w.alloc (.cells vs e)) (ρ ++ [(w.heap.size, 0)]) (sizeH h) (.row s) :=
  ⟨w.heap.size, 0, vs, e, (0, 0), ren_last hs _, fun hb => absurd (hI _ hb) (Nat.lt_irrefl _), heap_alloc_at w _, hu, hz, .inl rfl, by simpa using hl, fun j x hx => by simpa using hr j x hx⟩
theorem cat_list (a b : ByteArray) : (stdA.cat a b).data.toList = a.data.toList ++ b.data.toList := by simp [stdA]
theorem bex_list (s : ByteArray) (a n : Nat) : (stdA.bex s a (a + n)).data.toList = (s.data.toList.drop a).take n := by
  simp only [stdA, ByteArray.data_extract, Array.toList_extract, List.extract_eq_take_drop, Nat.add_sub_cancel_left]
theorem size_list (s : ByteArray) : s.data.toList.length = s.size := by
  cases s with | mk d => exact Array.length_toList
/-- append to a row of bytes, or to a builder's first one. -/
theorem appendB_sound {tys : Array TypeId} {ty e : TypeId} {z : Value} (ht : AppT P tys e 1 1 z) (hu8 : P.underlying e = some (.int .u8)) (hP : I.P = P) {x y : EV} {u v : Value} (hs : HSim I w ρ h) (hI : ∀ b, I b → b < w.heap.size)
    (hx : Rep w I ρ x u) (hy : Rep w I ρ y v) (ok : SROK post pc (appendBE stdA x y h)) :
    Res I w ρ post pc (((Builtin.append_ tys ty #[u, v]).run P w).andThen fun a w' => .ok (.value a) w') := by
  have hu8' : I.P.underlying e = some (.int .u8) := by rw [hP]; exact hu8
  have hz' : szP I.P e = some 1 := by rw [hP]; exact ht.sz
  -- what is appended
  have src : ∀ (n : Nat) (t : ByteArray), srcR stdA h y = some (true, n, t) → t.size = n ∧ Builtin.lenOf v = Pure.pure n ∧
      ∀ w' : World, w'.heap = w.heap → (Builtin.firstCells 1 n v).run P w' = .ok (t.data.toList.map fun b => Value.int .u8 b.toNat).toArray w' := by
    intro n t hsrc
    obtain ⟨h1, h2⟩ := srcR_srcE hsrc
    obtain ⟨a1, a2, us, a3, a4, a5, a6⟩ := src_sound (P := P) hs hy h1 (by rw [enc_len]; omega)
    have : us = t.data.toList.map fun b => Value.int .u8 b.toNat := lit_vals _ _ a3
    subst this
    exact ⟨h2, a2, a6⟩
  -- the block that is made where the row moves
  have grow : ∀ (h0 : EH), HSim I w ρ h0 → ∀ (n : Nat) (t : ByteArray), t.size = n → Builtin.lenOf v = Pure.pure n →
      (∀ w' : World, w'.heap = w.heap → (Builtin.firstCells 1 n v).run P w' = .ok (t.data.toList.map fun b => Value.int .u8 b.toNat).toArray w') →
      ∀ (base : Option Addr) (sLen sCap : Nat) (p : ByteArray), p.size = sLen →
      (Builtin.firstCells 1 sLen (.slice base sLen sCap)).run P w.drew = .ok (p.data.toList.map fun b => Value.int .u8 b.toNat).toArray w.drew → sCap < sLen + n → stdA.room (sLen + n) 1 = true →
      post (.sl 1 (sizeH h0) 0 (sLen + n) none) (pushH h0 (.row (stdA.cat p t))) →
      Res I w ρ post pc (((Builtin.append_ tys ty #[.slice base sLen sCap, v]).run P w).andThen fun a w' => .ok (.value a) w') := by
    intro h0 hs0 n t htn hlen hfc base sLen sCap p hps hofc hlt hroom hp
    have hroom' : (sLen + n) * 1 ≤ 140737488355328 ∧ sLen + n ≤ 9223372036854775807 := by simpa [stdA] using hroom
    obtain ⟨k, rest, hk, hrl, hrun⟩ := run_append_out (ty := ty) ht hlen (hfc w.drew rfl) hofc hlt hroom'.2 hroom'.1
    have hkd := Keep.drew I w
    refine .inl ⟨_, _, _, _, [(w.heap.size, 0)], .inl (by rw [hrun]; rfl), hp, hkd.trans (.alloc w.drew _ hI), hs0.drew.alloc hI _ _ ?_, ?_⟩
    · refine newRowB (w := w.drew) hs0.drew hI hu8' hz' (fun j q hq => ?_) ?_
      · rw [cat_list] at hq
        have hq' : ((p.data.toList ++ t.data.toList).map fun b => Value.int .u8 b.toNat)[j]? = some (.int .u8 q.toNat) := by rw [List.getElem?_map, hq]; rfl
        rw [List.map_append] at hq'
        simp only [List.getElem?_toArray]
        rw [List.getElem?_append_left (List.getElem?_eq_some_iff.1 hq').1]
        exact hq'
      · have : (stdA.cat p t).size = sLen + n := by rw [← size_list, cat_list, List.length_append, size_list, size_list, hps, htn]
        rw [this]
        simp [hps, htn]
    · refine .sl _ _ _ _ _ _ _ k w.heap.size 0 (ren_last hs0 _) ⟨hk, fun q hq => by cases hq⟩ rfl fun _ => ⟨rfl, _, e, (0, 0), heap_alloc_at w.drew _, ?_⟩
      have h1 := size_list p; have h2 := size_list t
      simp at h1 h2
      simp [hrl]
      omega
  unfold appendBE at ok
  split at ok
  · -- a builder's first row
    cases hx
    split at ok
    case h_2 => exact ok.elim
    rename_i okk n t hsrc
    obtain ⟨hok, hroom, h1, h2⟩ := ok
    subst hok
    obtain ⟨htn, hlen, hfc⟩ := src n t hsrc
    have e1 : stdA.isz n = (n == 0) := rfl
    by_cases h0 : n = 0
    · subst h0
      have htl : t.data.toList = [] := List.length_eq_zero_iff.1 (by rw [size_list]; exact htn)
      have hf := hfc w rfl
      rw [htl] at hf
      have hrun := run_append_in (P := P) (w := w) (w' := w) (ty := ty) ht (base := none) (sLen := 0) (sCap := 0) (us := []) hlen hf (by omega) rfl
      exact Res.pure hs (v := .nbuf) (v' := .slice none 0 0) (by rw [hrun]; rfl) (h1 rfl) (.nbuf _)
    · have := grow h hs n t htn hlen hfc none 0 0 ByteArray.empty rfl rfl (by omega) (by simpa using hroom) (by
        have e2 : stdA.cat ByteArray.empty t = t := by simp [stdA]
        rw [e2]; simpa using h2 (by simp [e1, h0]))
      exact this
  · -- own
    rename_i es id off len cap
    split at ok
    · rename_i r hg
      split at ok
      case isFalse => exact ok.elim
      rename_i hes
      subst hes
      split at ok
      case h_2 => exact ok.elim
      split at ok
      case h_2 => exact ok.elim
      rename_i okk n t hsrc
      obtain ⟨hok, hlr, hroom, hp⟩ := ok
      subst hok
      obtain ⟨htn, hlen, hfc⟩ := src n t hsrc
      have hlr' : off + len ≤ r.size := by simpa [stdA] using hlr
      cases hx with
      | sl _ _ _ _ _ _ ad k b o hb hcap hsp hf =>
      have hlive := hs.live id
      rw [hg] at hlive
      obtain ⟨b2, o2, cs, ety, fz, k1, k2, k3, k4, k5, k6, klen, k7⟩ := hlive
      rw [hb] at k1; cases k1
      have hps : (stdA.bex r off (stdA.add off len)).size = len := by
        rw [← size_list, show stdA.add off len = off + len from rfl, bex_list, List.length_take, List.length_drop, size_list]; omega
      have hpl : (stdA.bex r off (stdA.add off len)).data.toList = (r.data.toList.drop off).take len := bex_list r off len
      have hcell : ∀ (j : Nat) (x : UInt8), ((r.data.toList.drop off).take len)[j]? = some x → cs[o + off + j]? = some (.int .u8 x.toNat) := fun j x hx => by
        rw [List.getElem?_take] at hx
        split at hx
        · rw [List.getElem?_drop] at hx
          rw [Nat.add_assoc]; exact k7 _ x hx
        · cases hx
      by_cases hfit : len + n ≤ k
      · by_cases hk0 : k = 0
        · have hn0 : n = 0 := by omega
          have hl0 : len = 0 := by omega
          subst hk0
          subst hn0
          subst hl0
          have htl : t.data.toList = [] := List.length_eq_zero_iff.1 (by rw [size_list]; exact htn)
          have hff := hfc w rfl
          rw [htl] at hff
          have hrun := run_append_in (P := P) (w := w) (w' := w) (ty := ty) ht (base := some ad) (sLen := 0) (sCap := 0) (us := []) hlen hff (by omega) (by simp [storeCells])
          refine .inl ⟨_, _, _, _, [(b, o)], .inl (by rw [hrun]; rfl), hp, .refl I w, hs.moved (.refl I w) (by rw [hg]; simp) hb (fun _ _ => rfl) ?_, ?_⟩
          · have e3 : (stdA.cat (stdA.bex r off (stdA.add off 0)) t).data.toList = [] := by rw [cat_list, hpl, htl]; simp
            refine ⟨b, o, cs, ety, fz, ren_last hs _, k2, k3, k4, k5, k6, ?_, fun j q hq => ?_⟩
            · rw [← size_list, e3]; simp; omega
            · rw [e3] at hq; simp at hq
          · exact .sl _ _ _ _ _ _ ad 0 b o (ren_last hs _) ⟨by simp [stdA], fun q hq => by cases hq⟩ hsp (fun hne => absurd rfl hne)
        · obtain ⟨rfl, cs', ety', fz', hcs', hfits⟩ := hf hk0
          rw [k3] at hcs'; cases hcs'
          obtain ⟨us, hus⟩ : ∃ us, us = t.data.toList.map fun b => Value.int .u8 b.toNat := ⟨_, rfl⟩
          have hul : us.length = n := by rw [hus, List.length_map, size_list, htn]
          have hone : ∀ q ∈ us, q.oneCell' = true := by rw [hus]; intro q hq; obtain ⟨b, _, rfl⟩ := List.mem_map.1 hq; rfl
          have hfw := hfc w rfl
          rw [← hus] at hfw
          have hst := storeCells_run (P := P) b (o + off + len * 1) ety fz us 0 cs w k3 k6 (by rw [hul]; omega) hone
          simp only [Nat.add_zero, hul] at hst
          have hrun := run_append_in (P := P) (w := w) (ty := ty) ht (base := some ⟨b, o + off, none⟩) (sLen := len) (sCap := k) hlen hfw hfit (by
            show (storeCells ((⟨b, o + off, none⟩ : Addr).add (len * 1)) us).run P w = .ok () _
            rw [add_none]; exact hst)
          have hnsz : (cs.toList.take (o + off + len * 1) ++ us ++ cs.toList.drop (o + off + len * 1 + n)).toArray.size = cs.size := by simp [hul]; omega
          have hkeep : Keep I w (w.setRow b (cs.toList.take (o + off + len * 1) ++ us ++ cs.toList.drop (o + off + len * 1 + n)).toArray) := Keep.setRow k3 k2 hnsz
          refine .inl ⟨_, _, _, _, [(b, o + off)], .inl (by rw [hrun]; rfl), hp, hkeep, hs.moved hkeep (by rw [hg]; simp) hb (fun b' hb' => setRow_other w b b' _ hb') ?_, ?_⟩
          · refine ⟨b, o + off, _, ety, fz, ren_last hs _, k2, setRow_heap w b cs _ ety fz k3, k4, k5, by rw [hnsz]; exact k6, ?_, fun j q hq => ?_⟩
            · rw [hnsz, ← size_list, cat_list, List.length_append, hpl, List.length_take, List.length_drop, size_list, size_list]; omega
            · rw [cat_list, hpl] at hq
              have hpl2 : ((r.data.toList.drop off).take len).length = len := by rw [List.length_take, List.length_drop, size_list]; omega
              simp only [List.getElem?_toArray]
              rcases Nat.lt_or_ge j len with hj | hj
              · rw [List.getElem?_append_left (by rw [hpl2]; exact hj)] at hq
                rw [List.append_assoc, List.getElem?_append_left (by simp; omega), List.getElem?_take, if_pos (by omega)]
                simpa using hcell j q hq
              · rw [List.getElem?_append_right (by rw [hpl2]; exact hj), hpl2] at hq
                have hq' : us[j - len]? = some (.int .u8 q.toNat) := by rw [hus, List.getElem?_map, hq]; rfl
                have hjn : j - len < n := by rw [← hul]; exact (List.getElem?_eq_some_iff.1 hq').1
                rw [List.append_assoc, List.getElem?_append_right (by simp; omega), List.getElem?_append_left (by simp [hul]; omega)]
                rw [← hq']; congr 1
                simp; omega
          · refine .sl _ _ _ _ _ _ _ k b (o + off) (ren_last hs _) ⟨hfit, fun q hq => by cases hq⟩ rfl fun _ => ⟨rfl, _, ety, fz, setRow_heap w b cs _ ety fz k3, ?_⟩
            rw [hnsz]; exact hfits
      · have hsd : sizeH (setH h id .dead) = sizeH h := sizeH_set _ _ _
        refine grow (setH h id .dead) (hs.kill id) n t htn hlen hfc (some ad) len k _ hps ?_ (by omega) hroom (by rw [hsd]; exact hp)
        -- what lies there
        rw [hpl]
        obtain ⟨os, hos⟩ : ∃ os, os = ((r.data.toList.drop off).take len).map fun b => Value.int .u8 b.toNat := ⟨_, rfl⟩
        rw [← hos]
        have hol : os.length = len := by rw [hos, List.length_map, List.length_take, List.length_drop, size_list]; omega
        by_cases hk0 : k = 0
        · have hl0 : len = 0 := by have := hcap.1; omega
          subst hl0
          have : os = [] := List.length_eq_zero_iff.1 hol
          subst this
          simp [Builtin.firstCells, loadCells, loadCellsFrom]
        · obtain ⟨rfl, cs', ety', fz', hcs', hfits⟩ := hf hk0
          have hl : (loadCells ⟨b, o + off, none⟩ len).run P w.drew = .ok os.toArray w.drew := by
            refine loadCells_run (P := P) (w := w.drew) (I := I) (ρ := ρ) (cs := ((r.data.toList.drop off).take len).map fun b => EV.lit (.int .u8 b.toNat)) ?_ (fun j u' hu' => ?_) (by rw [List.length_map]; simpa [hos] using hol)
            · rw [hos]
              generalize (r.data.toList.drop off).take len = l
              induction l with
              | nil => trivial
              | cons b l ih => exact ⟨.lit _ _, ih⟩
            · rw [hos, List.getElem?_map] at hu'
              obtain ⟨q, hq, rfl⟩ := Option.map_eq_some_iff.1 hu'
              have := hcell j q hq
              show w.drew.cell? _ = _
              unfold World.cell?
              rw [show w.drew.heap = w.heap from rfl, k3]
              simp [this]
          simpa [Builtin.firstCells] using hl
    · exact append_sound ht hs hI hx hy ok
  · exact append_sound ht hs hI hx hy ok
end
end Go.Proofs.YtpgeonghlabnhaaGreatDoor.Em
