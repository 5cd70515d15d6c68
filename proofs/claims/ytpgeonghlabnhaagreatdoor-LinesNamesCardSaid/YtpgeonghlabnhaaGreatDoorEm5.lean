/- Em5: loads, stores, new blocks and literals of the model stand for those of the abstract machine. No conditions beyond those written. -/
import Derived.Test.YtpgeonghlabnhaaGreatDoorEm4
set_option linter.unusedVariables false
set_option linter.unusedSimpArgs false
namespace Go.Proofs.YtpgeonghlabnhaaGreatDoor.Em
open Go
section
variable {I : Imm} {w : World} {ρ : Ren} {h : EH} {post : EV → EH → Prop} {pc : FuncId → List EV → Prop} {P : Program}
theorem run_aggP {t : TypeId} {b : Bool} (ha : aggP P t = some b) (w : World) : (isAgg t).run P w = .ok b w := by
  unfold aggP at ha
  split at ha
  · rename_i hu; cases ha; simp [isAgg, underlying, hu]
  · rename_i hu; cases ha; simp [isAgg, underlying, hu]
  · rename_i d h1 h2 hu
    cases ha
    cases d <;> first | (exact absurd rfl (h1 _)) | (exact absurd rfl (h2 _ _)) | (simp [isAgg, underlying, hu])
  · cases ha
theorem run_szP {t : TypeId} {n : Nat} (hs : szP P t = some n) (w : World) : (sizeOf t).run P w = .ok n w := by
  unfold szP at hs
  cases hi : P.info? t with
  | none => simp [hi] at hs
  | some i => simp [hi] at hs; simp [sizeOf, typeInfo, hi, hs]
theorem run_zeP {t : TypeId} {z : Value} (hz : zeP P t = some z) (w : World) : (zeroValue t).run P w = .ok z w := by
  unfold zeP at hz
  cases hi : P.info? t with
  | none => simp [hi] at hz
  | some i => simp [hi] at hz; simp [zeroValue, typeInfo, hi, hz]
theorem add_none (b o j : Nat) : (⟨b, o, none⟩ : Addr).add j = ⟨b, o + j, none⟩ := by
  unfold Addr.add; split <;> simp_all
theorem rd_spec : ∀ (c : List EV) (off n : Nat) (cs : List EV), rd c off n = some cs → cs.length = n ∧ (c.drop off).take n = cs
  | _, 0, 0, cs, hc => by simp [rd] at hc; subst hc; simp
  | [], 0, _ + 1, cs, hc => by simp [rd] at hc
  | [], _ + 1, _, cs, hc => by simp [rd] at hc
  | x :: l, off + 1, n, cs, hc => by
    have : rd l off n = some cs := by cases n <;> simpa [rd] using hc
    simpa using rd_spec l off n cs this
  | x :: l, 0, n + 1, cs, hc => by
    simp only [rd] at hc
    cases hr : rd l 0 n with
    | none => simp [hr] at hc
    | some r =>
      simp [hr] at hc; subst hc
      have := rd_spec l 0 n r hr
      simp at this
      simp [this.1, this.2]
/-- Cells that stand for a list, as a list of values. -/
theorem pick_cells : ∀ (cs : List EV) (f : Nat → Value → Prop), (∀ (j : Nat) (x : EV), cs[j]? = some x → ∃ u, f j u ∧ Rep w I ρ x u) →
    ∃ us : List Value, RepL w I ρ cs us ∧ ∀ (j : Nat) (u : Value), us[j]? = some u → f j u
  | [], f, _ => ⟨[], trivial, fun j u hu => by simp at hu⟩
  | x :: cs, f, hf => by
    obtain ⟨u, hu, hr⟩ := hf 0 x rfl
    obtain ⟨us, h1, h2⟩ := pick_cells cs (fun j => f (j + 1)) (fun j y hy => hf (j + 1) y (by simpa using hy))
    refine ⟨u :: us, ⟨hr, h1⟩, fun j v hv => ?_⟩
    cases j with
    | zero => simp at hv; subst hv; exact hu
    | succ j => exact h2 j v (by simpa using hv)
theorem take_drop_get {c cs : List EV} {off n : Nat} (hc : (c.drop off).take n = cs) {j : Nat} {x : EV} (hj : cs[j]? = some x) : c[off + j]? = some x := by
  subst hc
  rw [List.getElem?_take] at hj
  split at hj
  · rwa [List.getElem?_drop] at hj
  · cases hj
/-- Cells read one after the other. -/
theorem loadCells_run {cs : List EV} {b o : Nat} {us : List Value} (hr : RepL w I ρ cs us)
    (hc : ∀ (j : Nat) (u : Value), us[j]? = some u → w.cell? ⟨b, o + j, none⟩ = some u) {n : Nat} (hn : cs.length = n) :
    (loadCells ⟨b, o, none⟩ n).run P w = .ok us.toArray w := by
  have : n = us.length := by rw [← hn]; exact hr.length
  subst this
  exact run_loadCells_list (P := P) w ⟨b, o, none⟩ us fun j v hv => by rw [add_none]; exact hc j v hv
/-- What a load leaves. -/
theorem loadVar_run {t : TypeId} {agg : Bool} {n b o : Nat} {cs : List EV} {e : EV} (ha : aggP P t = some agg) (hsz : agg = true → szP P t = some n)
    (hn : cs.length = n) (hv : mkV agg cs = some e)
    (hc : ∀ (j : Nat) (x : EV), cs[j]? = some x → ∃ u, w.cell? ⟨b, o + j, none⟩ = some u ∧ Rep w I ρ x u) :
    ∃ v, (loadVar t ⟨b, o, none⟩).run P w = .ok v w ∧ Rep w I ρ e v := by
  obtain ⟨us, h1, h2⟩ := pick_cells (w := w) (I := I) (ρ := ρ) cs (fun j u => w.cell? ⟨b, o + j, none⟩ = some u) (fun j x hx => by
    obtain ⟨u, hu, hr⟩ := hc j x hx; exact ⟨u, hu, hr⟩)
  cases agg with
  | true =>
    simp [mkV] at hv; subst hv
    refine ⟨.agg us.toArray, ?_, agg_of_list (by simpa using h1)⟩
    simp [loadVar, run_aggP ha, run_szP (hsz rfl), loadCells_run h1 h2 hn]
  | false =>
    match cs, us, h1, h2, hv with
    | [x], [u], h1, h2, hv =>
      simp [mkV] at hv; subst hv
      have hu := h2 0 u rfl
      simp at hu
      exact ⟨u, by simp [loadVar, run_aggP ha, hu], h1.1⟩
theorem blk_cell {id : Nat} {c : List EV} (hs : HSim I w ρ h) (hb : getH h id = .blk c) :
    ∃ b o, ρ[id]? = some (b, o) ∧ ∀ (j : Nat) (x : EV), c[j]? = some x → ∃ v, w.cell? ⟨b, o + j, none⟩ = some v ∧ v.oneCell' = true ∧ Rep w I ρ x v := by
  have := hs.live id
  rw [hb] at this
  obtain ⟨b, o, cs, e, fz, h1, h2, h3, h4, _, h5⟩ := this
  refine ⟨b, o, h1, fun j x hx => ?_⟩
  obtain ⟨v, hv, ho, hr⟩ := h5 j x hx
  exact ⟨v, by simp [World.cell?, h3, hv], ho, hr⟩
theorem enc_get (s : ByteArray) (j : Nat) : (stdA.enc s)[j]? = (s.data.toList[j]?).map fun b => EV.lit (.int .u8 b.toNat) := by
  simp [stdA]
theorem row_cell {id : Nat} {s : ByteArray} (hs : HSim I w ρ h) (hb : getH h id = .row s) :
    ∃ b o, ρ[id]? = some (b, o) ∧ ∀ (j : Nat) (x : EV), (stdA.enc s)[j]? = some x → ∃ v, w.cell? ⟨b, o + j, none⟩ = some v ∧ v.oneCell' = true ∧ Rep w I ρ x v := by
  have := hs.live id
  rw [hb] at this
  obtain ⟨b, o, cs, e, fz, h1, h2, h3, _, _, _, _, h5⟩ := this
  refine ⟨b, o, h1, fun j x hx => ?_⟩
  rw [enc_get] at hx
  obtain ⟨y, hy, rfl⟩ := Option.map_eq_some_iff.1 hx
  exact ⟨_, by simp [World.cell?, h3, h5 j y hy], rfl, .lit _ _⟩
theorem enc_len (s : ByteArray) : (stdA.enc s).length = s.size := by
  simp [stdA]
theorem byte_num (b : UInt8) : UInt8.ofNat (numE (.lit (.int .u8 b.toNat))).toNat = b := by
  simp [numE]
theorem dec_enc (s : ByteArray) (off n : Nat) : stdA.dec (((stdA.enc s).drop off).take n) = stdA.bex s off (off + n) := by
  apply ByteArray.ext
  apply Array.ext'
  simp only [stdA, ByteArray.data_extract, Array.toList_extract]
  simp only [List.map_take, List.map_drop, List.map_map]
  have : ((fun x => UInt8.ofNat (numE x).toNat) ∘ fun b : UInt8 => EV.lit (.int .u8 b.toNat)) = id := by
    funext b; exact byte_num b
  rw [this, List.map_id, List.extract_eq_take_drop, Nat.add_sub_cancel_left]
theorem byt_enc {s : ByteArray} {off n : Nat} (h : off + n ≤ s.size) : stdA.byt n ((stdA.enc s).drop off) = true := by
  have hl := enc_len s
  simp only [stdA, Bool.and_eq_true, decide_eq_true_eq]
  refine ⟨by simp only [List.length_drop]; simp [stdA] at hl ⊢; omega, List.all_eq_true.2 fun x hx => ?_⟩
  have hx := List.mem_of_mem_drop (List.mem_of_mem_take hx)
  obtain ⟨b, _, rfl⟩ := List.mem_map.1 hx
  have := b.toNat_lt
  simp [byteE]; omega
/-- What an operation that only looks comes to. -/
def Looks (I : Imm) (w : World) (ρ : Ren) (h : EH) (post : EV → EH → Prop) (P : Program) (s : Sem Value) : Prop :=
  ∃ e v, s.run P w = .ok v w ∧ post e h ∧ Rep w I ρ e v
theorem load_sound {t : TypeId} {agg : Bool} {n : Nat} {x : EV} {v : Value} (ha : aggP P t = some agg) (hsz : agg = true → szP P t = some n)
    (hs : HSim I w ρ h) (hx : Rep w I ρ x v) (ok : SROK post pc (loadE agg n x h)) : Looks I w ρ h post P (Instr.loadAt t v) := by
  cases hx with
  | ptr _ id off b o hr =>
    simp only [loadE] at ok
    cases hb : getH h id with
    | blk c =>
      simp only [hb] at ok
      cases hrd : rd c off n with
      | none => simp [hrd, SROK] at ok
      | some cs =>
        cases hmk : mkV agg cs with
        | none => simp [hrd, hmk, SROK] at ok
        | some e =>
          simp only [hrd, hmk, SROK] at ok
          obtain ⟨b', o', hr', hcell⟩ := blk_cell hs hb
          rw [hr] at hr'; cases hr'
          obtain ⟨hlen, htk⟩ := rd_spec c off n cs hrd
          obtain ⟨u, hu, hrep⟩ := loadVar_run (b := b) (o := o + off) ha hsz hlen hmk (fun j y hy => by
            obtain ⟨u, hu, _, hrp⟩ := hcell (off + j) y (take_drop_get htk hy)
            exact ⟨u, by rw [Nat.add_assoc]; exact hu, hrp⟩)
          exact ⟨e, u, by simp [Instr.loadAt, Instr.sureAddr, hu], ok, hrep⟩
    | dead => simp [hb, SROK] at ok
    | emap es => simp [hb, SROK] at ok
    | lp _ _ _ _ _ _ => simp [hb, SROK] at ok
    | row _ => simp [hb, SROK] at ok
    | itr _ _ => simp [hb, SROK] at ok
  | eptr _ id off b o hr =>
    simp only [loadE] at ok
    cases hb : getH h id with
    | blk c =>
      simp only [hb, SROK] at ok
      obtain ⟨cs, e, hlen, htk, hmk, hp⟩ := ok
      obtain ⟨b', o', hr', hcell⟩ := blk_cell hs hb
      rw [hr] at hr'; cases hr'
      obtain ⟨u, hu, hrep⟩ := loadVar_run (b := b) (o := o + off) ha hsz hlen hmk (fun j y hy => by
        obtain ⟨u, hu, _, hrp⟩ := hcell (off + j) y (take_drop_get htk hy)
        exact ⟨u, by rw [Nat.add_assoc]; exact hu, hrp⟩)
      exact ⟨e, u, by simp [Instr.loadAt, Instr.sureAddr, hu], hp, hrep⟩
    | dead => simp [hb, SROK] at ok
    | emap es => simp [hb, SROK] at ok
    | lp _ _ _ _ _ _ => simp [hb, SROK] at ok
    | row _ => simp [hb, SROK] at ok
    | itr _ _ => simp [hb, SROK] at ok
  | iptr _ c off b o vs hI hc hr =>
    simp only [loadE, SROK] at ok
    obtain ⟨cs, e, hlen, htk, hmk, hp⟩ := ok
    obtain ⟨u, hu, hrep⟩ := loadVar_run (b := b) (o := o + off) (ρ := ρ) (I := I) ha hsz hlen hmk (fun j y hy => by
      have hj := take_drop_get htk hy
      exact ⟨vs (off + j), by rw [Nat.add_assoc]; exact (hc _ _ hj).1, (hr _ _ hj).closed ρ⟩)
    exact ⟨e, u, by simp [Instr.loadAt, Instr.sureAddr, hu], hp, hrep⟩
  | lit _ v => cases v <;> simp [loadE, SROK] at ok
  | _ => simp [loadE, SROK] at ok
/-- Cells written one after the other. -/
theorem storeCells_run (g o : Nat) (t : TypeId) (fz : Nat × Nat) : ∀ (vs : List Value) (i : Nat) (cur : Array Value) (w : World),
    w.heap[g]? = some (.cells cur t fz) → fzOk cur.size fz → o + i + vs.length ≤ cur.size → (∀ v ∈ vs, v.oneCell' = true) →
    (storeCells ⟨g, o, none⟩ vs i).run P w = .ok () (w.setRow g (cur.toList.take (o + i) ++ vs ++ cur.toList.drop (o + i + vs.length)).toArray)
  | [], i, cur, w, hg, _, _, _ => by
    simp only [storeCells, List.append_nil, List.length_nil, Nat.add_zero, List.take_append_drop, Array.toArray_toList]
    rw [setRow_self w g cur t fz hg]
    rfl
  | v :: rest, i, cur, w, hg, hf, hl, h1 => by
    have hlt : o + i < cur.size := by simp at hl; omega
    have hcell : w.cell? ⟨g, o + i, none⟩ = some cur[o + i] := by simp [World.cell?, hg, hlt]
    have hfr : w.frozen? ⟨g, o + i, none⟩ = false := by
      simp only [World.frozen?, hg]
      rcases hf with hf | hf <;> simp <;> omega
    have hst : (store ((⟨g, o, none⟩ : Addr).add i) v).run P w = .ok () (w.setCell ⟨g, o + i, none⟩ v) := by
      rw [add_none, run_store P w _ v _ (h1 v (by simp)), hcell]
      simp [hfr]
    have hset : w.setCell ⟨g, o + i, none⟩ v = w.setRow g (cur.setIfInBounds (o + i) v) := setCell_eq_setRow w g (o + i) cur t fz v hg
    have ih := storeCells_run g o t fz rest (i + 1) (cur.setIfInBounds (o + i) v) (w.setRow g (cur.setIfInBounds (o + i) v))
      (setRow_heap w g cur _ t fz hg) (by simpa using hf) (by simp at hl ⊢; omega) (fun u hu => h1 u (by simp [hu]))
    simp only [storeCells, Sem.run_bind, hst, Result.andThen_ok, hset, ih]
    rw [setRow_setRow]
    congr 3
    have := list_seg_step cur.toList (o + i) v rest (by simp at hl ⊢; omega)
    simp only [Array.toList_setIfInBounds, List.length_cons]
    rw [show o + (i + 1) = o + i + 1 by omega]
    exact this
theorem Keep.setRow {g : Nat} {old cs : Array Value} {t : TypeId} {fz : Nat × Nat} (hg : w.heap[g]? = some (.cells old t fz)) (hI : ¬ I g)
    (hsz : cs.size = old.size) : Keep I w (w.setRow g cs) :=
  ⟨rfl, rfl, rfl, by simp, fun b hb => setRow_other w g b cs (fun e => hI (e ▸ hb)), fun b cs' e fz' hb => by
    by_cases hbg : b = g
    · subst hbg
      rw [hg] at hb; cases hb
      exact ⟨cs, fz, setRow_heap w b old cs t fz hg, hsz⟩
    · exact ⟨cs', fz', by rw [setRow_other w g b cs hbg]; exact hb, rfl⟩⟩
/-- n cells of a live block written over. -/
theorem write_blk {id b o off : Nat} {c c' : List EV} {vs : List Value} {cur : Array Value} {t : TypeId} {fz : Nat × Nat} (hs : HSim I w ρ h)
    (hb : getH h id = .blk c) (hr : ρ[id]? = some (b, o)) (hg : w.heap[b]? = some (.cells cur t fz)) (hroom : o + off + vs.length ≤ cur.size) (hlen : o + c'.length ≤ cur.size)
    (h1 : ∀ v ∈ vs, v.oneCell' = true) (w' : World) (hw' : w' = w.setRow b (cur.toList.take (o + off) ++ vs ++ cur.toList.drop (o + off + vs.length)).toArray)
    (hin : ∀ (j : Nat) (x : EV), c'[j]? = some x → (j < off ∨ off + vs.length ≤ j) → c[j]? = some x)
    (hout : ∀ (j : Nat) (x : EV) (v : Value), c'[off + j]? = some x → vs[j]? = some v → Rep w I ρ x v) :
    Keep I w w' ∧ HSim I w' ρ (setH h id (.blk c')) := by
  have hlive := hs.live id
  rw [hb] at hlive
  obtain ⟨b2, o2, cs, e, fz2, k1, k2, k3, k4, _, k5⟩ := hlive
  rw [hr] at k1; cases k1
  rw [hg] at k3; cases k3
  have hk : Keep I w w' := by
    rw [hw']; exact Keep.setRow hg k2 (by simp; omega)
  refine ⟨hk, hs.write hk (by rw [hb]; simp) hr (fun b' hb' => by rw [hw']; exact setRow_other w b b' _ hb') _ ?_⟩
  refine ⟨b, o, _, t, fz, hr, k2, by rw [hw']; exact setRow_heap w b cur _ t fz hg, ?_, by simp; omega, fun j x hx => ?_⟩
  · have : (cur.toList.take (o + off) ++ vs ++ cur.toList.drop (o + off + vs.length)).toArray.size = cur.size := by simp; omega
    rw [this]; exact k4
  · simp only [List.getElem?_toArray]
    by_cases hj : off ≤ j ∧ j < off + vs.length
    · obtain ⟨i, rfl⟩ : ∃ i, j = off + i := ⟨j - off, by omega⟩
      have hi : i < vs.length := by omega
      refine ⟨vs[i], ?_, h1 _ (List.getElem_mem hi), (hout i x vs[i] hx (List.getElem?_eq_getElem hi)).keep hk⟩
      rw [List.append_assoc, List.getElem?_append_right (by simp; omega), List.getElem?_append_left (by simp; omega)]
      rw [← List.getElem?_eq_getElem hi]
      congr 1
      simp; omega
    · have hx' := hin j x hx (by omega)
      obtain ⟨v, hv, ho, hrp⟩ := k5 j x hx'
      refine ⟨v, ?_, ho, hrp.keep hk⟩
      have hlt : o + j < cur.size := (Array.getElem?_eq_some_iff.1 hv).1
      rcases Nat.lt_or_ge j off with hj1 | hj1
      · rw [List.append_assoc, List.getElem?_append_left (by simp; omega), List.getElem?_take, if_pos (by omega)]
        simpa using hv
      · rw [List.getElem?_append_right (by simp; omega), List.getElem?_drop]
        rw [show o + off + vs.length + (o + j - (cur.toList.take (o + off) ++ vs).length) = o + j by simp; omega]
        simpa using hv
theorem wrt_spec : ∀ (c : List EV) (off : Nat) (vs c' : List EV), wrt c off vs = some c' → c'.length = c.length ∧ off + vs.length ≤ c.length ∧
    (∀ j, (j < off ∨ off + vs.length ≤ j) → c'[j]? = c[j]?) ∧ (∀ j, j < vs.length → c'[off + j]? = vs[j]?)
  | c, 0, [], c', hc => by simp [wrt] at hc; subst hc; simp
  | [], 0, _ :: _, c', hc => by simp [wrt] at hc
  | [], _ + 1, _, c', hc => by simp [wrt] at hc
  | x :: l, off + 1, vs, c', hc => by
    cases hr : wrt l off vs with
    | none => cases vs <;> simp [wrt, hr] at hc
    | some r =>
      have hc1 : x :: r = c' := by cases vs <;> simpa [wrt, hr] using hc
      subst hc1
      obtain ⟨h1, h2, h3, h4⟩ := wrt_spec l off vs r hr
      refine ⟨by simp [h1], by simp; omega, fun j hj => ?_, fun j hj => ?_⟩
      · cases j with
        | zero => rfl
        | succ j => simpa using h3 j (by omega)
      · rw [show off + 1 + j = (off + j) + 1 by omega]; simpa using h4 j hj
  | x :: l, 0, v :: vs, c', hc => by
    simp only [wrt] at hc
    cases hr : wrt l 0 vs with
    | none => simp [hr] at hc
    | some r =>
      simp [hr] at hc; subst hc
      obtain ⟨h1, h2, h3, h4⟩ := wrt_spec l 0 vs r hr
      refine ⟨by simp [h1], by simp at h2 ⊢; omega, fun j hj => ?_, fun j hj => ?_⟩
      · cases j with
        | zero => simp at hj
        | succ j => simpa using h3 j (by simp at hj; omega)
      · cases j with
        | zero => simp
        | succ j => simpa using h4 j (by simpa using hj)
/-- The lists of Em4's setl. -/
theorem setl_spec (c : List EV) (off : Nat) (vs : List EV) (hl : off + vs.length ≤ c.length) :
    (∀ (j : Nat), (j < off ∨ off + vs.length ≤ j) → (stdA.setl c off vs)[j]? = c[j]?) ∧ (∀ j, j < vs.length → (stdA.setl c off vs)[off + j]? = vs[j]?) := by
  constructor
  · intro j hj
    simp only [stdA]
    rcases Nat.lt_or_ge j off with h1 | h1
    · rw [List.append_assoc, List.getElem?_append_left (by simp; omega), List.getElem?_take, if_pos h1]
    · rw [List.getElem?_append_right (by simp; omega), List.getElem?_drop]
      congr 1
      simp; omega
  · intro j hj
    simp only [stdA]
    rw [List.append_assoc, List.getElem?_append_right (by simp; omega), List.getElem?_append_left (by simp; omega)]
    congr 1
    simp; omega
theorem store_sound {t : TypeId} {n : Nat} {x v : EV} {a u : Value} (hsz : szP P t = some n) (hs : HSim I w ρ h) (hx : Rep w I ρ x a) (hv : Rep w I ρ v u)
    (ok : SROK post pc (storeE stdA n x v h)) :
    ∃ w' h', (Instr.storeAt t a u).run P w = .ok () w' ∧ post undefE h' ∧ Keep I w w' ∧ HSim I w' ρ h' := by
  unfold storeE at ok
  split at ok
  case isFalse => exact ok.elim
  rename_i hlen
  split at ok
  case isFalse => exact ok.elim
  rename_i hone
  have hlen' : (cellsE v).length = n := by rw [lenL_eq] at hlen; simpa using hlen
  have hrl := cellsE_rep' hv hone
  have hul : u.cells.toList.length = n := by rw [← hrl.length]; exact hlen'
  have hul' : u.cells.size = n := by simpa using hul
  have h1 := allOne_rep hrl hone
  have main : ∀ (id off b o : Nat) (c c' : List EV), ρ[id]? = some (b, o) → getH h id = .blk c → off + n ≤ c.length → c'.length = c.length →
      (∀ (j : Nat), (j < off ∨ off + n ≤ j) → c'[j]? = c[j]?) → (∀ j, j < n → c'[off + j]? = (cellsE v)[j]?) → post undefE (setH h id (.blk c')) →
      ∃ w' h', (Instr.storeAt t (.pointer (some ⟨b, o + off, none⟩)) u).run P w = .ok () w' ∧ post undefE h' ∧ Keep I w w' ∧ HSim I w' ρ h' := by
    intro id off b o c c' hr hb hcl hcl' hc1 hc2 hp
    have hlive := hs.live id
    rw [hb] at hlive
    obtain ⟨b2, o2, cs, e, fz, k1, k2, k3, k4, klen, k5⟩ := hlive
    rw [hr] at k1; cases k1
    have hc'l : c'.length = c.length := hcl'
    have hroom : o + off + n ≤ cs.size := by omega
    have hrun := storeCells_run (P := P) b (o + off) e fz u.cells.toList 0 cs w k3 k4 (by rw [hul]; omega) h1
    obtain ⟨hk, hsim⟩ := write_blk (off := off) (c' := c') hs hb hr k3 (vs := u.cells.toList) (by rw [hul]; omega) (by omega) h1 _ rfl
      (fun j y hy hj => by rw [← hc1 j (by rw [hul] at hj; exact hj)]; exact hy)
      (fun j y vv hy hvv => by
        have hj : j < n := by rw [← hul]; exact (List.getElem?_eq_some_iff.1 hvv).1
        rw [hc2 j hj] at hy
        exact hrl.at j y vv hy hvv)
    refine ⟨_, _, ?_, hp, hk, hsim⟩
    simp only [Instr.storeAt, Instr.sureAddr, storeVar, Sem.run_bind, Sem.run_pure, Result.andThen_ok, run_szP hsz, hul', ne_eq, not_true_eq_false, if_false, Sem.run_ite]
    simpa using hrun
  cases hx with
  | ptr _ id off b o hr =>
    cases hb : getH h id with
    | blk c =>
      simp only [hb] at ok
      cases hw : wrt c off (cellsE v) with
      | none => simp [hw, SROK] at ok
      | some c' =>
        simp only [hw, SROK] at ok
        obtain ⟨q1, q2, q3, q4⟩ := wrt_spec c off (cellsE v) c' hw
        rw [hlen'] at q2 q3 q4
        exact main id off b o c c' hr hb q2 q1 q3 q4 ok
    | dead => simp [hb, SROK] at ok
    | emap es => simp [hb, SROK] at ok
    | lp _ _ _ _ _ _ => simp [hb, SROK] at ok
    | row _ => simp [hb, SROK] at ok
    | itr _ _ => simp [hb, SROK] at ok
  | eptr _ id off b o hr =>
    cases hb : getH h id with
    | blk c =>
      simp only [hb, SROK] at ok
      obtain ⟨hle, hp⟩ := ok
      have hle' : off + n ≤ c.length := by simpa [stdA] using hle
      have := setl_spec c off (cellsE v) (by rw [hlen']; exact hle')
      rw [hlen'] at this
      exact main id off b o c _ hr hb hle' (by simp [stdA, hlen']; omega) this.1 this.2 hp
    | dead => simp [hb, SROK] at ok
    | emap es => simp [hb, SROK] at ok
    | lp _ _ _ _ _ _ => simp [hb, SROK] at ok
    | row _ => simp [hb, SROK] at ok
    | itr _ _ => simp [hb, SROK] at ok
  | lit _ v => cases v <;> simp [SROK] at ok
  | _ => simp [SROK] at ok
end
end Go.Proofs.YtpgeonghlabnhaaGreatDoor.Em
