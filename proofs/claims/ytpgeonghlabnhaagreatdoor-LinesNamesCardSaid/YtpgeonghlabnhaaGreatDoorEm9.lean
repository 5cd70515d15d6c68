/- Em9: append, copy, made slices, strings turned into bytes. No conditions beyond those written. -/
import Derived.Test.YtpgeonghlabnhaaGreatDoorEm8
import Derived.Laws.AppendOwn
set_option linter.unusedVariables false
set_option linter.unusedSimpArgs false
namespace Go.Proofs.YtpgeonghlabnhaaGreatDoor.Em
open Go
section
variable {I : Imm} {w : World} {ρ : Ren} {h : EH} {post : EV → EH → Prop} {pc : FuncId → List EV → Prop} {P : Program}
theorem loadCells_any {cs : List EV} {a : Addr} {n : Nat} (hs : n ≠ 0 → a.spot = none) (hn : cs.length = n)
    (hc : n ≠ 0 → ∀ (j : Nat) (x : EV), cs[j]? = some x → ∃ u, w.cell? ⟨a.block, a.off + j, none⟩ = some u ∧ u.oneCell' = true ∧ Rep w I ρ x u) :
    ∃ us : List Value, RepL w I ρ cs us ∧ us.length = n ∧ (∀ v ∈ us, v.oneCell' = true) ∧ ∀ w' : World, w'.heap = w.heap → (loadCells a n).run P w' = .ok us.toArray w' := by
  obtain ⟨us, h1, h2⟩ := pick_cells (w := w) (I := I) (ρ := ρ) cs (fun j u => w.cell? ⟨a.block, a.off + j, none⟩ = some u ∧ u.oneCell' = true) (fun j x hx => by
    have hj := (List.getElem?_eq_some_iff.1 hx).1
    obtain ⟨u, q1, q2, q3⟩ := hc (by omega) j x hx
    exact ⟨u, ⟨q1, q2⟩, q3⟩)
  have hl : us.length = n := by rw [← hn]; exact h1.length.symm
  refine ⟨us, h1, hl, fun v hv => ?_, fun w' hw => ?_⟩
  · obtain ⟨j, hj⟩ := List.getElem?_of_mem hv
    exact (h2 j v hj).2
  · subst hl
    refine run_loadCells_list (P := P) w' a us fun j v hv => ?_
    rw [add_addr (hs fun h0 => by have := (List.getElem?_eq_some_iff.1 hv).1; omega)]
    have := (h2 j v hv).1
    simp only [World.cell?] at this ⊢
    rw [hw]; exact this
/-- What an append or a copy reads: the first m of n. -/
theorem src_first {es n m : Nat} {y : EV} {v : Value} {ys : List EV} (hs : HSim I w ρ h) (hr : Rep w I ρ y v) (hsrc : srcE stdA es h y = some (n, ys)) (hle : n * es ≤ ys.length) (hm : m ≤ n) :
    ys.length = n * es ∧ Builtin.lenOf v = Pure.pure n ∧
    ∃ us : List Value, RepL w I ρ (ys.take (m * es)) us ∧ us.length = m * es ∧ (∀ v ∈ us, v.oneCell' = true) ∧ ∀ w' : World, w'.heap = w.heap → (Builtin.firstCells es m v).run P w' = .ok us.toArray w' := by
  have hmn : m * es ≤ n * es := Nat.mul_le_mul_right _ hm
  unfold srcE at hsrc
  split at hsrc
  · cases hsrc; cases hr
    have : m = 0 := by omega
    subst this
    exact ⟨by simp, rfl, [], by simp [RepL], by simp, by simp, fun w' _ => rfl⟩
  · rename_i n' cap c
    cases hsrc
    cases hr with
    | isln _ _ =>
      have : m = 0 := by omega
      subst this
      exact ⟨by simp [stdA], rfl, [], by simp [RepL], by simp, by simp, fun w' _ => rfl⟩
    | isl _ _ _ _ ad k vs hcap hsp hc hv =>
      have hl : (stdA.tak (stdA.mul n es) c).length = n * es := by simp [stdA] at hle ⊢; omega
      have hl2 : ((stdA.tak (stdA.mul n es) c).take (m * es)).length = m * es := by rw [List.length_take, hl]; omega
      obtain ⟨us, q1, q2, q3, q4⟩ := loadCells_any (P := P) (w := w) (I := I) (ρ := ρ) (cs := (stdA.tak (stdA.mul n es) c).take (m * es)) (fun hn => hsp (by
        have := hcap.1
        rcases Nat.eq_zero_or_pos n with h0 | h0
        · subst h0
          have : m = 0 := by omega
          subst this; simp at hn
        · omega)) hl2 (fun hn j x hx => by
        have hk0 : k ≠ 0 := by
          have := hcap.1
          rcases Nat.eq_zero_or_pos n with h0 | h0
          · subst h0
            have : m = 0 := by omega
            subst this; simp at hn
          · omega
        rw [List.getElem?_take] at hx
        split at hx
        · simp only [stdA, List.getElem?_take] at hx
          split at hx
          · exact ⟨vs j, ((hc hk0).2 j x hx).1, ((hc hk0).2 j x hx).2, (hv hk0 j x hx).closed ρ⟩
          · cases hx
        · cases hx)
      exact ⟨hl, rfl, us, q1, q2, q3, q4⟩
  · rename_i es' id off n' cap
    split at hsrc
    case isFalse => cases hsrc
    rename_i hes
    subst hes
    split at hsrc
    · rename_i c hg
      cases hsrc
      cases hr with
      | sl _ _ _ _ _ _ ad k b o hb hcap hsp hf =>
        have hl : (stdA.tak (stdA.mul n es') (stdA.drp off c)).length = n * es' := by simp [stdA] at hle ⊢; omega
        have hl2 : ((stdA.tak (stdA.mul n es') (stdA.drp off c)).take (m * es')).length = m * es' := by rw [List.length_take, hl]; omega
        obtain ⟨b', o', hb', hcell⟩ := blk_cell hs hg
        rw [hb] at hb'; cases hb'
        obtain ⟨us, q1, q2, q3, q4⟩ := loadCells_any (P := P) (w := w) (I := I) (ρ := ρ) (cs := (stdA.tak (stdA.mul n es') (stdA.drp off c)).take (m * es')) (fun _ => hsp) hl2 (fun hn j x hx => by
          have hk0 : k ≠ 0 := by
            have := hcap.1
            rcases Nat.eq_zero_or_pos n with h0 | h0
            · subst h0
              have : m = 0 := by omega
              subst this; simp at hn
            · omega
          rw [List.getElem?_take] at hx
          split at hx
          · simp only [stdA, List.getElem?_take] at hx
            split at hx
            · rw [List.getElem?_drop] at hx
              obtain ⟨u, u1, u2, u3⟩ := hcell _ x hx
              rw [(hf hk0).1]
              exact ⟨u, by simpa [Nat.add_assoc] using u1, u2, u3⟩
            · cases hx
          · cases hx)
        exact ⟨hl, rfl, us, q1, q2, q3, q4⟩
    · rename_i s0 hg
      split at hsrc
      case isFalse => cases hsrc
      rename_i h1
      subst h1
      cases hsrc
      cases hr with
      | sl _ _ _ _ _ _ ad k b o hb hcap hsp hf =>
        have hl : (stdA.tak n (stdA.drp off (stdA.enc s0))).length = n * 1 := by
          have hle' : n * 1 ≤ (((stdA.enc s0).drop off).take n).length := hle
          show (((stdA.enc s0).drop off).take n).length = n * 1
          rw [List.length_take] at hle' ⊢
          omega
        have hl2 : ((stdA.tak n (stdA.drp off (stdA.enc s0))).take (m * 1)).length = m * 1 := by rw [List.length_take, hl]; omega
        obtain ⟨b', o', hb', hcell⟩ := row_cell hs hg
        rw [hb] at hb'; cases hb'
        obtain ⟨us, q1, q2, q3, q4⟩ := loadCells_any (P := P) (w := w) (I := I) (ρ := ρ) (cs := (stdA.tak n (stdA.drp off (stdA.enc s0))).take (m * 1)) (fun _ => hsp) hl2 (fun hn j x hx => by
          have hk0 : k ≠ 0 := by
            have := hcap.1
            rcases Nat.eq_zero_or_pos n with h0 | h0
            · subst h0
              have : m = 0 := by omega
              subst this; simp at hn
            · omega
          rw [List.getElem?_take] at hx
          split at hx
          · replace hx : (((stdA.enc s0).drop off).take n)[j]? = some x := hx
            rw [List.getElem?_take] at hx
            split at hx
            · rw [List.getElem?_drop] at hx
              obtain ⟨u, u1, u2, u3⟩ := hcell _ x hx
              rw [(hf hk0).1]
              exact ⟨u, by simpa [Nat.add_assoc] using u1, u2, u3⟩
            · cases hx
          · cases hx)
        exact ⟨hl, rfl, us, q1, q2, q3, q4⟩
    · cases hsrc
  · cases hsrc; cases hr
    have : m = 0 := by omega
    subst this
    exact ⟨by simp, rfl, [], by simp [RepL], by simp, by simp, fun w' _ => rfl⟩
  · rename_i s
    split at hsrc
    case isFalse => cases hsrc
    rename_i hes
    subst hes
    cases hsrc
    cases hr
    have hsz : s.data.toList.length = s.size := by simp
    refine ⟨by simp [stdA], rfl, (s.data.toList.map fun b => Value.int .u8 b.toNat).take m, ?_, by simp [stdA] at hm ⊢; omega, ?_, fun w' _ => ?_⟩
    · simp only [stdA]
      have : ∀ l : List UInt8, RepL w I ρ (l.map fun b => EV.lit (.int .u8 b.toNat)) (l.map fun b => Value.int .u8 b.toNat) := by
        intro l
        induction l with
        | nil => trivial
        | cons b l ih => exact ⟨.lit _ _, ih⟩
      have := (this s.data.toList).take m
      simpa using this
    · intro v hv
      obtain ⟨b, _, rfl⟩ := List.mem_map.1 (List.mem_of_mem_take hv)
      rfl
    · have hx : (s.extract 0 m).data = s.data.extract 0 m := by simp
      simp [Builtin.firstCells]
      apply Array.ext'
      simp
  · cases hsrc
/-- What an append reads. -/
theorem src_sound {es n : Nat} {y : EV} {v : Value} {ys : List EV} (hs : HSim I w ρ h) (hr : Rep w I ρ y v) (hsrc : srcE stdA es h y = some (n, ys)) (hle : n * es ≤ ys.length) :
    ys.length = n * es ∧ Builtin.lenOf v = Pure.pure n ∧
    ∃ us : List Value, RepL w I ρ ys us ∧ us.length = n * es ∧ (∀ v ∈ us, v.oneCell' = true) ∧ ∀ w' : World, w'.heap = w.heap → (Builtin.firstCells es n v).run P w' = .ok us.toArray w' := by
  obtain ⟨h1, h2, us, h3, h4, h5, h6⟩ := src_first (P := P) hs hr hsrc hle (Nat.le_refl n)
  rw [List.take_of_length_le (by omega)] at h3
  exact ⟨h1, h2, us, h3, h4, h5, h6⟩
/-- What the model's append asks of the types. -/
structure AppT (P : Program) (tys : Array TypeId) (e : TypeId) (es by_ : Nat) (z : Value) : Prop where
  t0 : ∃ t, tys[0]? = some t ∧ P.underlying t = some (.slice e)
  t1 : ∃ t, tys[1]? = some t ∧ ((∃ e', P.underlying t = some (.slice e')) ∨ P.underlying t = some .string)
  sz : szP P e = some es
  by' : byP P e = some by_
  ze : zeP P e = some z
  zs : z.cells.size = es
  es0 : es ≠ 0
  by0 : by_ ≠ 0
theorem AppT.info {P : Program} {tys : Array TypeId} {e : TypeId} {es by_ : Nat} {z : Value} (ht : AppT P tys e es by_ z) :
    ∃ i, P.info? e = some i ∧ i.size = es ∧ i.bytes = by_ ∧ i.zero = some z := by
  have h1 := ht.sz; have h2 := ht.by'; have h3 := ht.ze
  unfold szP at h1; unfold byP at h2; unfold zeP at h3
  cases hi : P.info? e with
  | none => simp [hi] at h1
  | some i => simp [hi] at h1 h2 h3; exact ⟨i, rfl, h1, h2, h3⟩
theorem run_append_in {tys : Array TypeId} {ty e : TypeId} {es by_ : Nat} {z : Value} (ht : AppT P tys e es by_ z) {base : Option Addr} {sLen sCap n : Nat} {v : Value} {us : List Value} {w' : World}
    (hn : Builtin.lenOf v = Pure.pure n) (hc : (Builtin.firstCells es n v).run P w = .ok us.toArray w) (hfit : sLen + n ≤ sCap)
    (hst : match base with | none => w' = w | some a => (storeCells (a.add (sLen * es)) us).run P w = .ok () w') :
    (Builtin.append_ tys ty #[.slice base sLen sCap, v]).run P w = .ok (.slice base (sLen + n) sCap) w' := by
  obtain ⟨t, ht0, hu0⟩ := ht.t0
  obtain ⟨t1, ht1, hd1⟩ := ht.t1
  have hsz := fun w => run_szP (P := P) ht.sz w
  cases base with
  | none =>
    subst hst
    rcases hd1 with ⟨e', hu1⟩ | hu1 <;> simp [Builtin.append_, ht0, ht1, run_underlying hu0, run_underlying hu1, hsz, hn, hc, hfit]
  | some a =>
    have hst' : (storeCells (a.add (sLen * es)) us).run P w = .ok () w' := hst
    rcases hd1 with ⟨e', hu1⟩ | hu1 <;> simp [Builtin.append_, ht0, ht1, run_underlying hu0, run_underlying hu1, hsz, hn, hc, hfit, hst']
theorem run_append_out {tys : Array TypeId} {ty e : TypeId} {es by_ : Nat} {z : Value} (ht : AppT P tys e es by_ z) {base : Option Addr} {sLen sCap n : Nat} {v : Value} {us os : List Value}
    (hn : Builtin.lenOf v = Pure.pure n) (hc : (Builtin.firstCells es n v).run P w.drew = .ok us.toArray w.drew)
    (ho : (Builtin.firstCells es sLen (.slice base sLen sCap)).run P w.drew = .ok os.toArray w.drew) (hfit : sCap < sLen + n)
    (h63 : sLen + n ≤ 9223372036854775807) (hb : (sLen + n) * by_ ≤ 140737488355328) :
    ∃ (k : Nat) (rest : List Value), sLen + n ≤ k ∧ rest.length = (k - (sLen + n)) * es ∧
      (Builtin.append_ tys ty #[.slice base sLen sCap, v]).run P w = .ok (.slice (some ⟨w.heap.size, 0, none⟩) (sLen + n) k) (w.drew.alloc (.cells (os ++ us ++ rest).toArray e)) := by
  obtain ⟨t, ht0, hu0⟩ := ht.t0
  obtain ⟨t1, ht1, hd1⟩ := ht.t1
  obtain ⟨i, hi, hi1, hi2, hi3⟩ := ht.info
  have hnot : ¬ (sLen + n ≤ sCap) := by omega
  have h63' : ¬ (9223372036854775807 < ((sLen : Int) + (n : Int))) := by omega
  have h48' : ¬ (281474976710656 < Builtin.nextslicecap (sLen + n) sCap * i.bytes) := by
    have := growslice_fits hfit (bytes := i.bytes) (by rw [hi2]; exact hb)
    omega
  refine ⟨grownCap w (sLen + n) sCap e, (Builtin.zeroCells z.cells (grownCap w (sLen + n) sCap e - (sLen + n))).toList, grownCap_ge _ _ _ _, by simp [Builtin.zeroCells, ht.zs], ?_⟩
  have hsz : i.size = es := hi1
  rcases hd1 with ⟨e', hu1⟩ | hu1 <;>
    (simp [Builtin.append_, ht0, ht1, run_underlying hu0, run_underlying hu1, sizeOf, typeInfo, zeroValue, hi, hsz, hi3, hn, hnot, h63', h48', Question.forced, hc, ho, newRow, grownCap]; congr 2; apply Array.ext'; simp [List.append_assoc])
/-- A block that is written is one of its own again, under a new number, from another place on. -/
theorem HSim.moved {w' : World} {id b o : Nat} (hs : HSim I w ρ h) (k : Keep I w w') (hl : getH h id ≠ .dead) (hr : ρ[id]? = some (b, o))
    (ho : ∀ b', b' ≠ b → w'.heap[b']? = w.heap[b']?) {o' : Nat} {eo : EO} (hnew : OS I w' (ρ ++ [(b, o')]) (sizeH h) eo) :
    HSim I w' (ρ ++ [(b, o')]) (pushH (setH h id .dead) eo) where
  len := by simp [hs.len, sizeH_push, sizeH_set]
  live i := by
    rcases Nat.lt_trichotomy i (sizeH h) with hlt | heq | hgt
    · rw [getH_push_lt _ eo i (by rw [sizeH_set]; exact hlt)]
      by_cases hi : i = id
      · subst hi; rw [getH_set_same h i _ hlt]; trivial
      · rw [getH_set_ne h id i _ hi]
        by_cases hd : getH h i = .dead
        · rw [hd]; trivial
        · refine OS.stays (hs.live i) k (fun _ _ x => getElem?_app x) fun b' o2 hb' => ho b' fun e => ?_
          subst e
          exact hi (hs.inj i id b' o2 o hd hl hb' hr)
    · subst heq
      have : getH (pushH (setH h id .dead) eo) (sizeH (setH h id .dead)) = eo := getH_push_at _ _
      rw [sizeH_set] at this
      rw [this]; exact hnew
    · rw [getH_push_ge _ eo i (by rw [sizeH_set]; exact hgt)]; trivial
  inj i j b' o1 o2 hi hj h1 h2 := by
    have old : ∀ m, getH (pushH (setH h id .dead) eo) m ≠ .dead → m < sizeH h → ∀ c q, (ρ ++ [(b, o')])[m]? = some (c, q) → m ≠ id ∧ ρ[m]? = some (c, q) ∧ getH h m ≠ .dead := by
      intro m hm hml c q hq
      rw [getH_push_lt _ eo m (by rw [sizeH_set]; exact hml)] at hm
      have hne : m ≠ id := by
        intro e; subst e
        rw [getH_set_same h m _ hml] at hm; exact hm rfl
      rw [getH_set_ne h id m _ hne] at hm
      rw [List.getElem?_append_left (by rw [hs.len]; exact hml)] at hq
      exact ⟨hne, hq, hm⟩
    have new : ∀ m, ¬ m < sizeH h → ∀ c q, (ρ ++ [(b, o')])[m]? = some (c, q) → m = sizeH h ∧ c = b := by
      intro m hm c q hq
      rw [List.getElem?_append_right (by rw [hs.len]; omega)] at hq
      have : m - ρ.length = 0 := by
        rcases Nat.eq_zero_or_pos (m - ρ.length) with h0 | h0
        · exact h0
        · rw [List.getElem?_eq_none (by simp; omega)] at hq; cases hq
      rw [this] at hq; simp at hq
      exact ⟨by have := hs.len; omega, hq.1.symm⟩
    by_cases hil : i < sizeH h <;> by_cases hjl : j < sizeH h
    · obtain ⟨_, a1, a2⟩ := old i hi hil b' o1 h1
      obtain ⟨_, b1, b2⟩ := old j hj hjl b' o2 h2
      exact hs.inj i j b' o1 o2 a2 b2 a1 b1
    · obtain ⟨a0, a1, a2⟩ := old i hi hil b' o1 h1
      have hb := (new j hjl b' o2 h2).2
      subst hb
      exact absurd (hs.inj i id b' o1 o a2 hl a1 hr) a0
    · obtain ⟨a0, a1, a2⟩ := old j hj hjl b' o2 h2
      have hb := (new i hil b' o1 h1).2
      subst hb
      exact absurd (hs.inj j id b' o2 o a2 hl a1 hr) a0
    · rw [(new i hil b' o1 h1).1, (new j hjl b' o2 h2).1]
theorem append_sound {tys : Array TypeId} {ty e : TypeId} {es by_ : Nat} {z : Value} (ht : AppT P tys e es by_ z) {x y : EV} {u v : Value} (hs : HSim I w ρ h) (hI : ∀ b, I b → b < w.heap.size)
    (hx : Rep w I ρ x u) (hy : Rep w I ρ y v) (ok : SROK post pc (appendE stdA es by_ x y h)) :
    Res I w ρ post pc (((Builtin.append_ tys ty #[u, v]).run P w).andThen fun a w' => .ok (.value a) w') := by
  unfold appendE at ok
  split at ok
  · exact ok.elim
  rename_i n ys hsrc
  obtain ⟨hle, ok⟩ := ok
  have hle' : n * es ≤ ys.length := by simpa [stdA] using hle
  obtain ⟨hysl, hlen, us, hru, hul, hone, hfc⟩ := src_sound (P := P) hs hy hsrc hle'
  -- the block that is made where the slice moves
  have grow : ∀ (h0 : EH), HSim I w ρ h0 → ∀ (base : Option Addr) (sLen sCap : Nat) (olds : List EV) (os : List Value), RepL w I ρ olds os → os.length = sLen * es → (∀ v ∈ os, v.oneCell' = true) →
      (Builtin.firstCells es sLen (.slice base sLen sCap)).run P w.drew = .ok os.toArray w.drew → sCap < sLen + n → stdA.room (sLen + n) by_ = true →
      post (.sl es (sizeH h0) 0 (sLen + n) none) (pushH h0 (.blk (olds ++ ys))) →
      Res I w ρ post pc (((Builtin.append_ tys ty #[.slice base sLen sCap, v]).run P w).andThen fun a w' => .ok (.value a) w') := by
    intro h0 hs0 base sLen sCap olds os hro hol hoo hofc hlt hroom hp
    have hroom' : (sLen + n) * by_ ≤ 140737488355328 ∧ sLen + n ≤ 9223372036854775807 := by simpa [stdA] using hroom
    obtain ⟨k, rest, hk, hrl, hrun⟩ := run_append_out (ty := ty) ht hlen (hfc w.drew rfl) hofc hlt hroom'.2 hroom'.1
    have hkd := Keep.drew I w
    refine .inl ⟨_, _, _, _, [(w.heap.size, 0)], .inl (by rw [hrun]; rfl), hp, hkd.trans (.alloc w.drew _ hI), hs0.drew.alloc hI _ _ ?_, ?_⟩
    · have hall : RepL w.drew I ρ (olds ++ ys) (os ++ us) := (hro.app hru).map fun _ _ r => r.keep hkd
      refine newBlk (n := 0) (w := w.drew) hs0.drew hI e (fun j q hq => ?_) (by rw [hall.length]; simp)
      obtain ⟨vv, v1, v2, v3⟩ := rows_of_RepL hall (fun vv hvv => by
        rcases List.mem_append.1 hvv with h1 | h1
        · exact hoo vv h1
        · exact hone vv h1) j q hq
      refine ⟨vv, ?_, v2, v3⟩
      simp only [List.getElem?_toArray]
      rw [List.getElem?_append_left (List.getElem?_eq_some_iff.1 v1).1]; exact v1
    · refine .sl _ _ _ _ _ _ _ k w.heap.size 0 (ren_last hs0 _) ⟨hk, fun q hq => by cases hq⟩ rfl fun _ => ⟨rfl, _, e, (0, 0), heap_alloc_at w.drew _, ?_⟩
      simp [hol, hul, hrl]
      have : sLen * es + (n * es + (k - (sLen + n)) * es) = k * es := by rw [← Nat.add_mul, ← Nat.add_mul]; congr 1; omega
      omega
  split at ok
  · -- nil
    cases hx
    obtain ⟨hroom, h1, h2⟩ := ok
    have e1 : stdA.isz n = (n == 0) := rfl
    by_cases h0 : n = 0
    · subst h0
      have hus : us = [] := List.length_eq_zero_iff.1 (by simpa using hul)
      have hrun := run_append_in (P := P) (w := w) (w' := w) (ty := ty) ht (base := none) (sLen := 0) (sCap := 0) hlen (hfc w rfl) (by omega) rfl
      exact Res.pure hs (v := .lit (.slice none 0 0)) (v' := .slice none 0 0) (by rw [hrun]; rfl) (h1 rfl) (.lit _ _)
    · have := grow h hs none 0 0 [] [] trivial (by simp) (by simp) rfl (by omega) (by simpa using hroom) (by simpa using h2 (by simp [e1, h0]))
      exact this
  · -- own
    rename_i es' id off len cap
    split at ok
    case isFalse => exact ok.elim
    rename_i hes
    subst hes
    cases hx with
    | sl _ _ _ _ _ _ ad k b o hb hcap hsp hf =>
    split at ok
    · -- of whatever room
      rename_i c hg
      obtain ⟨hlc, hroom, hp⟩ := ok
      have hlc' : off + len * es' ≤ c.length := by simpa [stdA] using hlc
      have holds : (stdA.tak (stdA.mul len es') (stdA.drp off c)).length = len * es' := by simp [stdA]; omega
      obtain ⟨b', o', hb', hcell⟩ := blk_cell hs hg
      rw [hb] at hb'; cases hb'
      obtain ⟨os, q1, q2, q3, q4⟩ := loadCells_any (P := P) (w := w) (I := I) (ρ := ρ) (cs := stdA.tak (stdA.mul len es') (stdA.drp off c)) (fun _ => hsp) holds (fun hn j x hx => by
        have hk0 : k ≠ 0 := by
          have := hcap.1
          rcases Nat.eq_zero_or_pos len with h0 | h0
          · subst h0; simp at hn
          · omega
        simp only [stdA, List.getElem?_take] at hx
        split at hx
        · rw [List.getElem?_drop] at hx
          obtain ⟨u, u1, u2, u3⟩ := hcell _ x hx
          rw [(hf hk0).1]
          exact ⟨u, by simpa [Nat.add_assoc] using u1, u2, u3⟩
        · cases hx)
      by_cases hfit : len + n ≤ k
      · -- there is room: the same block under a new number
        have hlive := hs.live id
        rw [hg] at hlive
        obtain ⟨b2, o2, cs, ety, fz, k1, k2, k3, k4, klen, k5⟩ := hlive
        rw [hb] at k1; cases k1
        by_cases hk0 : k = 0
        · have hn0 : n = 0 := by omega
          have hl0 : len = 0 := by omega
          subst hk0
          subst hn0
          subst hl0
          have hus : us = [] := List.length_eq_zero_iff.1 (by simpa using hul)
          subst hus
          have hrun := run_append_in (P := P) (w := w) (w' := w) (ty := ty) ht (base := some ad) (sLen := 0) (sCap := 0) hlen (hfc w rfl) (by omega) (by simp [storeCells])
          refine .inl ⟨_, _, _, _, [(b, o)], .inl (by rw [hrun]; rfl), hp, .refl I w, hs.moved (.refl I w) (by rw [hg]; simp) hb (fun _ _ => rfl) ?_, ?_⟩
          · refine ⟨b, o, cs, ety, fz, ren_last hs _, k2, k3, k4, ?_, fun j q hq => ?_⟩
            · have : ys = [] := List.length_eq_zero_iff.1 (by simpa using hysl)
              simp [stdA, this]; omega
            · have : ys = [] := List.length_eq_zero_iff.1 (by simpa using hysl)
              simp [stdA, this] at hq
          · have e0 : sizeH h = sizeH (setH h id .dead) := (sizeH_set _ _ _).symm
            exact .sl _ _ _ _ _ _ ad 0 b o (ren_last hs _) ⟨by simp [stdA], fun q hq => by cases hq⟩ hsp (fun hne => absurd rfl hne)
        · obtain ⟨rfl, cs', ety', fz', hcs', hfits⟩ := hf hk0
          rw [k3] at hcs'; cases hcs'
          have hmul : (len + n) * es' ≤ k * es' := Nat.mul_le_mul_right _ hfit
          rw [Nat.add_mul] at hmul
          have hst := storeCells_run (P := P) b (o + off + len * es') ety fz us 0 cs w k3 k4 (by rw [hul]; omega) hone
          simp only [Nat.add_zero, hul] at hst
          have hrun := run_append_in (P := P) (w := w) (ty := ty) ht (base := some ⟨b, o + off, none⟩) (sLen := len) (sCap := k) hlen (hfc w rfl) hfit (by
            show (storeCells ((⟨b, o + off, none⟩ : Addr).add (len * es')) us).run P w = .ok () _
            rw [add_none]; exact hst)
          have hnsz : (cs.toList.take (o + off + len * es') ++ us ++ cs.toList.drop (o + off + len * es' + n * es')).toArray.size = cs.size := by simp [hul]; omega
          have hkeep : Keep I w (w.setRow b (cs.toList.take (o + off + len * es') ++ us ++ cs.toList.drop (o + off + len * es' + n * es')).toArray) := Keep.setRow k3 k2 hnsz
          refine .inl ⟨_, _, _, _, [(b, o + off)], .inl (by rw [hrun]; rfl), hp, hkeep, hs.moved hkeep (by rw [hg]; simp) hb (fun b' hb' => setRow_other w b b' _ hb') ?_, ?_⟩
          · refine ⟨b, o + off, _, ety, fz, ren_last hs _, k2, setRow_heap w b cs _ ety fz k3, by rw [hnsz]; exact k4, ?_, fun j q hq => ?_⟩
            · rw [hnsz]
              have : (stdA.app (stdA.tak (stdA.mul len es') (stdA.drp off c)) ys).length = len * es' + n * es' := by
                show (stdA.tak (stdA.mul len es') (stdA.drp off c) ++ ys).length = _
                rw [List.length_append, holds, hysl]
              omega
            · have hall := q1.app hru
              have hq' : (stdA.tak (stdA.mul len es') (stdA.drp off c) ++ ys)[j]? = some q := hq
              obtain ⟨vv, v1, v2, v3⟩ := rows_of_RepL hall (fun vv hvv => by
                rcases List.mem_append.1 hvv with h1 | h1
                · exact q3 vv h1
                · exact hone vv h1) j q hq'
              refine ⟨vv, ?_, v2, (v3.keep hkeep).ext _⟩
              simp only [List.getElem?_toArray]
              rcases Nat.lt_or_ge j (len * es') with hj | hj
              · rw [List.getElem?_append_left (by rw [q2]; exact hj)] at v1
                rw [List.append_assoc, List.getElem?_append_left (by simp; omega), List.getElem?_take, if_pos (by omega)]
                -- the old cells
                have hq2 : c[off + j]? = some q := by
                  rw [List.getElem?_append_left (by rw [holds]; exact hj)] at hq'
                  have hq3 : ((c.drop off).take (len * es'))[j]? = some q := hq'
                  rw [List.getElem?_take, if_pos hj, List.getElem?_drop] at hq3
                  exact hq3
                have hcellw : w.cell? ⟨b, o + off + j, none⟩ = some vv := by
                  have hl4 := q4 w rfl
                  have hx4 := loadCells_run (P := P) (w := w) (I := I) (ρ := ρ) (b := b) (o := o + off) q1 (us := os) (fun j' u' hu' => by
                    obtain ⟨us2, r1, r2⟩ := pick_cells (w := w) (I := I) (ρ := ρ) (stdA.tak (stdA.mul len es') (stdA.drp off c)) (fun j u => w.cell? ⟨b, o + off + j, none⟩ = some u) (fun j'' x'' hx'' => by
                      simp only [stdA, List.getElem?_take] at hx''
                      split at hx''
                      · rw [List.getElem?_drop] at hx''
                        obtain ⟨u, u1, u2, u3⟩ := hcell _ x'' hx''
                        exact ⟨u, by simpa [Nat.add_assoc] using u1, u3⟩
                      · cases hx'')
                    have e2 := loadCells_run (P := P) r1 r2 (n := len * es') holds
                    rw [hl4] at e2
                    injection e2 with e2 _
                    have e3 : os = us2 := by simpa using e2
                    rw [e3] at hu'
                    exact r2 j' u' hu') (n := len * es') holds
                  obtain ⟨us2, r1, r2⟩ := pick_cells (w := w) (I := I) (ρ := ρ) (stdA.tak (stdA.mul len es') (stdA.drp off c)) (fun j u => w.cell? ⟨b, o + off + j, none⟩ = some u) (fun j'' x'' hx'' => by
                    simp only [stdA, List.getElem?_take] at hx''
                    split at hx''
                    · rw [List.getElem?_drop] at hx''
                      obtain ⟨u, u1, u2, u3⟩ := hcell _ x'' hx''
                      exact ⟨u, by simpa [Nat.add_assoc] using u1, u3⟩
                    · cases hx'')
                  have e2 := loadCells_run (P := P) r1 r2 (n := len * es') holds
                  rw [hl4] at e2
                  injection e2 with e2 _
                  have e3 : os = us2 := by simpa using e2
                  rw [e3] at v1
                  exact r2 j vv v1
                simpa [World.cell?, k3] using hcellw
              · rw [List.getElem?_append_right (by rw [q2]; exact hj), q2] at v1
                have hjn : j - len * es' < n * es' := by rw [← hul]; exact (List.getElem?_eq_some_iff.1 v1).1
                rw [List.append_assoc, List.getElem?_append_right (by simp; omega), List.getElem?_append_left (by simp [hul]; omega)]
                rw [← v1]; congr 1
                simp; omega
          · refine .sl _ _ _ _ _ _ _ k b (o + off) (ren_last hs _) ⟨hfit, fun q hq => by cases hq⟩ rfl fun _ => ⟨rfl, _, ety, fz, setRow_heap w b cs _ ety fz k3, ?_⟩
            rw [hnsz]; exact hfits
      · have hsd : sizeH (setH h id .dead) = sizeH h := sizeH_set _ _ _
        have := grow (setH h id .dead) (hs.kill id) (some ad) len k _ os q1 q2 q3 (q4 w.drew rfl) (by omega) hroom (by rw [hsd]; exact hp)
        exact this
    · -- of a room that is known
      rename_i c m hg
      obtain ⟨hlc, hlm, hroom, h1, h2⟩ := ok
      have hlc' : off + m * es' ≤ c.length := by simpa [stdA] using hlc
      have hlm' : len ≤ m := by simpa [stdA] using hlm
      have hkm : k = m := hcap.2 m rfl
      subst hkm
      have hlenk : len * es' ≤ k * es' := Nat.mul_le_mul_right _ hlm'
      have holds : (stdA.tak (stdA.mul len es') (stdA.drp off c)).length = len * es' := by simp [stdA]; omega
      obtain ⟨b', o', hb', hcell⟩ := blk_cell hs hg
      rw [hb] at hb'; cases hb'
      by_cases hfit : len + n ≤ k
      · have hp := h1 (by simpa [stdA] using hfit)
        have hlive := hs.live id
        rw [hg] at hlive
        obtain ⟨b2, o2, cs, ety, fz, k1, k2, k3, k4, klen, k5⟩ := hlive
        rw [hb] at k1; cases k1
        have hmul : (len + n) * es' ≤ k * es' := Nat.mul_le_mul_right _ hfit
        rw [Nat.add_mul] at hmul
        have hsl := setl_spec c (off + len * es') ys (by rw [hysl]; omega)
        rw [hysl] at hsl
        obtain ⟨w', hw'⟩ : ∃ w', w' = w.setRow b (cs.toList.take (o + (off + len * es')) ++ us ++ cs.toList.drop (o + (off + len * es') + us.length)).toArray := ⟨_, rfl⟩
        obtain ⟨hk, hsim⟩ := write_blk (off := off + len * es') (c' := stdA.setl c (off + len * es') ys) hs hg hb k3 (vs := us) (by rw [hul]; omega)
          (by simp [stdA, hysl]; omega) hone w' hw' (fun j q hq hj => by rw [← hsl.1 j (by rw [hul] at hj; exact hj)]; exact hq)
          (fun j q vv hq hvv => by
            have hj : j < n * es' := by rw [← hul]; exact (List.getElem?_eq_some_iff.1 hvv).1
            rw [hsl.2 j hj] at hq
            exact hru.at j q vv hq hvv)
        have hst : match (some ad : Option Addr) with | none => w' = w | some a => (storeCells (a.add (len * es')) us).run P w = .ok () w' := by
          show (storeCells (ad.add (len * es')) us).run P w = .ok () w'
          by_cases hk0 : k = 0
          · have hn0 : n = 0 := by omega
            subst hn0
            have hus : us = [] := List.length_eq_zero_iff.1 (by simpa using hul)
            subst hus
            rw [hw']
            simp only [List.append_nil, List.length_nil, Nat.add_zero, List.take_append_drop, Array.toArray_toList, setRow_self w b cs ety fz k3]
            rfl
          · rw [(hf hk0).1, add_none, hw']
            have := storeCells_run (P := P) b (o + off + len * es') ety fz us 0 cs w k3 k4 (by rw [hul]; omega) hone
            simpa [Nat.add_assoc] using this
        have hrun := run_append_in (P := P) (w := w) (ty := ty) ht (base := some ad) (sLen := len) (sCap := k) hlen (hfc w rfl) hfit hst
        refine .inl ⟨_, _, _, _, [], .inl (by rw [hrun]; rfl), hp, hk, by rw [List.append_nil]; exact hsim, ?_⟩
        simp only [List.append_nil]
        refine .sl _ _ _ _ _ _ ad k b o hb ⟨hfit, fun q hq => by cases hq; rfl⟩ hsp fun hne => ⟨(hf hne).1, hk.fits (hf hne).2⟩
      · have hp := h2 (by simp [stdA]; omega)
        obtain ⟨os, q1, q2, q3, q4⟩ := loadCells_any (P := P) (w := w) (I := I) (ρ := ρ) (cs := stdA.tak (stdA.mul len es') (stdA.drp off c)) (fun _ => hsp) holds (fun hn j x hx => by
          have hk0 : k ≠ 0 := by
            rcases Nat.eq_zero_or_pos len with h0 | h0
            · subst h0; simp at hn
            · omega
          simp only [stdA, List.getElem?_take] at hx
          split at hx
          · rw [List.getElem?_drop] at hx
            obtain ⟨u, u1, u2, u3⟩ := hcell _ x hx
            rw [(hf hk0).1]
            exact ⟨u, by simpa [Nat.add_assoc] using u1, u2, u3⟩
          · cases hx)
        exact grow h hs (some ad) len k _ os q1 q2 q3 (q4 w.drew rfl) (by omega) hroom hp
    · exact ok.elim
  · -- immutable, its room known
    rename_i len m c
    cases hx with
    | isl _ _ _ _ ad k vs hcap hsp hc hv =>
      obtain ⟨hlc, hroom, hno, hp⟩ := ok
      have hlc' : len * es ≤ c.length := by simpa [stdA] using hlc
      have hno' : ¬ (len + n ≤ m) := by simpa [stdA] using hno
      have hkm : k = m := hcap.2 m rfl
      have holds : (stdA.tak (stdA.mul len es) c).length = len * es := by simp [stdA]; omega
      obtain ⟨os, q1, q2, q3, q4⟩ := loadCells_any (P := P) (w := w) (I := I) (ρ := ρ) (cs := stdA.tak (stdA.mul len es) c) (fun hn => hsp (by
        have := hcap.1
        rcases Nat.eq_zero_or_pos len with h0 | h0
        · subst h0; simp at hn
        · omega)) holds (fun hn j x hx => by
        have hk0 : k ≠ 0 := by
          have := hcap.1
          rcases Nat.eq_zero_or_pos len with h0 | h0
          · subst h0; simp at hn
          · omega
        simp only [stdA, List.getElem?_take] at hx
        split at hx
        · exact ⟨vs j, ((hc hk0).2 j x hx).1, ((hc hk0).2 j x hx).2, (hv hk0 j x hx).closed ρ⟩
        · cases hx)
      exact grow h hs (some ad) len k _ os q1 q2 q3 (q4 w.drew rfl) (by omega) hroom hp
  · exact ok.elim
end
end Go.Proofs.YtpgeonghlabnhaaGreatDoor.Em
