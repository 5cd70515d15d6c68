/- Em19: regions that draw their order are sound: 'draw_sound'. No condition but that the program follows the row of mixed orders. -/
import Derived.Test.YtpgeonghlabnhaaGreatDoorEm18
set_option linter.unusedVariables false
set_option linter.unusedSimpArgs false
namespace Go.Proofs.YtpgeonghlabnhaaGreatDoor.Em
open Go
section
variable {P : Program} {PH : EV → EH → Prop} {G : List (List EV)} {bf : Array Nat} {es : List EOp} {n : Nat} {ops : Array Oper}
/-- Where a region stands: what was reckoned ahead, and what is left of the one order. -/
structure DI (P : Program) (G : List (List EV)) (PH : EV → EH → Prop) (bf : Array Nat) (es : List EOp) (n : Nat) (K : St → Prop) (t : List EV) (h : EH) (pend : List (Nat × EV)) (back ordR als : List Nat) : Prop where
  pd : PendOK G es n t h pend
  quiet : ∀ p ∈ pend, isX (nthO es p.1).i = false
  sub : (pend.map (·.1)).Sublist back.reverse
  rest : ∃ tc l, TE tc (foldP es t pend) ∧ emitX bf es als back ordR = some l ∧ SeqOK P G (fun v s => PH v s.h) l ⟨tc, h⟩ K
/-- What is quiet at the head of what is left is reckoned ahead. -/
theorem DI.advance {K : St → Prop} {als : List Nat} {t : List EV} {h : EH} : ∀ {ordR back : List Nat} {pend : List (Nat × EV)}, DI P G PH bf es n K t h pend back ordR als →
    ∃ pend' back' ordR', pend'.map (·.1) ++ ordR' = pend.map (·.1) ++ ordR ∧ DI P G PH bf es n K t h pend' back' ordR' als ∧ ∀ x l, ordR' = x :: l → isX (nthO es x).i = true
  | [], back, pend, d => ⟨pend, back, [], rfl, d, fun x l hx => by cases hx⟩
  | i :: l, back, pend, d => by
    cases hx : isX (nthO es i).i with
    | true => exact ⟨pend, back, i :: l, rfl, d, fun x l' he => by cases he; exact hx⟩
    | false =>
      obtain ⟨pd, quiet, sub, tc, el, e1, e2, e3⟩ := d
      simp only [emitX, hx, Bool.false_eq_true, if_false] at e2
      cases hr : emitX bf es als (i :: back) l with
      | none => simp [hr] at e2
      | some rest =>
        simp [hr] at e2
        subst e2
        obtain ⟨t', V, k1, k2, k3⟩ := SeqOK.quiet hx e3 n
        have d' : DI P G PH bf es n K t h (pend ++ [(i, V)]) (i :: back) l als := by
          refine ⟨PendOK.app pd ⟨⟨t', k1.trans e1, k2⟩, trivial⟩, fun p hp => ?_, ?_, putT t' (nthO es i).dst V, rest, ?_, hr, k3⟩
          · rcases List.mem_append.1 hp with hp | hp
            · exact quiet p hp
            · simp at hp; subst hp; exact hx
          · simp only [List.map_append, List.map_cons, List.map_nil, List.reverse_cons]
            exact sub.append (List.Sublist.refl _)
          · rw [foldP_app]
            exact (k1.trans e1).put (VE.refl _ _ _)
        obtain ⟨p', b', o', q1, q2, q3⟩ := DI.advance d'
        exact ⟨p', b', o', by rw [q1]; simp, q2, q3⟩
/-- What looks at nothing that was reckoned ahead sees what stands. -/
theorem unfold_te {x : EOp} : ∀ {pend : List (Nat × EV)} {t t' : List EV}, (∀ p ∈ pend, touches (nthO es p.1) x = false) → TE t' (foldP es t pend) →
    ∃ ti, TE ti t ∧ ∀ d, looksAtE d x = true → getT ti d = getT t' d
  | [], t, t', _, h => ⟨t', h, fun _ _ => rfl⟩
  | (i, V) :: l, t, t', hp, h => by
    obtain ⟨ti, k1, k2⟩ := unfold_te (pend := l) (t := putT t (nthO es i).dst V) (fun p hq => hp p (by simp [hq])) h
    exact ⟨backT ti t (nthO es i).dst, backT_te k1, fun d hd => (backT_get (hp (i, V) (by simp)) ti t d hd).trans (k2 d hd)⟩
theorem foldP_get {x : EOp} {d : Nat} (hd : looksAtE d x = true) : ∀ {l : List (Nat × EV)} {t : List EV}, (∀ p ∈ l, touches (nthO es p.1) x = false) → getT (foldP es t l) d = getT t d
  | [], _, _ => rfl
  | (i, V) :: l, t, h => by
    simp only [foldP]
    rw [foldP_get hd (l := l) fun p hp => h p (by simp [hp]), touch_get (h (i, V) (by simp)) t V d hd]
theorem foldP_dst {x : EOp} {d : Nat} (hd : x.dst = some d) : ∀ {l : List (Nat × EV)} {t : List EV}, (∀ p ∈ l, sameDst x (nthO es p.1) = false) → getT (foldP es t l) d = getT t d
  | [], _, _ => rfl
  | (i, V) :: l, t, h => by
    simp only [foldP]
    rw [foldP_dst hd (l := l) fun p hp => h p (by simp [hp])]
    have := h (i, V) (by simp)
    unfold sameDst at this
    rw [hd] at this
    cases he : (nthO es i).dst with
    | none => rfl
    | some e =>
      simp only [he] at this
      exact getT_setT_ne t e d V fun hed => by subst hed; simp at this
theorem getT_setT_lt : ∀ (t : List EV) (d : Nat) (v : EV), d < t.length → getT (setT t d v) d = v
  | [], d, v, h => by simp at h
  | _ :: t, 0, v, _ => rfl
  | _ :: t, d + 1, v, h => getT_setT_lt t d v (by simpa using h)
variable {ro : Option Nat} {I0 : Imm} {ρ0 : Ren} {w0 : World} {Φ : Exit → Act → World → Prop}
/-- An operation whose value is known is carried out, or passed over. -/
theorem evq_wp {j : Nat} {o : Oper} {eo : EOp} {t : List EV} {h : EH} {a : Act} {w : World} {V : EV} {next : Act → World → Prop} (ho : ops[j]? = some o) (hc : compOper P ops o = some eo)
    (hs : SimX P G I0 ρ0 w0 ⟨t, h⟩ a w) (hq : EvQ G eo t h t.length V) (hnext : ∀ a' w', SimX P G I0 ρ0 w0 ⟨putT t eo.dst V, h⟩ a' w' → next a' w') : wpOpIn (FR ro) 0 P ops Φ j next a w := by
  obtain ⟨ti, e1, e2⟩ := hq
  have hs' := hs.bool e1.symm
  obtain ⟨c1, c2, c3, c4⟩ := wanted_of hc hs'
  have go : GoTo G eo ti h t.length V → o.wpIn (FR ro) 0 P a w next Φ := fun hg => by
    refine oper_sound (Pn := fun _ _ => False) (pc := fun _ _ => False) c1 hs' (SROK.mono (fun v h' hv => hv) (fun f l hf => hf.elim) hg) (fun _ _ hv => hv.elim) (fun v h' hv a' w' hx => ?_) (fun v h' hv => hv.elim)
    obtain ⟨hv1, rfl⟩ := hv
    rw [← c2] at hx
    exact hnext a' w' (hx.bool (e1.put (by rw [e1.length]; exact hv1)))
  have skip : VE t.length eo.dst undefE V → next (a.put o.dst undef) w := fun hv => by
    have hx := skip_sound eo.dst hs'
    rw [← c2]
    exact hnext _ _ (hx.bool (e1.put (by rw [e1.length]; exact hv)))
  unfold wpOpIn
  simp only [ho]
  unfold EvalTo at e2
  split at e2
  · rename_i hg
    rw [c3 hg]
    exact (go e2)
  · rename_i g want hg
    obtain ⟨c, hcv, e3⟩ := e2
    rw [c4 g want c hg hcv]
    cases hw : (c == some want) with
    | true => rw [hw] at e3; exact (go (by simpa using e3))
    | false => rw [hw] at e3; exact ⟨fun _ _ => trivial, skip (by simpa using e3)⟩
/-- Behind an operation that writes: what was reckoned ahead still stands. -/
theorem DI.wrote {K : St → Prop} {als : List Nat} {t t' : List EV} {h h' : EH} {pend : List (Nat × EV)} {back l : List Nat} {x : Nat} {v : EV} {ag rest : List EOp} (hn : t.length = n)
    (hp : PendOK G es n t h pend) (hq : ∀ p ∈ pend, isX (nthO es p.1).i = false) (hsub : (pend.map (·.1)).Sublist back.reverse)
    (hpx : ∀ p ∈ pend, sameDst (nthO es x) (nthO es p.1) = false ∧ touches (nthO es x) (nthO es p.1) = false ∧ bitB bf x p.1 = false)
    (hpp : (pend.map (·.1)).Pairwise fun p q => pairOk bf es p q = true)
    (hte : TE t' (foldP es t pend)) (hag : againsX bf es x [] back = some ag) (hrest : emitX bf es als back l = some rest)
    (hs : SeqOK P G (fun v s => PH v s.h) (ag ++ rest) ⟨putT t' (nthO es x).dst v, h'⟩ K) : DI P G PH bf es n K (putT t (nthO es x).dst v) h' pend back l als := by
  obtain ⟨tq, q1, q2, q3⟩ := agains_run (n := n) back [] ag _ hag hs
  have hfold : foldP es (putT t (nthO es x).dst v) pend = putT (foldP es t pend) (nthO es x).dst v := foldP_put fun p hp => (hpx p hp).1
  have hte2 : TE (putT t' (nthO es x).dst v) (foldP es (putT t (nthO es x).dst v) pend) := by rw [hfold]; exact hte.put (VE.refl _ _ _)
  have hp1 := PendOK.put (n := n) (x := nthO es x) (e := v) (fun p hh => ⟨(hpx p hh).1, (hpx p hh).2.1⟩) hp
  refine ⟨PendOK.heap hq (fun l1 r V l2 hl hrd he => ?_) hp1, hq, hsub, tq, rest, q1.trans hte2, hrest, q2⟩
  have hmap : pend.map (·.1) = l1.map (·.1) ++ r :: l2.map (·.1) := by rw [hl]; simp
  have hrev : ((l2.map (·.1)).reverse ++ r :: (l1.map (·.1)).reverse).Sublist back := by
    have := hsub.reverse
    rw [hmap] at this
    simpa using this
  obtain ⟨r1, r2, hb, s1, s2⟩ := List.append_sublist_iff.1 hrev
  obtain ⟨r3, r4, hb2, s3, s4⟩ := List.cons_sublist_iff.1 s2
  obtain ⟨r5, r6, hb3⟩ := List.append_of_mem s3
  obtain ⟨a1, a2, a3, _⟩ := q3 (r1 ++ r5) r (r6 ++ r4) (by rw [hb, hb2, hb3]; simp) hrd (hpx (r, V) (by rw [hl]; simp)).2.2
  have hl2 : ∀ p ∈ l2, touches (nthO es p.1) (nthO es r) = false := fun p hp2 => a3 p.1 (by
    have : p.1 ∈ (l2.map (·.1)).reverse := by simp; exact ⟨p.2, hp2⟩
    simp [s1.subset this])
  have hsd : ∀ p ∈ l2, sameDst (nthO es r) (nthO es p.1) = false := fun p hp2 => by
    rw [hmap, List.pairwise_append] at hpp
    have := (List.pairwise_cons.1 hpp.2.1).1 p.1 (by simp; exact ⟨p.2, hp2⟩)
    exact (pairOk_spec this).2.2.2.1
  have hfull : foldP es (putT t (nthO es x).dst v) pend = foldP es (putT (foldP es (putT t (nthO es x).dst v) l1) (nthO es r).dst V) l2 := by
    rw [hl, foldP_app]; rfl
  refine a1 h V _ (fun d hd => ?_) (fun d hd hdn => ?_) he
  · rw [hte2.get d, hfull, foldP_get hd hl2, touch_get a2 _ V d hd]
  · rw [hte2.get d, hfull, foldP_dst hd hsd, hd]
    change toB (getT (setT _ d V) d) = toB V
    rw [getT_setT_lt _ d V (by rw [foldP_length, putT_length, hn]; exact hdn)]
/-- What is asked of the variables. -/
def AlP (bf : Array Nat) (es : List EOp) (n : Nat) (i : Nat) : Prop :=
  isAl (nthO es i) = true ∧ ∀ j, j < n → j ≠ i → sameDst (nthO es i) (nthO es j) = false ∧
    (touches (nthO es i) (nthO es j) = true → isX (nthO es j).i = true ∧ isAl (nthO es j) = false ∧ bitB bf j i = true)
theorem alOk_spec {i N : Nat} (h1 : isAl (nthO es i) = true) (h : alOk bf es N i = true) : AlP bf es N i := by
  refine ⟨h1, fun j hj hne => ?_⟩
  have := List.all_eq_true.1 h j (List.mem_range.2 hj)
  simp only [Bool.or_eq_true, beq_iff_eq, Bool.and_eq_true, Bool.not_eq_true'] at this
  rcases this with this | ⟨h2, h3⟩
  · exact absurd this.symm hne
  · refine ⟨h2, fun ht => ?_⟩
    rcases h3 with h3 | h3
    · rw [ht] at h3; cases h3
    · exact ⟨h3.1.1, h3.1.2, h3.2⟩
/-- The one order makes variables that the model has made. -/
theorem al_run {K : St → Prop} {l : List EOp} {pend : List (Nat × EV)} {a : Act} {w : World} (hq : ∀ p ∈ pend, isX (nthO es p.1).i = false) : ∀ (m : List Nat) (E : List (Nat × EV)) (t tc : List EV) (h : EH),
    (∀ i ∈ m, isAl (nthO es i) = true) → m.Nodup → (∀ i ∈ m, ∃ V, (i, V) ∈ E) → (E.map (·.1)).Nodup → (∀ i ∈ m, ∀ p ∈ E, p.1 ≠ i → sameDst (nthO es i) (nthO es p.1) = false) →
    (∀ i ∈ m, ∀ p ∈ pend, sameDst (nthO es i) (nthO es p.1) = false ∧ touches (nthO es i) (nthO es p.1) = false) → SE P G es I0 ρ0 w0 E t h a w → t.length = n → PendOK G es n t h pend → TE tc (foldP es t pend) →
    SeqOK P G (fun v s => PH v s.h) (m.map (nthO es) ++ l) ⟨tc, h⟩ K →
    ∃ E' t' tc' h', SE P G es I0 ρ0 w0 E' t' h' a w ∧ t'.length = n ∧ PendOK G es n t' h' pend ∧ TE tc' (foldP es t' pend) ∧ SeqOK P G (fun v s => PH v s.h) l ⟨tc', h'⟩ K ∧ (∀ p, p ∈ E' ↔ p ∈ E ∧ p.1 ∉ m) ∧ (E'.map (·.1)).Nodup
  | [], E, t, tc, h, _, _, _, hn, _, _, hs, hl, hp, hte, hseq => ⟨E, t, tc, h, hs, hl, hp, hte, hseq, fun p => by simp, hn⟩
  | i :: m, E, t, tc, h, hal, hm, hE, hn, hsd, hpd, hs, hl, hp, hte, hseq => by
    obtain ⟨V, hV⟩ := hE i (by simp)
    obtain ⟨E1, E2, rfl⟩ := List.append_of_mem hV
    obtain ⟨z, d, hz1, hz2, hz3, hone⟩ := isAl_spec (hal i (by simp))
    obtain ⟨him, hm'⟩ := List.nodup_cons.1 hm
    have hmap : ((E1 ++ (i, V) :: E2).map (·.1)) = E1.map (·.1) ++ i :: E2.map (·.1) := by simp
    have hn' := hn
    rw [hmap, List.nodup_append, List.nodup_cons] at hn'
    obtain ⟨n1, ⟨n2, n3⟩, n4⟩ := hn'
    have hne : ∀ p ∈ E1 ++ E2, p.1 ≠ i := fun p hp2 e => by
      rcases List.mem_append.1 hp2 with hp2 | hp2
      · exact n4 p.1 (List.mem_map.2 ⟨p, hp2, rfl⟩) i (by simp) e
      · exact n2 (List.mem_map.2 ⟨p, hp2, e⟩)
    have hsub : ∀ p ∈ E1 ++ E2, p ∈ E1 ++ (i, V) :: E2 := fun p hp2 => by
      rcases List.mem_append.1 hp2 with hp2 | hp2 <;> simp [hp2]
    have hs1 := hs.take (fun p hp2 => hsd i (by simp) p (hsub p hp2) (hne p hp2)) hz1
    have hstep : SeqOK P G (fun v s => PH v s.h) (m.map (nthO es) ++ l) ⟨putT tc (nthO es i).dst (.ptr (sizeH h) 0), pushH h (.blk (litL z))⟩ K := by
      simp only [List.map_cons, List.cons_append, SeqOK, hz2, hz1, stepI, boxE, cellsE, hone, if_true, SROK] at hseq
      exact hseq
    have hp1 : PendOK G es n (putT t (nthO es i).dst (.ptr (sizeH h) 0)) (pushH h (.blk (litL z))) pend :=
      PendOK.heap hq (fun l1 r U l2 hl2 hrd he => he.push (hq (r, U) (by rw [hl2]; simp)) hrd _) (PendOK.put (fun p hp2 => hpd i (by simp) p hp2) hp)
    have hte1 : TE (putT tc (nthO es i).dst (.ptr (sizeH h) 0)) (foldP es (putT t (nthO es i).dst (.ptr (sizeH h) 0)) pend) := by
      rw [foldP_put fun p hp2 => (hpd i (by simp) p hp2).1]
      exact hte.put (VE.refl _ _ _)
    obtain ⟨E', t', tc', h', q1, q2, q3, q4, q5, q6, q7⟩ := al_run hq m (E1 ++ E2) _ _ _ (fun k hk => hal k (by simp [hk])) hm' (fun k hk => by
        obtain ⟨U, hU⟩ := hE k (by simp [hk])
        refine ⟨U, ?_⟩
        rcases List.mem_append.1 hU with hU | hU
        · simp [hU]
        · rcases List.mem_cons.1 hU with hU | hU
          · cases hU; exact absurd hk him
          · simp [hU])
      (by rw [List.map_append]; exact List.nodup_append.2 ⟨n1, n3, fun x hx y hy => n4 x hx y (by simp [hy])⟩)
      (fun k hk p hp2 => hsd k (by simp [hk]) p (hsub p hp2)) (fun k hk => hpd k (by simp [hk])) hs1 (by rw [putT_length]; exact hl) hp1 hte1 hstep
    refine ⟨E', t', tc', h', q1, q2, q3, q4, q5, fun p => ?_, q7⟩
    rw [q6 p]
    constructor
    · rintro ⟨k1, k2⟩
      exact ⟨hsub p k1, by simp; exact ⟨hne p k1, k2⟩⟩
    · rintro ⟨k1, k2⟩
      simp at k2
      refine ⟨?_, k2.2⟩
      rcases List.mem_append.1 k1 with k1 | k1
      · simp [k1]
      · rcases List.mem_cons.1 k1 with k1 | k1
        · exact absurd (by rw [k1]) k2.1
        · simp [k1]
theorem swapE_spec {p q : Nat} (h : swapE es p q = true) : ∃ n x v m y u, nthO es p = ⟨none, .store n x v, none⟩ ∧ nthO es q = ⟨none, .store m y u, none⟩ ∧ apartO es p q = [⟨none, .apart x y, none⟩] := by
  unfold swapE at h
  split at h
  · rename_i n x v m y u h1 h2
    exact ⟨n, x, v, m, y, u, h1, h2, by unfold apartO; rw [h1, h2]⟩
  · cases h
theorem setH_comm : ∀ (h : EH) (i j : Nat) (x y : EO), i ≠ j → setH (setH h i x) j y = setH (setH h j y) i x
  | [], _, _, _, _, _ => rfl
  | _ :: _, 0, 0, _, _, hn => absurd rfl hn
  | _ :: _, 0, j + 1, _, _, _ => rfl
  | _ :: _, i + 1, 0, _, _, _ => rfl
  | o :: h, i + 1, j + 1, x, y, hn => by simp [setH, setH_comm h i j x y (by omega)]
/-- A write's outcome hangs on the block that it writes. -/
theorem storeE_at {n : Nat} {x v : EV} {h : EH} {post : EV → EH → Prop} {pc : FuncId → List EV → Prop} (hs : SROK post pc (storeE stdA n x v h)) :
    ∃ i c c', idE x = some i ∧ getH h i = .blk c ∧ post undefE (setH h i (.blk c')) ∧
      ∀ (h2 : EH) (post2 : EV → EH → Prop) (pc2 : FuncId → List EV → Prop), getH h2 i = .blk c → post2 undefE (setH h2 i (.blk c')) → SROK post2 pc2 (storeE stdA n x v h2) := by
  unfold storeE at hs
  split at hs
  rotate_left
  · exact hs.elim
  rename_i h1
  split at hs
  rotate_left
  · exact hs.elim
  rename_i h2
  split at hs
  · rename_i id off
    split at hs
    · rename_i c hg
      split at hs
      · rename_i c' hw
        exact ⟨id, c, c', rfl, hg, hs, fun h3 post2 pc2 hg3 hp => by simp only [storeE, h1, h2, if_true, hg3, hw]; exact hp⟩
      · exact hs.elim
    · exact hs.elim
  · rename_i id off
    split at hs
    · rename_i c hg
      exact ⟨id, c, _, rfl, hg, hs.2, fun h3 post2 pc2 hg3 hp => by simp only [storeE, h1, h2, if_true, hg3]; exact ⟨hs.1, hp⟩⟩
    · exact hs.elim
  · exact hs.elim
/-- **Two writes into different memory change places.** -/
theorem SeqOK.swap {n m : Nat} {x v y u : Operand} {t : List EV} {h : EH} {K : St → Prop} (hK : ∀ s, K s → ∃ i j, idE (evalO G s.t x) = some i ∧ idE (evalO G s.t y) = some j ∧ i ≠ j)
    (hs : SeqOK P G (fun v s => PH v s.h) [⟨none, .store n x v, none⟩, ⟨none, .store m y u, none⟩] ⟨t, h⟩ K) : SeqOK P G (fun v s => PH v s.h) [⟨none, .store m y u, none⟩, ⟨none, .store n x v, none⟩] ⟨t, h⟩ K := by
  simp only [SeqOK, stepI, putT] at hs ⊢
  obtain ⟨i, c, c', a1, a2, a3, a4⟩ := storeE_at hs
  obtain ⟨j, d, d', b1, b2, b3, b4⟩ := storeE_at a3
  obtain ⟨i', j', k1, k2, k3⟩ := hK _ b3
  rw [a1] at k1; cases k1
  rw [b1] at k2; cases k2
  rw [getH_set_ne _ _ _ _ (Ne.symm k3)] at b2
  refine b4 h _ _ b2 (a4 _ _ _ ?_ ?_)
  · rw [getH_set_ne _ _ _ _ k3]; exact a2
  · rw [setH_comm h j i _ _ (Ne.symm k3)]; exact b3
/-- What is asked where two writes stand in no order. -/
def SwP (G : List (List EV)) (bf : Array Nat) (es : List EOp) (ord : List Nat) (K : St → Prop) : Prop :=
  ∀ p q, [p, q].Sublist ord → isX (nthO es p).i = true → bitB bf q p = false → swapE es p q = true →
    (∃ r, ord = r ++ [p, q]) ∧ (∀ i, isAl (nthO es i) = false) ∧ (∀ i, isRd (nthO es i).i = true → bitB bf p i = true ∧ bitB bf q i = true) ∧
    ∀ n x v m y u, nthO es p = ⟨none, .store n x v, none⟩ → nthO es q = ⟨none, .store m y u, none⟩ → ∀ s, K s → ∃ i j, idE (evalO G s.t x) = some i ∧ idE (evalO G s.t y) = some j ∧ i ≠ j
theorem agains_nil {x : Nat} : ∀ {back since : List Nat}, (∀ r, isRd (nthO es r).i = true → bitB bf x r = true) → againsX bf es x since back = some []
  | [], _, _ => rfl
  | r :: l, since, h => by
    simp only [againsX, agains_nil (back := l) (since := r :: since) h]
    split
    · rename_i hh
      simp only [Bool.and_eq_true, Bool.not_eq_true'] at hh
      have := h r hh.1
      rw [hh.2] at this; cases this
    · rfl
/-- **Whatever comes up comes to the one order's end.** -/
theorem draw_run {K : St → Prop} {ord : List Nat} (hPan : ∀ v h t, PH v h → PanQ P G I0 ρ0 w0 Φ v ⟨t, h⟩) (hK : ∀ st', K st' → ∀ a' w', SimX P G I0 ρ0 w0 st' a' w' → Φ .normal a' w') (hord : ord.Nodup) (hsw : SwP G bf es ord K) (hes : compOps P ops ops.toList = some es) (hst : Stat ops bf) : ∀ (fuel : Nat) (listed : Array Bool) (a : Act) (w : World) (t : List EV) (h : EH) (pend E : List (Nat × EV)) (back ordR als ua : List Nat),
    SE P G es I0 ρ0 w0 E t h a w → t.length = n → DI P G PH bf es n K t h pend back ordR als → (pend.map (·.1) ++ ordR).Sublist ord →
    LF ops bf es listed (pend.map (·.1) ++ ordR) ua → (∀ i ∈ als, i ∈ ua ∨ ∃ V, (i, V) ∈ E) → (∀ p ∈ E, p.1 ∈ als ∧ p.1 ∉ ua) → (∀ i ∈ ua, i ∈ als) → als.Nodup → (E.map (·.1)).Nodup →
    (∀ i ∈ als, AlP bf es ops.size i) → (∀ i ∈ pend.map (·.1) ++ ordR, isAl (nthO es i) = false) → (pend.map (·.1) ++ ordR).length + ua.length = fuel → wpAnyIn (FR ro) 0 P .any ops Φ fuel listed a w := by
  intro fuel
  induction fuel with
  | zero =>
    intro listed a w t h pend E back ordR als ua hs hn d hsub f hA1 hA2 hA3 hnd hE hP hna hlen
    have he : pend.map (·.1) ++ ordR = [] := List.length_eq_zero_iff.1 (by omega)
    have hua : ua = [] := List.length_eq_zero_iff.1 (by omega)
    subst hua
    obtain ⟨hp, rfl⟩ := List.append_eq_nil_iff.1 he
    simp at hp; subst hp
    refine ⟨List.eq_nil_iff_forall_not_mem.2 fun j hj => by have := f.mem hj; simp at this, ?_⟩
    obtain ⟨tc, l, e1, e2, e3⟩ := d.rest
    simp [emitX] at e2; subst e2
    rw [← List.append_nil (als.map (nthO es))] at e3
    have lts : ∀ p ∈ E, p.1 < ops.size := fun p hp => by
      rcases Nat.lt_or_ge p.1 ops.size with hh | hh
      · exact hh
      · have hal := (hP p.1 (hA2 p hp).1).1
        have hl := (compOps_at hes).1
        have : nthO es p.1 = ⟨none, .mov (.const (.bool false)), none⟩ := by
          unfold nthO
          rw [List.getD_eq_getElem?_getD, List.getElem?_eq_none (by rw [hl]; simpa using hh)]; rfl
        rw [this] at hal; simp [isAl] at hal
    obtain ⟨E', t', tc', h', q1, q2, q3, q4, q5, q6, q7⟩ := al_run (pend := []) (fun p hp => by cases hp) als E t tc h (fun i hi => (hP i hi).1) hnd (fun i hi => (hA1 i hi).resolve_left (by simp)) hE
      (fun i hi p hp hne => ((hP i hi).2 p.1 (lts p hp) hne).1) (fun i hi p hp => by cases hp) hs hn trivial e1 e3
    have hE0 : E' = [] := List.eq_nil_iff_forall_not_mem.2 fun p hp => ((q6 p).1 hp).2 (hA2 p ((q6 p).1 hp).1).1
    subst hE0
    exact hK _ q5 a w (q1.out.bool q4.symm)
  | succ fuel ih =>
    intro listed a w t h pend E back ordR als ua hs hn d hsub f hA1 hA2 hA3 hnd hE hP hna hlen
    refine ⟨fun hnil => ?_, fun j hj => ?_⟩
    · exfalso
      have hex : ∃ p, p ∈ pend.map (·.1) ++ ordR ∨ p ∈ ua := by
        cases hu : pend.map (·.1) ++ ordR with
        | cons p u => exact ⟨p, .inl (by simp)⟩
        | nil => cases hv : ua with
          | cons p u => exact ⟨p, .inr (by simp)⟩
          | nil => rw [hu, hv] at hlen; simp at hlen
      obtain ⟨p, hp⟩ := hex
      obtain ⟨q, hq⟩ := f.some hst (p + 1) p (by omega) hp
      rw [hnil] at hq; cases hq
    · obtain ⟨pend', back', ordR', hsame, d', hhead⟩ := d.advance
      rw [← hsame] at f hlen hna hsub
      clear d hsame
      obtain ⟨_, o, ho, _⟩ := mem_ready.1 hj
      have hco : compOper P ops o = some (nthO es j) := (compOps_at hes).2 j o (by simpa using ho)
      have hjlt : j < ops.size := f.lt (f.mem hj)
      have hEj : ∀ p ∈ E, isAl (nthO es j) = false → sameDst (nthO es j) (nthO es p.1) = false := fun p hp hal => by
        have hne : j ≠ p.1 := fun e => by have := (hP p.1 (hA2 p hp).1).1; rw [← e, hal] at this; cases this
        exact sameDst_symm ((hP p.1 (hA2 p hp).1).2 j hjlt hne).1
      rcases f.mem hj with hm | hm
      · have hjal : isAl (nthO es j) = false := hna j hm
        rcases List.mem_append.1 hm with hm | hm
        · -- its value is known
          obtain ⟨⟨j', V⟩, hjv, hj'⟩ := List.mem_map.1 hm
          simp only at hj'; subst hj'
          obtain ⟨l1, l2, hl⟩ := List.append_of_mem hjv
          subst hl
          have hu : (l1 ++ (j', V) :: l2).map (·.1) ++ ordR' = l1.map (·.1) ++ j' :: (l2.map (·.1) ++ ordR') := by simp
          have f' := f
          rw [hu] at f'
          have hw : ∀ p ∈ l1, sameDst (nthO es j') (nthO es p.1) = false ∧ touches (nthO es j') (nthO es p.1) = false ∧ touches (nthO es p.1) (nthO es j') = false := fun p hp => by
            have hpm : p.1 ∈ l1.map (·.1) := List.mem_map.2 ⟨p, hp, rfl⟩
            have hpr := (List.pairwise_append.1 f'.pairs).2.2 p.1 hpm j' (by simp)
            obtain ⟨_, _, _, k4, k5⟩ := pairOk_spec hpr
            obtain ⟨k6, k7⟩ := k5 (f'.wait hst hj (.inl (by simp [hpm])))
            exact ⟨sameDst_symm k4, k7, k6⟩
          obtain ⟨q1, q2, q3⟩ := PendOK.take hw d'.pd
          have hjq : isX (nthO es j').i = false := d'.quiet (j', V) (by simp)
          have htE : ∀ p ∈ E, touches (nthO es p.1) (nthO es j') = false := fun p hp => by
            have hne : j' ≠ p.1 := fun e => by have := (hP p.1 (hA2 p hp).1).1; rw [← e, hjal] at this; cases this
            cases ht : touches (nthO es p.1) (nthO es j') with
            | false => rfl
            | true =>
              have := (((hP p.1 (hA2 p hp).1).2 j' hjlt hne).2 ht).1
              rw [hjq] at this; cases this
          obtain ⟨I, ρ, hx0, back0, _⟩ := hs.open
          refine evq_wp ho hco hx0 (by rw [foldP_length, hn]; exact evq_fold htE q1) fun a' w' hx => ?_
          have hx2 := back0 (t' := putT t (nthO es j').dst V) (h' := h) (a' := a') (w' := w') (by rw [foldP_put fun p hp => hEj p hp hjal]; exact hx)
          refine ih _ a' w' _ h (l1 ++ l2) E back' ordR' als ua hx2 (by rw [putT_length]; exact hn) ⟨q2, fun p hp => ?_, ?_, ?_⟩ ?_ ?_ hA1 hA2 hA3 hnd hE hP (fun i hi => hna i (by rw [hu]; simp at hi ⊢; rcases hi with hi | hi | hi <;> simp [hi])) ?_
          · exact d'.quiet p (by rcases List.mem_append.1 hp with hp | hp <;> simp [hp])
          · refine List.Sublist.trans ?_ d'.sub
            simp only [List.map_append, List.map_cons]
            exact (List.Sublist.refl _).append (List.sublist_cons_self _ _)
          · obtain ⟨tc, l, e1, e2, e3⟩ := d'.rest
            exact ⟨tc, l, by rw [← q3]; exact e1, e2, e3⟩
          · refine List.Sublist.trans ?_ hsub
            rw [hu]
            simp only [List.map_append, List.append_assoc]
            exact (List.Sublist.refl _).append (List.sublist_cons_self _ _)
          · have := f'.step hst hj
            simpa using this
          · rw [hu] at hlen
            simp at hlen ⊢; omega
        · cases hor : ordR' with
          | nil => rw [hor] at hm; cases hm
          | cons x l =>
            subst hor
            have hxx := hhead x l rfl
            -- what comes up is the head, or may be turned into it
            obtain ⟨l, d', f, hsub, hlen, hna, hxx⟩ : ∃ l2, DI P G PH bf es n K t h pend' back' (j :: l2) als ∧ LF ops bf es listed (pend'.map (·.1) ++ j :: l2) ua ∧ (pend'.map (·.1) ++ l2).Sublist ord ∧
                (pend'.map (·.1) ++ j :: l2).length + ua.length = fuel + 1 ∧ (∀ i ∈ pend'.map (·.1) ++ j :: l2, isAl (nthO es i) = false) ∧ isX (nthO es j).i = true := by
              have hpw := List.pairwise_append.1 f.pairs
              rcases List.mem_cons.1 hm with rfl | hm
              · exact ⟨l, d', f, List.Sublist.trans ((List.Sublist.refl _).append (List.sublist_cons_self _ _)) hsub, hlen, hna, hxx⟩
              · have hpr := (List.pairwise_cons.1 hpw.2.1).1 j hm
                obtain ⟨g1, g2, g3, g4, g5⟩ := pairOk_spec hpr
                have hb := f.wait hst hj (i := x) (.inl (by simp))
                rcases g3 hxx with h1 | h1
                · rw [h1] at hb; cases hb
                have hs1 : (x :: l).Sublist ord := (List.sublist_append_right _ _).trans hsub
                have hs2 : [x, j].Sublist ord := List.Sublist.trans (List.Sublist.cons_cons x (List.singleton_sublist.2 hm)) hs1
                obtain ⟨⟨r, hr⟩, hal, hrd, hap⟩ := hsw x j hs2 hxx hb h1
                have hnd2 : (r ++ [x, j]).Nodup := hr ▸ hord
                have hxr : x ∉ r := fun hh => (List.nodup_append.1 hnd2).2.2 x hh x (by simp) rfl
                have hl1 : l = [j] := by
                  rw [hr] at hs1
                  obtain ⟨l1, l2, e1, e2, e3⟩ := List.sublist_append_iff.1 hs1
                  cases l1 with
                  | cons z l1 =>
                    simp at e1
                    exact absurd (e2.subset (by rw [e1.1]; simp)) hxr
                  | nil =>
                    simp at e1
                    rw [← e1] at e3
                    have := List.cons_sublist_cons.1 e3
                    rcases List.sublist_cons_iff.1 this with h2 | ⟨l3, h2, h3⟩
                    · have := List.sublist_nil.1 h2; rw [this] at hm; cases hm
                    · have := List.sublist_nil.1 h3; rw [h2, this]
                subst hl1
                have hals : als = [] := List.eq_nil_iff_forall_not_mem.2 fun i hi => by
                  have := (hP i hi).1
                  rw [hal i] at this; cases this
                subst hals
                obtain ⟨n1, x1, v1, m1, y1, u1, w1, w2, w3⟩ := swapE_spec h1
                have hjx : isX (nthO es j).i = true := by rw [w2]; rfl
                have ag1 : ∀ since back, againsX bf es x since back = some [] := fun since back => agains_nil fun r hr => (hrd r hr).1
                have ag2 : ∀ since back, againsX bf es j since back = some [] := fun since back => agains_nil fun r hr => (hrd r hr).2
                have em : ∀ back, emitX bf es [] back [x, j] = some [nthO es x, nthO es j] := fun back => by
                  simp [emitX, hxx, hjx, ag1, ag2, mineX, restX]
                have em2 : ∀ back, emitX bf es [] back [j, x] = some [nthO es j, nthO es x] := fun back => by
                  simp [emitX, hxx, hjx, ag1, ag2, mineX, restX]
                refine ⟨[x], ⟨d'.pd, d'.quiet, d'.sub, ?_⟩, ?_, ?_, ?_, ?_, hjx⟩
                · obtain ⟨tc, el, e1, e2, e3⟩ := d'.rest
                  rw [em] at e2; cases e2
                  refine ⟨tc, _, e1, em2 _, ?_⟩
                  rw [w1, w2] at e3 ⊢
                  exact SeqOK.swap (hap n1 x1 v1 m1 y1 u1 w1 w2) e3
                · refine ⟨f.size, ?_, fun i => ?_, fun i hi => f.disj i (by simp at hi ⊢; rcases hi with hi | hi | hi <;> simp [hi]), f.nd, f.cl⟩
                  · refine List.pairwise_append.2 ⟨hpw.1, List.pairwise_cons.2 ⟨fun z hz => ?_, List.pairwise_singleton _ _⟩, fun a ha b hb2 => hpw.2.2 a ha b (by simp at hb2 ⊢; exact hb2.symm)⟩
                    simp at hz; subst hz
                    have k1 : swapE es j z = true := by unfold swapE; rw [w1, w2]
                    have k2 : sameDst (nthO es j) (nthO es z) = false := by rw [w1, w2]; rfl
                    have k3 : touches (nthO es j) (nthO es z) = false := by rw [w1, w2]; rfl
                    have k4 : touches (nthO es z) (nthO es j) = false := by rw [w1, w2]; rfl
                    simp [pairOk, Ne.symm g1, hb, k1, k2, k3, k4]
                  · rw [f.un i]; simp [or_comm]
                · exact List.Sublist.trans ((List.Sublist.refl _).append (by simp)) hsub
                · simpa using hlen
                · intro i hi
                  exact hna i (by simp at hi ⊢; rcases hi with hi | hi | hi <;> simp [hi])
            have hpw := List.pairwise_append.1 f.pairs
            · -- the head writes
              have hpx : ∀ p ∈ pend', sameDst (nthO es p.1) (nthO es j) = false ∧ touches (nthO es p.1) (nthO es j) = false ∧ touches (nthO es j) (nthO es p.1) = false ∧ bitB bf j p.1 = false := fun p hp => by
                have hpm : p.1 ∈ pend'.map (·.1) := List.mem_map.2 ⟨p, hp, rfl⟩
                obtain ⟨_, _, _, k4, k5⟩ := pairOk_spec (hpw.2.2 p.1 hpm j (by simp))
                have hb := f.wait hst hj (i := p.1) (.inl (List.mem_append.2 (.inl hpm)))
                exact ⟨k4, (k5 hb).1, (k5 hb).2, hb⟩
              obtain ⟨tc0, el, e1, e2, e3⟩ := d'.rest
              simp only [emitX, hxx, if_true] at e2
              cases hag : againsX bf es j [] back' with
              | none => simp [hag] at e2
              | some ag =>
                cases hrest : emitX bf es (restX es als j) back' l with
                | none => simp [hag, hrest] at e2
                | some rest =>
                  simp [hag, hrest] at e2
                  subst e2
                  have hmine : ∀ i ∈ mineX es als j, i ∈ als ∧ touches (nthO es i) (nthO es j) = true := fun i hi => by simpa [mineX] using hi
                  have hjn : ∀ i ∈ als, j ≠ i := fun i hi e => by have := (hP i hi).1; rw [← e, hjal] at this; cases this
                  have hmE : ∀ i ∈ mineX es als j, ∃ V, (i, V) ∈ E := fun i hi => by
                    obtain ⟨h1, h2⟩ := hmine i hi
                    rcases hA1 i h1 with hu | hu
                    · have := (((hP i h1).2 j hjlt (hjn i h1)).2 h2).2.2
                      rw [f.wait hst hj (.inr hu)] at this; cases this
                    · exact hu
                  have lts : ∀ p ∈ pend', p.1 < ops.size := fun p hp => f.lt (.inl (List.mem_append.2 (.inl (List.mem_map.2 ⟨p, hp, rfl⟩))))
                  have ltE : ∀ p ∈ E, p.1 < ops.size := fun p hp => by
                    rcases Nat.lt_or_ge p.1 ops.size with hh | hh
                    · exact hh
                    · have hal := (hP p.1 (hA2 p hp).1).1
                      have hl := (compOps_at hes).1
                      have : nthO es p.1 = ⟨none, .mov (.const (.bool false)), none⟩ := by
                        unfold nthO
                        rw [List.getD_eq_getElem?_getD, List.getElem?_eq_none (by rw [hl]; simpa using hh)]; rfl
                      rw [this] at hal; simp [isAl] at hal
                  obtain ⟨E2, t2, tc, h2, s1, s2, s3, s4, s5, s6, s7⟩ := al_run (K := K) d'.quiet (mineX es als j) E t tc0 h (fun i hi => (hP i (hmine i hi).1).1) (hnd.sublist (List.filter_sublist ..)) hmE hE
                    (fun i hi p hp hne => ((hP i (hmine i hi).1).2 p.1 (ltE p hp) hne).1)
                    (fun i hi p hp => by
                      have hpal : isAl (nthO es p.1) = false := hna p.1 (List.mem_append.2 (.inl (List.mem_map.2 ⟨p, hp, rfl⟩)))
                      have hne : p.1 ≠ i := fun e => by have := (hP i (hmine i hi).1).1; rw [← e, hpal] at this; cases this
                      obtain ⟨k1, k2⟩ := (hP i (hmine i hi).1).2 p.1 (lts p hp) hne
                      refine ⟨k1, ?_⟩
                      cases ht : touches (nthO es i) (nthO es p.1) with
                      | false => rfl
                      | true => have := (k2 ht).1; rw [d'.quiet p hp] at this; cases this)
                    hs hn d'.pd e1 e3
                  obtain ⟨t', k1, k2⟩ := s5.head
                  obtain ⟨ti0, i1, i2⟩ := unfold_te (es := es) (x := nthO es j) (fun p hp => (hpx p hp).2.1) (k1.trans s4)
                  have htE : ∀ p ∈ E2, touches (nthO es p.1) (nthO es j) = false := fun p hp => by
                    obtain ⟨m1, m2⟩ := (s6 p).1 hp
                    cases ht : touches (nthO es p.1) (nthO es j) with
                    | false => rfl
                    | true => exact absurd (by simpa [mineX] using ⟨(hA2 p m1).1, ht⟩) m2
                  obtain ⟨ti, hti⟩ : ∃ ti, ti = foldP es ti0 E2 := ⟨_, rfl⟩
                  have i1' : TE ti (foldP es t2 E2) := by rw [hti]; exact foldP_te i1
                  have i2' : ∀ d, looksAtE d (nthO es j) = true → getT ti d = getT t' d := fun d hd => by rw [hti, foldP_get hd htE]; exact i2 d hd
                  obtain ⟨I, ρ, hx0, back0, backV⟩ := s1.open
                  have hs' := hx0.bool i1'.symm
                  obtain ⟨c1, c2, c3, c4⟩ := wanted_of hco hs'
                  have hstep : stepI stdA G t' h2 (nthO es j).i = stepI stdA G ti h2 (nthO es j).i := stepI_congr (looks_congr fun d hd => (i2' d hd).symm)
                  have after : ∀ v h', SeqOK P G (fun v s => PH v s.h) (ag ++ rest) ⟨putT t' (nthO es j).dst v, h'⟩ K →
                      ∀ a' w', SimX P G I ρ w ⟨putT ti (nthO es j).dst v, h'⟩ a' w' → wpAnyIn (FR ro) 0 P .any ops Φ fuel (listed.setIfInBounds j true) a' w' := fun v h' hsq a' w' hx => by
                    have hx2 := back0 (t' := putT t2 (nthO es j).dst v) (h' := h') (a' := a') (w' := w') (by
                      rw [foldP_put fun p hp => hEj p ((s6 p).1 hp).1 hjal]
                      exact hx.bool (i1'.put (VE.refl _ _ _)))
                    refine ih _ a' w' (putT t2 (nthO es j).dst v) h' pend' E2 back' l (restX es als j) ua hx2 (by rw [putT_length]; exact s2) ?_ hsub (f.step hst hj) ?_ ?_ ?_ (hnd.sublist (List.filter_sublist ..)) s7 ?_ (fun i hi => hna i (by simp at hi ⊢; rcases hi with hi | hi <;> simp [hi])) (by simp at hlen ⊢; omega)
                    · exact DI.wrote s2 s3 d'.quiet d'.sub (fun p hp => ⟨sameDst_symm (hpx p hp).1, (hpx p hp).2.2.1, (hpx p hp).2.2.2⟩) hpw.1 (k1.trans s4) hag hrest hsq
                    · intro i hi
                      simp [restX] at hi
                      rcases hA1 i hi.1 with hu | ⟨V, hV⟩
                      · exact .inl hu
                      · exact .inr ⟨V, (s6 _).2 ⟨hV, fun hm2 => by have := (hmine i hm2).2; rw [hi.2] at this; cases this⟩⟩
                    · intro p hp
                      obtain ⟨m1, m2⟩ := (s6 p).1 hp
                      exact ⟨by simp [restX]; exact ⟨(hA2 p m1).1, htE p hp⟩, (hA2 p m1).2⟩
                    · intro i hi
                      simp [restX]
                      refine ⟨hA3 i hi, ?_⟩
                      cases ht : touches (nthO es i) (nthO es j) with
                      | false => rfl
                      | true =>
                        have := (((hP i (hA3 i hi)).2 j hjlt (hjn i (hA3 i hi))).2 ht).2.2
                        rw [f.wait hst hj (.inr hi)] at this; cases this
                    · intro i hi
                      simp [restX] at hi
                      exact hP i hi.1
                  have go : SROK (fun v h' => SeqOK P G (fun v s => PH v s.h) (ag ++ rest) ⟨putT t' (nthO es j).dst v, h'⟩ K)
                      (fun f args => CallOK P G PH f args h2 fun v h' => SeqOK P G (fun v s => PH v s.h) (ag ++ rest) ⟨putT t' (nthO es j).dst v, h'⟩ K) (stepI stdA G t' h2 (nthO es j).i) →
                      o.wpIn (FR ro) 0 P a w (wpAnyIn (FR ro) 0 P .any ops Φ fuel (listed.setIfInBounds j true)) Φ := fun hok => by
                    rw [hstep] at hok
                    exact oper_sound (Pn := fun v s => PH v s.h) c1 hs' hok (fun v st hv a' w' v' hsv => hPan v st.h st.t hv a' w' v' (backV hsv)) (fun v h' hv a' w' hx => after v h' hv a' w' (by rw [c2]; exact hx)) (fun v h' hv a' w' hx => after v h' hv a' w' (by rw [c2]; exact hx))
                  unfold wpOpIn
                  simp only [ho]
                  rcases k2 with ⟨hg, hok⟩ | ⟨g, want, c, hg, hcv, hok⟩
                  · rw [c3 hg]; exact (go hok)
                  · have hgi : gdE (getT ti g) = some c := by rw [i2' g (by simp [looksAtE, hg])]; exact hcv
                    rw [c4 g want c hg hgi]
                    cases hw : (c == some want) with
                    | true => rw [hw] at hok; exact (go (by simpa using hok))
                    | false =>
                      rw [hw] at hok
                      have := after undefE h2 (by simpa using hok) (a.put o.dst undef) w (by rw [c2]; exact skip_sound _ hs')
                      exact ⟨fun _ _ => trivial, this⟩
      · -- a variable, made ahead of its turn
        obtain ⟨u1, u2, rfl⟩ := List.append_of_mem hm
        have hjals := hA3 j hm
        obtain ⟨z, d0, hz1, hz2, hz3, hone⟩ := isAl_spec (hP j hjals).1
        obtain ⟨_, _, hx0, _⟩ := hs.open
        obtain ⟨c1, c2, c3, c4⟩ := wanted_of hco hx0
        unfold wpOpIn
        simp only [ho]
        rw [c3 hz2]
        refine SE.make hs (hP j hjals).1 hco fun a' w' V hx => ?_
        have hnd2 := f.nd
        rw [List.nodup_append, List.nodup_cons] at hnd2
        refine ih _ a' w' t h pend' (E ++ [(j, V)]) back' ordR' als (u1 ++ u2) hx hn d' hsub (f.stepA hst hj) ?_ ?_ (fun i hi => hA3 i (by simp at hi ⊢; rcases hi with hi | hi <;> simp [hi])) hnd ?_ hP hna ?_
        · intro i hi
          rcases hA1 i hi with hu | ⟨U, hU⟩
          · rcases List.mem_append.1 hu with hu | hu
            · exact .inl (by simp [hu])
            · rcases List.mem_cons.1 hu with rfl | hu
              · exact .inr ⟨V, by simp⟩
              · exact .inl (by simp [hu])
          · exact .inr ⟨U, by simp [hU]⟩
        · intro p hp
          rcases List.mem_append.1 hp with hp | hp
          · have := (hA2 p hp).2
            simp at this
            exact ⟨(hA2 p hp).1, by simp; exact ⟨this.1, this.2.2⟩⟩
          · simp at hp; subst hp
            refine ⟨hjals, ?_⟩
            simp
            exact ⟨fun hh => hnd2.2.2 j hh j (by simp) rfl, hnd2.2.1.1⟩
        · rw [List.map_append]
          refine List.nodup_append.2 ⟨hE, by simp, fun x hx2 y hy e => ?_⟩
          simp at hy; subst hy; subst e
          obtain ⟨p, hp, hpe⟩ := List.mem_map.1 hx2
          exact (hA2 p hp).2 (by rw [hpe]; exact hm)
        · simp at hlen ⊢; omega
theorem perm_length : ∀ (n : Nat) (l : List Nat), l.Pairwise (· ≠ ·) → (∀ i ∈ l, i < n) → (∀ i, i < n → i ∈ l) → l.length = n
  | 0, l, _, h, _ => by
    cases l with
    | nil => rfl
    | cons x l => exact absurd (h x (by simp)) (by omega)
  | n + 1, l, hp, h1, h2 => by
    obtain ⟨l1, l2, rfl⟩ := List.append_of_mem (h2 n (by omega))
    rw [List.pairwise_append, List.pairwise_cons] at hp
    obtain ⟨p1, ⟨p2, p3⟩, p4⟩ := hp
    have := perm_length n (l1 ++ l2) (List.pairwise_append.2 ⟨p1, p3, fun a ha b hb => p4 a ha b (by simp [hb])⟩)
      (fun i hi => by
        have h3 : i < n + 1 := h1 i (by rcases List.mem_append.1 hi with hi | hi <;> simp [hi])
        have h4 : i ≠ n := by
          rcases List.mem_append.1 hi with hi | hi
          · exact p4 i hi n (by simp)
          · exact fun e => p2 i hi e.symm
        omega)
      (fun i hi => by
        have := h2 i (by omega)
        rcases List.mem_append.1 this with hm | hm
        · simp [hm]
        · rcases List.mem_cons.1 hm with rfl | hm
          · omega
          · simp [hm])
    simp at this ⊢; omega
theorem SeqOK.app {Pn : EV → St → Prop} {l2 : List EOp} {K : St → Prop} (l1 : List EOp) : ∀ st : St, SeqOK P G Pn (l1 ++ l2) st K = SeqOK P G Pn l1 st fun s => SeqOK P G Pn l2 s K := by
  induction l1 with
  | nil => exact fun _ => rfl
  | cons o l1 ih => exact fun st => by simp only [List.cons_append, SeqOK, ih]
theorem strictL_iff : ∀ {l : List Nat}, strictL bf es l = true ↔ l.Pairwise fun p q => isX (nthO es p).i = true → bitB bf q p = true
  | [] => by simp [strictL]
  | p :: l => by
    simp only [strictL, Bool.and_eq_true, Bool.or_eq_true, Bool.not_eq_true', List.all_eq_true, strictL_iff (l := l), List.pairwise_cons]
    constructor
    · rintro ⟨h1, h2⟩
      refine ⟨fun q hq hx => ?_, h2⟩
      rcases h1 with h1 | h1
      · rw [hx] at h1; cases h1
      · exact h1 q hq
    · rintro ⟨h1, h2⟩
      refine ⟨?_, h2⟩
      cases hx : isX (nthO es p).i with
      | false => exact .inl rfl
      | true => exact .inr fun q hq => h1 q hq hx
theorem strict_at {l : List Nat} {p q : Nat} (h : strictL bf es l = true) (hs : [p, q].Sublist l) (hx : isX (nthO es p).i = true) : bitB bf q p = true :=
  (List.pairwise_cons.1 ((strictL_iff.1 h).sublist hs)).1 q (by simp) hx
theorem tailX_sound {N : Nat} {als ord : List Nat} {r1 : List EOp} {K : St → Prop} (h : tailX bf es N als ord = some r1) (hals : als = [] → ∀ i, isAl (nthO es i) = false) (hN : ∀ i, isRd (nthO es i).i = true → i < N) :
    SwP G bf es ord (fun s => SeqOK P G (fun v s => PH v s.h) r1 s K) ∧ ∀ s, SeqOK P G (fun v s => PH v s.h) r1 s K → K s := by
  unfold tailX at h
  split at h
  · rename_i hst
    cases h
    exact ⟨fun p q hs hx hb _ => (by rw [strict_at hst hs hx] at hb; cases hb), fun s hs => hs⟩
  · rename_i hst
    split at h
    rotate_left
    · cases h
    rename_i q p r hrev
    split at h
    rotate_left
    · cases h
    rename_i hc
    cases h
    simp only [Bool.and_eq_true, List.isEmpty_iff, List.all_eq_true, List.mem_range, Bool.or_eq_true, Bool.not_eq_true'] at hc
    obtain ⟨⟨⟨c1, c2⟩, c3⟩, c4⟩ := hc
    have hord : ord = r.reverse ++ [p, q] := by
      have := congrArg List.reverse hrev
      simpa using this
    have only : ∀ p' q', [p', q'].Sublist ord → isX (nthO es p').i = true → bitB bf q' p' = false → p' = p ∧ q' = q := by
      intro p' q' hs hx hb
      rw [hord] at hs
      obtain ⟨l1, l2, e1, e2, e3⟩ := List.sublist_append_iff.1 hs
      match l1, e1, e2 with
      | [], e1, e2 =>
        simp at e1
        rw [← e1] at e3
        have := e3.eq_of_length (by simp)
        simp at this; exact this
      | [z], e1, e2 =>
        simp at e1
        obtain ⟨rfl, rfl⟩ := e1
        have hm := e3.subset (List.mem_singleton.2 rfl)
        simp at hm
        exfalso
        rcases hm with rfl | rfl
        · have := strict_at c1 (e2.append (List.Sublist.refl [q'])) hx
          rw [this] at hb; cases hb
        · have := strict_at c2 (e2.append (List.Sublist.refl [q'])) hx
          rw [this] at hb; cases hb
      | z1 :: z2 :: l1, e1, e2 =>
        simp at e1
        obtain ⟨rfl, rfl, rfl, rfl⟩ := e1
        have := strict_at c1 (e2.trans (List.sublist_append_left _ _)) hx
        rw [this] at hb; cases hb
    -- where the pair is no pair of writes nothing can be gained
    by_cases hsw : swapE es p q = true
    · obtain ⟨n1, x1, v1, m1, y1, u1, w1, w2, w3⟩ := swapE_spec hsw
      rw [w3]
      have ap : ∀ s, SeqOK P G (fun v s => PH v s.h) [⟨none, .apart x1 y1, none⟩] s K → (∃ i j, idE (evalO G s.t x1) = some i ∧ idE (evalO G s.t y1) = some j ∧ i ≠ j) ∧ K s := by
        intro s hs
        simp only [SeqOK, stepI, apartE, putT] at hs
        split at hs
        · rename_i i j hi hj
          split at hs
          · exact hs.elim
          · rename_i hne
            exact ⟨⟨i, j, hi, hj, fun e => by subst e; simp at hne⟩, hs⟩
        · exact hs.elim
      refine ⟨fun p' q' hs hx hb _ => ?_, fun s hs => (ap s hs).2⟩
      obtain ⟨rfl, rfl⟩ := only p' q' hs hx hb
      refine ⟨⟨_, hord⟩, hals c3, fun i hi => ?_, fun n x v m y u k1 k2 s hs => ?_⟩
      · rcases c4 i (hN i hi) with h1 | h1
        · rw [hi] at h1; cases h1
        · exact h1
      · rw [w1] at k1; cases k1
        rw [w2] at k2; cases k2
        exact (ap s hs).1
    · have : apartO es p q = [] := by
        unfold apartO
        split
        · rename_i h1 h2
          exact absurd (by unfold swapE; rw [h1, h2]) hsw
        · rfl
      rw [this]
      refine ⟨fun p' q' hs hx hb h1 => ?_, fun s hs => hs⟩
      obtain ⟨rfl, rfl⟩ := only p' q' hs hx hb
      exact absurd h1 hsw
/-- **Regions that draw their order are sound.** -/
theorem draw_sound (hm : P.follows .mixedOrders = true) : DrawSound P G := by
  intro ro I0 ρ0 w0 id ops l Φ PH st a w hc hPan hs ok
  unfold compDraw at hc
  cases hes : compOps P ops ops.toList with
  | none => simp [hes] at hc
  | some es =>
    simp only [hes] at hc
    split at hc
    · rename_i hb
      generalize hals : ((List.range ops.size).filter fun i => isAl (nthO es i)) = als at hb hc
      generalize hall : ((List.range ops.size).filter fun i => !isAl (nthO es i)) = all at hb hc
      generalize hord : orderX (Region.before ops) all (all.filter fun i => isX (nthO es i).i) 0 (all.filter fun i => isX (nthO es i).i) = ord at hb hc
      simp only [Bool.and_eq_true, List.all_eq_true, List.contains_iff_mem, Nat.blt_eq, Bool.not_eq_true'] at hb
      obtain ⟨⟨⟨⟨h1, h2⟩, h5⟩, h3⟩, h4⟩ := hb
      have hpw := pairsOk_iff.1 h1
      have hin : ∀ i, i < ops.size → i ∈ ord ∨ i ∈ als := fun i hi => by
        cases hal : isAl (nthO es i) with
        | true => exact .inr (by rw [← hals]; simp [hi, hal])
        | false => exact .inl (h3 i (by rw [← hall]; simp [hi, hal]))
      have hals' : ∀ i ∈ als, i < ops.size ∧ isAl (nthO es i) = true := fun i hi => by rw [← hals] at hi; simpa using hi
      have hnd : als.Nodup := by rw [← hals]; exact List.nodup_range.sublist (List.filter_sublist ..)
      have hdis : ∀ i ∈ ord, i ∉ als := fun i hi hi2 => by have := (h4 i hi).2; rw [(hals' i hi2).2] at this; cases this
      have hlen : (ord ++ als).length = ops.size := perm_length _ _ (List.pairwise_append.2 ⟨hpw.imp fun hh => (pairOk_spec hh).1, hnd, fun x hx y hy e => hdis x hx (e ▸ hy)⟩)
        (fun i hi => by rcases List.mem_append.1 hi with hi | hi; exact (h4 i hi).1; exact (hals' i hi).1) (fun i hi => List.mem_append.2 (hin i hi))
      have hst : Stat ops (Region.before ops) := fun j o hj => by
        have := closedOk_spec h2 j o (by simpa using hj)
        simpa using this
      obtain ⟨t, h⟩ := st
      refine wpIn_region_any hm ?_
      have hdef : ∀ i, ¬ i < ops.size → nthO es i = ⟨none, .mov (.const (.bool false)), none⟩ := fun i hi => by
        have hl := (compOps_at hes).1
        unfold nthO
        rw [List.getD_eq_getElem?_getD, List.getElem?_eq_none (by rw [hl]; simpa using hi)]; rfl
      cases hem : emitX (Region.before ops) es als [] ord with
      | none => simp [hem] at hc
      | some l1 =>
      cases htl : tailX (Region.before ops) es ops.size als ord with
      | none => simp [hem, htl] at hc
      | some r1 =>
      simp [hem, htl] at hc
      subst hc
      rw [SeqOK.app] at ok
      obtain ⟨sw1, sw2⟩ := tailX_sound (P := P) (G := G) (K := fun st' => ∀ a' w', SimX P G I0 ρ0 w0 st' a' w' → Φ .normal a' w') htl (fun he i => by
        by_cases hi : i < ops.size
        · cases hal : isAl (nthO es i) with
          | false => rfl
          | true =>
            have : i ∈ als := by rw [← hals]; simp [hi, hal]
            rw [he] at this; cases this
        · rw [hdef i hi]; rfl) (fun i hi => by
        by_cases hlt : i < ops.size
        · exact hlt
        · rw [hdef i hlt] at hi; cases hi)
      have hndo : ord.Nodup := hpw.imp fun hh => (pairOk_spec hh).1
      refine draw_run (n := t.length) (es := es) (bf := Region.before ops) (K := fun s => SeqOK P G (fun v s => PH v s.h) r1 s fun st' => ∀ a' w', SimX P G I0 ρ0 w0 st' a' w' → Φ .normal a' w') (ord := ord) hPan (fun st' hk => sw2 st' hk) hndo sw1 hes hst ops.size _ a _ t h [] [] [] ord als als (SE.nil hs.drew) rfl ?_ (by simp) ?_ (fun i hi => .inl hi) (fun p hp => by cases hp) (fun i hi => hi) hnd (by simp)
        (fun i hi => alOk_spec (hals' i hi).2 (h5 i hi)) (fun i hi => (h4 i (by simpa using hi)).2) (by simpa using hlen)
      · exact ⟨trivial, fun p hp => by simp at hp, by simp, t, l1, .refl t, hem, ok⟩
      · refine ⟨by simp, by simpa using hpw, fun i => ?_, fun i hi => hdis i (by simpa using hi), hnd, fun j i hj => ?_⟩
        · by_cases hi : i < ops.size
          · simp [hi]
            exact hin i hi
          · have h6 : i ∉ ord := fun hm => hi (h4 i hm).1
            have h7 : i ∉ als := fun hm => hi (hals' i hm).1
            simp [hi, h6, h7]
        · exfalso
          simp only [Array.getD_eq_getD_getElem?, Array.getElem?_replicate] at hj
          split at hj <;> simp at hj
    · cases hc
end
end Go.Proofs.YtpgeonghlabnhaaGreatDoor.Em
