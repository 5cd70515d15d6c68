/- Em19: regions that draw their order are sound: 'draw_sound'. No condition but that the program follows the row of mixed orders. -/
import Derived.Test.YtplibngmgebigaaEm18
set_option linter.unusedVariables false
set_option linter.unusedSimpArgs false
namespace Go.Proofs.Ytplibngmgebigaa.Em
open Go

section
variable {P : Program} {G : List (List EV)} {bf : Array Nat} {es : List EOp} {n : Nat} {ops : Array Oper}

/-- Where a region stands: what was reckoned ahead, and what is left of the one order. -/
structure DI (P : Program) (G : List (List EV)) (bf : Array Nat) (es : List EOp) (n : Nat) (K : St → Prop) (t : List EV) (h : EH) (pend : List (Nat × EV)) (back ordR : List Nat) : Prop where
  pd : PendOK G es n t h pend
  quiet : ∀ p ∈ pend, isX (nthO es p.1).i = false
  sub : (pend.map (·.1)).Sublist back.reverse
  rest : ∃ tc l, TE tc (foldP es t pend) ∧ emitX bf es back ordR = some l ∧ SeqOK P G l ⟨tc, h⟩ K

/-- What is quiet at the head of what is left is reckoned ahead. -/
theorem DI.advance {K : St → Prop} {t : List EV} {h : EH} : ∀ {ordR back : List Nat} {pend : List (Nat × EV)}, DI P G bf es n K t h pend back ordR →
    ∃ pend' back' ordR', pend'.map (·.1) ++ ordR' = pend.map (·.1) ++ ordR ∧ DI P G bf es n K t h pend' back' ordR' ∧ ∀ x l, ordR' = x :: l → isX (nthO es x).i = true
  | [], back, pend, d => ⟨pend, back, [], rfl, d, fun x l hx => by cases hx⟩
  | i :: l, back, pend, d => by
    cases hx : isX (nthO es i).i with
    | true => exact ⟨pend, back, i :: l, rfl, d, fun x l' he => by cases he; exact hx⟩
    | false =>
      obtain ⟨pd, quiet, sub, tc, el, e1, e2, e3⟩ := d
      simp only [emitX, hx, Bool.false_eq_true, if_false] at e2
      cases hr : emitX bf es (i :: back) l with
      | none => simp [hr] at e2
      | some rest =>
        simp [hr] at e2
        subst e2
        obtain ⟨t', V, k1, k2, k3⟩ := SeqOK.quiet hx e3 n
        have d' : DI P G bf es n K t h (pend ++ [(i, V)]) (i :: back) l := by
          refine ⟨PendOK.app pd ⟨⟨t', k1.trans e1, k2⟩, trivial⟩, fun p hp => ?_, ?_, putT t' (nthO es i).dst V, rest, ?_, hr, k3⟩
          · rcases List.mem_append.1 hp with hp | hp
            · exact quiet p hp
            · simp at hp; subst hp; exact hx
          · simp only [List.map_append, List.map_cons, List.map_nil, List.reverse_cons]
            exact sub.append (List.Sublist.refl _)
          · rw [foldP_app]
            exact (k1.trans e1).put (VE.refl _ _ _)
        obtain ⟨p', b', o', q1, q2, q3⟩ := DI.advance d'
        exact ⟨p', b', o', by rw [q1]; simp, q2, q3⟩

/-- What looks at nothing that was reckoned ahead sees what stands. -/
theorem unfold_te {x : EOp} : ∀ {pend : List (Nat × EV)} {t t' : List EV}, (∀ p ∈ pend, touches (nthO es p.1) x = false) → TE t' (foldP es t pend) →
    ∃ ti, TE ti t ∧ ∀ d, looksAtE d x = true → getT ti d = getT t' d
  | [], t, t', _, h => ⟨t', h, fun _ _ => rfl⟩
  | (i, V) :: l, t, t', hp, h => by
    obtain ⟨ti, k1, k2⟩ := unfold_te (pend := l) (t := putT t (nthO es i).dst V) (fun p hq => hp p (by simp [hq])) h
    exact ⟨backT ti t (nthO es i).dst, backT_te k1, fun d hd => (backT_get (hp (i, V) (by simp)) ti t d hd).trans (k2 d hd)⟩

theorem foldP_get {x : EOp} {d : Nat} (hd : looksAtE d x = true) : ∀ {l : List (Nat × EV)} {t : List EV}, (∀ p ∈ l, touches (nthO es p.1) x = false) → getT (foldP es t l) d = getT t d
  | [], _, _ => rfl
  | (i, V) :: l, t, h => by
    simp only [foldP]
    rw [foldP_get hd (l := l) fun p hp => h p (by simp [hp]), touch_get (h (i, V) (by simp)) t V d hd]

theorem foldP_dst {x : EOp} {d : Nat} (hd : x.dst = some d) : ∀ {l : List (Nat × EV)} {t : List EV}, (∀ p ∈ l, sameDst x (nthO es p.1) = false) → getT (foldP es t l) d = getT t d
  | [], _, _ => rfl
  | (i, V) :: l, t, h => by
    simp only [foldP]
    rw [foldP_dst hd (l := l) fun p hp => h p (by simp [hp])]
    have := h (i, V) (by simp)
    unfold sameDst at this
    rw [hd] at this
    cases he : (nthO es i).dst with
    | none => rfl
    | some e =>
      simp only [he] at this
      exact getT_setT_ne t e d V fun hed => by subst hed; simp at this

theorem getT_setT_lt : ∀ (t : List EV) (d : Nat) (v : EV), d < t.length → getT (setT t d v) d = v
  | [], d, v, h => by simp at h
  | _ :: t, 0, v, _ => rfl
  | _ :: t, d + 1, v, h => getT_setT_lt t d v (by simpa using h)

variable {I0 : Imm} {ρ0 : Ren} {w0 : World} {Φ : Exit → Act → World → Prop}

/-- An operation whose value is known is carried out, or passed over. -/
theorem evq_wp {j : Nat} {o : Oper} {eo : EOp} {t : List EV} {h : EH} {a : Act} {w : World} {V : EV} {next : Act → World → Prop} (ho : ops[j]? = some o) (hc : compOper P ops o = some eo)
    (hs : SimX G I0 ρ0 w0 ⟨t, h⟩ a w) (hq : EvQ G eo t h t.length V) (hnext : ∀ a' w', SimX G I0 ρ0 w0 ⟨putT t eo.dst V, h⟩ a' w' → next a' w') : wpOp P ops Φ j next a w := by
  obtain ⟨ti, e1, e2⟩ := hq
  have hs' := hs.bool e1.symm
  obtain ⟨c1, c2, c3, c4⟩ := wanted_of hc hs'
  have go : GoTo G eo ti h t.length V → o.wp P a w next Φ := fun hg => by
    refine oper_sound (pc := fun _ _ => False) c1 hs' (SROK.mono (fun v h' hv => hv) (fun f l hf => hf.elim) hg) (fun v h' hv a' w' hx => ?_) (fun v h' hv => hv.elim)
    obtain ⟨hv1, rfl⟩ := hv
    rw [← c2] at hx
    exact hnext a' w' (hx.bool (e1.put (by rw [e1.length]; exact hv1)))
  have skip : VE t.length eo.dst undefE V → next (a.put o.dst undef) w := fun hv => by
    have hx := skip_sound eo.dst hs'
    rw [← c2]
    exact hnext _ _ (hx.bool (e1.put (by rw [e1.length]; exact hv)))
  unfold wpOp
  simp only [ho]
  unfold EvalTo at e2
  split at e2
  · rename_i hg
    rw [c3 hg]
    exact .inl (go e2)
  · rename_i g want hg
    obtain ⟨c, hcv, e3⟩ := e2
    rw [c4 g want c hg hcv]
    cases hw : (c == want) with
    | true => rw [hw] at e3; exact .inl (go (by simpa using e3))
    | false => rw [hw] at e3; exact skip (by simpa using e3)

/-- Behind an operation that writes: what was reckoned ahead still stands. -/
theorem DI.wrote {K : St → Prop} {t t' : List EV} {h h' : EH} {pend : List (Nat × EV)} {back l : List Nat} {x : Nat} {v : EV} {ag rest : List EOp} (hn : t.length = n)
    (hp : PendOK G es n t h pend) (hq : ∀ p ∈ pend, isX (nthO es p.1).i = false) (hsub : (pend.map (·.1)).Sublist back.reverse)
    (hpx : ∀ p ∈ pend, sameDst (nthO es x) (nthO es p.1) = false ∧ touches (nthO es x) (nthO es p.1) = false ∧ bitB bf x p.1 = false)
    (hpp : (pend.map (·.1)).Pairwise fun p q => pairOk bf es p q = true)
    (hte : TE t' (foldP es t pend)) (hag : againsX bf es x [] back = some ag) (hrest : emitX bf es back l = some rest)
    (hs : SeqOK P G (ag ++ rest) ⟨putT t' (nthO es x).dst v, h'⟩ K) : DI P G bf es n K (putT t (nthO es x).dst v) h' pend back l := by
  obtain ⟨tq, q1, q2, q3⟩ := agains_run (n := n) back [] ag _ hag hs
  have hfold : foldP es (putT t (nthO es x).dst v) pend = putT (foldP es t pend) (nthO es x).dst v := foldP_put fun p hp => (hpx p hp).1
  have hte2 : TE (putT t' (nthO es x).dst v) (foldP es (putT t (nthO es x).dst v) pend) := by rw [hfold]; exact hte.put (VE.refl _ _ _)
  have hp1 := PendOK.put (n := n) (x := nthO es x) (e := v) (fun p hh => ⟨(hpx p hh).1, (hpx p hh).2.1⟩) hp
  refine ⟨PendOK.heap hq (fun l1 r V l2 hl hrd he => ?_) hp1, hq, hsub, tq, rest, q1.trans hte2, hrest, q2⟩
  have hmap : pend.map (·.1) = l1.map (·.1) ++ r :: l2.map (·.1) := by rw [hl]; simp
  have hrev : ((l2.map (·.1)).reverse ++ r :: (l1.map (·.1)).reverse).Sublist back := by
    have := hsub.reverse
    rw [hmap] at this
    simpa using this
  obtain ⟨r1, r2, hb, s1, s2⟩ := List.append_sublist_iff.1 hrev
  obtain ⟨r3, r4, hb2, s3, s4⟩ := List.cons_sublist_iff.1 s2
  obtain ⟨r5, r6, hb3⟩ := List.append_of_mem s3
  obtain ⟨a1, a2, a3, _⟩ := q3 (r1 ++ r5) r (r6 ++ r4) (by rw [hb, hb2, hb3]; simp) hrd (hpx (r, V) (by rw [hl]; simp)).2.2
  have hl2 : ∀ p ∈ l2, touches (nthO es p.1) (nthO es r) = false := fun p hp2 => a3 p.1 (by
    have : p.1 ∈ (l2.map (·.1)).reverse := by simp; exact ⟨p.2, hp2⟩
    simp [s1.subset this])
  have hsd : ∀ p ∈ l2, sameDst (nthO es r) (nthO es p.1) = false := fun p hp2 => by
    rw [hmap, List.pairwise_append] at hpp
    have := (List.pairwise_cons.1 hpp.2.1).1 p.1 (by simp; exact ⟨p.2, hp2⟩)
    exact (pairOk_spec this).2.2.2.1
  have hfull : foldP es (putT t (nthO es x).dst v) pend = foldP es (putT (foldP es (putT t (nthO es x).dst v) l1) (nthO es r).dst V) l2 := by
    rw [hl, foldP_app]; rfl
  refine a1 h V _ (fun d hd => ?_) (fun d hd hdn => ?_) he
  · rw [hte2.get d, hfull, foldP_get hd hl2, touch_get a2 _ V d hd]
  · rw [hte2.get d, hfull, foldP_dst hd hsd, hd]
    change toB (getT (setT _ d V) d) = toB V
    rw [getT_setT_lt _ d V (by rw [foldP_length, putT_length, hn]; exact hdn)]

/-- **Whatever comes up comes to the one order's end.** -/
theorem draw_run (hes : compOps P ops ops.toList = some es) (hst : Stat ops bf) : ∀ (fuel : Nat) (listed : Array Bool) (a : Act) (w : World) (t : List EV) (h : EH) (pend : List (Nat × EV)) (back ordR : List Nat),
    SimX G I0 ρ0 w0 ⟨t, h⟩ a w → t.length = n → DI P G bf es n (fun st' => ∀ a' w', SimX G I0 ρ0 w0 st' a' w' → Φ .normal a' w') t h pend back ordR →
    LF ops bf es listed (pend.map (·.1) ++ ordR) → (pend.map (·.1) ++ ordR).length = fuel → wpAny P .any ops Φ fuel listed a w := by
  intro fuel
  induction fuel with
  | zero =>
    intro listed a w t h pend back ordR hs hn d f hlen
    have he : pend.map (·.1) ++ ordR = [] := List.length_eq_zero_iff.1 hlen
    obtain ⟨hp, rfl⟩ := List.append_eq_nil_iff.1 he
    simp at hp; subst hp
    refine ⟨List.eq_nil_iff_forall_not_mem.2 fun j hj => by simpa using f.mem hj, ?_⟩
    obtain ⟨tc, l, e1, e2, e3⟩ := d.rest
    simp [emitX] at e2; subst e2
    exact e3 a w (hs.bool e1.symm)
  | succ fuel ih =>
    intro listed a w t h pend back ordR hs hn d f hlen
    refine ⟨fun hnil => ?_, fun j hj => ?_⟩
    · exfalso
      cases hu : pend.map (·.1) ++ ordR with
      | nil => rw [hu] at hlen; simp at hlen
      | cons p u =>
        rw [hu] at f
        have := f.first hst
        rw [hnil] at this; cases this
    · obtain ⟨pend', back', ordR', hsame, d', hhead⟩ := d.advance
      rw [← hsame] at f hlen
      clear d hsame
      obtain ⟨_, o, ho, _⟩ := mem_ready.1 hj
      have hco : compOper P ops o = some (nthO es j) := (compOps_at hes).2 j o (by simpa using ho)
      rcases List.mem_append.1 (f.mem hj) with hm | hm
      · -- its value is known
        obtain ⟨⟨j', V⟩, hjv, hj'⟩ := List.mem_map.1 hm
        simp only at hj'; subst hj'
        obtain ⟨l1, l2, hl⟩ := List.append_of_mem hjv
        subst hl
        have hu : (l1 ++ (j', V) :: l2).map (·.1) ++ ordR' = l1.map (·.1) ++ j' :: (l2.map (·.1) ++ ordR') := by simp
        have f' := f
        rw [hu] at f'
        have hw : ∀ p ∈ l1, sameDst (nthO es j') (nthO es p.1) = false ∧ touches (nthO es j') (nthO es p.1) = false ∧ touches (nthO es p.1) (nthO es j') = false := fun p hp => by
          have hpm : p.1 ∈ l1.map (·.1) := List.mem_map.2 ⟨p, hp, rfl⟩
          have hpr := (List.pairwise_append.1 f'.pairs).2.2 p.1 hpm j' (by simp)
          obtain ⟨_, _, _, k4, k5⟩ := pairOk_spec hpr
          obtain ⟨k6, k7⟩ := k5 (f'.wait hst hj (by simp [hpm]))
          exact ⟨sameDst_symm k4, k7, k6⟩
        obtain ⟨q1, q2, q3⟩ := PendOK.take hw d'.pd
        refine evq_wp ho hco hs (by rw [hn]; exact q1) fun a' w' hx => ?_
        refine ih _ a' w' _ h (l1 ++ l2) back' ordR' hx (by rw [putT_length]; exact hn) ⟨q2, fun p hp => ?_, ?_, ?_⟩ ?_ ?_
        · exact d'.quiet p (by rcases List.mem_append.1 hp with hp | hp <;> simp [hp])
        · refine List.Sublist.trans ?_ d'.sub
          simp only [List.map_append, List.map_cons]
          exact (List.Sublist.refl _).append (List.sublist_cons_self _ _)
        · obtain ⟨tc, l, e1, e2, e3⟩ := d'.rest
          exact ⟨tc, l, by rw [← q3]; exact e1, e2, e3⟩
        · have := f'.step hst hj
          simpa using this
        · rw [hu] at hlen
          simp at hlen ⊢; omega
      · cases hor : ordR' with
        | nil => rw [hor] at hm; cases hm
        | cons x l =>
          subst hor
          have hxx := hhead x l rfl
          have hpw := List.pairwise_append.1 f.pairs
          rcases List.mem_cons.1 hm with rfl | hm
          · -- the head writes
            have hpx : ∀ p ∈ pend', sameDst (nthO es p.1) (nthO es j) = false ∧ touches (nthO es p.1) (nthO es j) = false ∧ touches (nthO es j) (nthO es p.1) = false ∧ bitB bf j p.1 = false := fun p hp => by
              have hpm : p.1 ∈ pend'.map (·.1) := List.mem_map.2 ⟨p, hp, rfl⟩
              obtain ⟨_, _, _, k4, k5⟩ := pairOk_spec (hpw.2.2 p.1 hpm j (by simp))
              have hb := f.wait hst hj (i := p.1) (List.mem_append.2 (.inl hpm))
              exact ⟨k4, (k5 hb).1, (k5 hb).2, hb⟩
            obtain ⟨tc, el, e1, e2, e3⟩ := d'.rest
            simp only [emitX, hxx, if_true] at e2
            cases hag : againsX bf es j [] back' with
            | none => simp [hag] at e2
            | some ag =>
              cases hrest : emitX bf es back' l with
              | none => simp [hag, hrest] at e2
              | some rest =>
                simp [hag, hrest] at e2
                subst e2
                obtain ⟨t', k1, k2⟩ := e3.head
                obtain ⟨ti, i1, i2⟩ := unfold_te (es := es) (x := nthO es j) (fun p hp => (hpx p hp).2.1) (k1.trans e1)
                have hs' := hs.bool i1.symm
                obtain ⟨c1, c2, c3, c4⟩ := wanted_of hco hs'
                have hstep : stepI stdA G t' h (nthO es j).i = stepI stdA G ti h (nthO es j).i := stepI_congr (looks_congr fun d hd => (i2 d hd).symm)
                have after : ∀ v h', SeqOK P G (ag ++ rest) ⟨putT t' (nthO es j).dst v, h'⟩ (fun st' => ∀ a' w', SimX G I0 ρ0 w0 st' a' w' → Φ .normal a' w') →
                    ∀ a' w', SimX G I0 ρ0 w0 ⟨putT ti (nthO es j).dst v, h'⟩ a' w' → wpAny P .any ops Φ fuel (listed.setIfInBounds j true) a' w' := fun v h' hsq a' w' hx => by
                  refine ih _ a' w' (putT t (nthO es j).dst v) h' pend' back' l (hx.bool (i1.put (VE.refl _ _ _))) (by rw [putT_length]; exact hn) ?_ (f.step hst hj) (by simp at hlen ⊢; omega)
                  exact DI.wrote hn d'.pd d'.quiet d'.sub (fun p hp => ⟨sameDst_symm (hpx p hp).1, (hpx p hp).2.2.1, (hpx p hp).2.2.2⟩) hpw.1 (k1.trans e1) hag hrest hsq
                have go : SROK (fun v h' => SeqOK P G (ag ++ rest) ⟨putT t' (nthO es j).dst v, h'⟩ (fun st' => ∀ a' w', SimX G I0 ρ0 w0 st' a' w' → Φ .normal a' w'))
                    (fun f args => goodF P f = true ∧ Tri P G f args h fun v h' => SeqOK P G (ag ++ rest) ⟨putT t' (nthO es j).dst v, h'⟩ (fun st' => ∀ a' w', SimX G I0 ρ0 w0 st' a' w' → Φ .normal a' w')) (stepI stdA G t' h (nthO es j).i) →
                    o.wp P a w (wpAny P .any ops Φ fuel (listed.setIfInBounds j true)) Φ := fun hok => by
                  rw [hstep] at hok
                  exact oper_sound c1 hs' hok (fun v h' hv a' w' hx => after v h' hv a' w' (by rw [c2]; exact hx)) (fun v h' hv a' w' hx => after v h' hv a' w' (by rw [c2]; exact hx))
                unfold wpOp
                simp only [ho]
                rcases k2 with ⟨hg, hok⟩ | ⟨g, want, c, hg, hcv, hok⟩
                · rw [c3 hg]; exact .inl (go hok)
                · have hgi : getT ti g = .lit (.bool c) := by rw [i2 g (by simp [looksAtE, hg])]; exact hcv
                  rw [c4 g want c hg hgi]
                  cases hw : (c == want) with
                  | true => rw [hw] at hok; exact .inl (go (by simpa using hok))
                  | false =>
                    rw [hw] at hok
                    have := after undefE h (by simpa using hok) (a.put o.dst undef) w (by rw [c2]; exact skip_sound _ hs')
                    simpa using this
          · -- behind the head: it waits for it
            exfalso
            have h1 := (pairOk_spec ((List.pairwise_cons.1 hpw.2.1).1 j hm)).2.2.1 hxx
            have h2 := f.wait hst hj (i := x) (by simp)
            rw [h1] at h2; cases h2

theorem perm_length : ∀ (n : Nat) (l : List Nat), l.Pairwise (· ≠ ·) → (∀ i ∈ l, i < n) → (∀ i, i < n → i ∈ l) → l.length = n
  | 0, l, _, h, _ => by
    cases l with
    | nil => rfl
    | cons x l => exact absurd (h x (by simp)) (by omega)
  | n + 1, l, hp, h1, h2 => by
    obtain ⟨l1, l2, rfl⟩ := List.append_of_mem (h2 n (by omega))
    rw [List.pairwise_append, List.pairwise_cons] at hp
    obtain ⟨p1, ⟨p2, p3⟩, p4⟩ := hp
    have := perm_length n (l1 ++ l2) (List.pairwise_append.2 ⟨p1, p3, fun a ha b hb => p4 a ha b (by simp [hb])⟩)
      (fun i hi => by
        have h3 : i < n + 1 := h1 i (by rcases List.mem_append.1 hi with hi | hi <;> simp [hi])
        have h4 : i ≠ n := by
          rcases List.mem_append.1 hi with hi | hi
          · exact p4 i hi n (by simp)
          · exact fun e => p2 i hi e.symm
        omega)
      (fun i hi => by
        have := h2 i (by omega)
        rcases List.mem_append.1 this with hm | hm
        · simp [hm]
        · rcases List.mem_cons.1 hm with rfl | hm
          · omega
          · simp [hm])
    simp at this ⊢; omega

/-- **Regions that draw their order are sound.** -/
theorem draw_sound (hm : P.follows .mixedOrders = true) : DrawSound P G := by
  intro I0 ρ0 w0 id ops l Φ st a w hc hs ok
  unfold compDraw at hc
  cases hes : compOps P ops ops.toList with
  | none => simp [hes] at hc
  | some es =>
    simp only [hes] at hc
    split at hc
    · rename_i hb
      generalize hord : orderX (Region.before ops) (List.range ops.size) ((List.range ops.size).filter fun i => isX (nthO es i).i) 0 ((List.range ops.size).filter fun i => isX (nthO es i).i) = ord at hb hc
      simp only [Bool.and_eq_true, List.all_eq_true, List.contains_iff_mem, Nat.blt_eq] at hb
      obtain ⟨⟨⟨h1, h2⟩, h3⟩, h4⟩ := hb
      have hpw := pairsOk_iff.1 h1
      have hlt : ∀ i ∈ ord, i < ops.size := h4
      have hin : ∀ i, i < ops.size → i ∈ ord := fun i hi => h3 i (List.mem_range.2 hi)
      have hlen : ord.length = ops.size := perm_length _ _ (hpw.imp fun hh => (pairOk_spec hh).1) hlt hin
      have hst : Stat ops (Region.before ops) := fun j o hj => by
        have := closedOk_spec h2 j o (by simpa using hj)
        simpa using this
      obtain ⟨t, h⟩ := st
      refine wp_region_any hm ?_
      refine draw_run (n := t.length) (es := es) (bf := Region.before ops) hes hst ops.size _ a _ t h [] [] ord hs.drew rfl ?_ ?_ (by simpa using hlen)
      · exact ⟨trivial, fun p hp => by simp at hp, by simp, t, l, .refl t, hc, ok⟩
      · refine ⟨by simp, by simpa using hpw, fun i => ?_, fun j i hj => ?_⟩
        · by_cases hi : i < ops.size
          · simp [hi, hin i hi]
          · have : i ∉ ord := fun hm => hi (hlt i hm)
            simp [hi, this]
        · exfalso
          simp only [Array.getD_eq_getD_getElem?, Array.getElem?_replicate] at hj
          split at hj <;> simp at hj
    · cases hc

end
end Go.Proofs.Ytplibngmgebigaa.Em
