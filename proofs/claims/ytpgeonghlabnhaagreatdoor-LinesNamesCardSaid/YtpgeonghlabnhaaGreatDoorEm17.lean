/- Em17: regions that draw their order are sound: 'draw_sound'. No conditions but that the program follows the row of mixed orders. -/
import Derived.Test.YtpgeonghlabnhaaGreatDoorEm16
set_option linter.unusedVariables false
set_option linter.unusedSimpArgs false
namespace Go.Proofs.YtpgeonghlabnhaaGreatDoor.Em
open Go
section
variable {P : Program} {PH : EV → EH → Prop} {G : List (List EV)} {bf : Array Nat} {es : List EOp} {n : Nat}
theorem gdE_toB {e : EV} {c : Option Bool} (h : gdE e = some c) : gdE (toB e) = some c := by
  cases e <;> first | exact h | (simp [gdE] at h)
/-- a load that was looked at again comes to the same -/
theorem again_go {t : List EV} {h : EH} {d : Nat} {agg : Bool} {k : Nat} {x : Operand} {post : EV → EH → Prop} {pc : FuncId → List EV → Prop}
    (hs : SROK post pc (stepI stdA G t h (.again d agg k x))) :
    post undefE h ∧ ((∀ c off, evalO G t x ≠ .iptr c off) → SROK (fun v h' => v = getT t d ∧ h' = h) (fun _ _ => False) (stepI stdA G t h (.load agg k x))) := by
  simp only [stepI, againE] at hs
  simp only [stepI, loadE]
  split at hs
  · rename_i id off hx
    split at hs
    · rename_i c hc
      split at hs
      · rename_i cs hr
        split at hs
        · rename_i v hm
          simp only [hx, hc, hr, hm]
          exact ⟨hs.2, fun _ => ⟨hs.1, rfl⟩⟩
        · exact hs.elim
      · exact hs.elim
    · exact hs.elim
  · rename_i id off hx
    split at hs
    · rename_i c hc
      simp only [hx, hc]
      obtain ⟨⟨cs, q1, q2, q3⟩, q4⟩ := hs
      exact ⟨q4, fun _ => ⟨cs, _, q1, q2, q3, rfl, rfl⟩⟩
    · exact hs.elim
  · rename_i c off hx
    exact ⟨hs, fun hn => absurd hx (hn c off)⟩
  · exact hs.elim
/-- a load out of memory that nobody writes comes to the same over every heap -/
theorem iptr_heap {o : EOp} {t : List EV} {h h' : EH} {agg : Bool} {k : Nat} {x : Operand} {V : EV} {c : List EV} {off : Nat} (ho : o.i = .load agg k x) (hx : evalO G t x = .iptr c off)
    (he : EvalTo G o t h n V) : EvalTo G o t h' n V := by
  have hgo : GoTo G o t h n V → GoTo G o t h' n V := fun hg => by
    unfold GoTo at *
    rw [ho] at hg ⊢
    simp only [stepI, loadE, hx] at hg ⊢
    obtain ⟨cs, v, q1, q2, q3, q4, _⟩ := hg
    exact ⟨cs, v, q1, q2, q3, q4, rfl⟩
  unfold EvalTo at *
  split
  · rename_i hg; simp only [hg] at he; exact hgo he
  · rename_i g want hg
    simp only [hg] at he
    obtain ⟨b, h1, h2⟩ := he
    refine ⟨b, h1, ?_⟩
    split
    · rename_i hc; rw [if_pos hc] at h2; exact hgo h2
    · rename_i hc; rw [if_neg hc] at h2; exact h2
/-- What looking again tells of one load: from what it came to ahead of the write to what it comes to behind it. -/
def AgainOK (G : List (List EV)) (o : EOp) (t : List EV) (h' : EH) (n : Nat) : Prop :=
  ∀ (h : EH) (V : EV) (T : List EV), (∀ d, looksAtE d o = true → toB (getT T d) = toB (getT t d)) → (∀ d, o.dst = some d → d < n → toB (getT t d) = toB V) → EvQ G o T h n V → EvQ G o T h' n V
theorem toB_ptr {a b : EV} (h : toB a = toB b) (hb : ∀ c, toB b ≠ .lit (.bool c)) : a = b := by
  cases a with
  | sb c => exact absurd h.symm (hb c)
  | _ => cases b with
    | sb c => exact absurd rfl (hb c)
    | _ => exact h
theorem again_at {t : List EV} {h : EH} {d : Nat} {agg : Bool} {k : Nat} {x : Operand} {post : EV → EH → Prop} {pc : FuncId → List EV → Prop}
    (hs : SROK post pc (stepI stdA G t h (.again d agg k x))) : ∀ c, toB (evalO G t x) ≠ .lit (.bool c) := by
  intro c hc
  simp only [stepI, againE] at hs
  split at hs
  · rename_i hx; rw [hx] at hc; cases hc
  · rename_i hx; rw [hx] at hc; cases hc
  · rename_i hx; rw [hx] at hc; cases hc
  · exact hs.elim
theorem SeqOK.again {r : EOp} {agg : Bool} {k d : Nat} {y : Operand} {l : List EOp} {t : List EV} {h' : EH} {K : St → Prop} (hi : r.i = .load agg k y) (hd : r.dst = some d)
    (hs : SeqOK P G (fun v s => PH v s.h) (⟨none, .again d agg k y, r.guard⟩ :: l) ⟨t, h'⟩ K) : ∃ t', TE t' t ∧ SeqOK P G (fun v s => PH v s.h) l ⟨t', h'⟩ K ∧ AgainOK G r t h' n := by
  obtain ⟨t', h1, h2⟩ := hs.head
  simp only [putT] at h2
  have mixed : ∀ T, (∀ e, looksAtE e r = true → toB (getT T e) = toB (getT t e)) → ∀ ti, TE ti T → ∀ e, looksAtE e r = true → toB (getT ti e) = toB (getT t' e) :=
    fun T hT ti hti e he => (hti.get e).trans ((hT e he).trans (h1.get e).symm)
  have evy : ∀ ti, (∀ e, looksAtE e r = true → toB (getT ti e) = toB (getT t' e)) → toB (evalO G ti y) = toB (evalO G t' y) := fun ti hm => by
    cases y with
    | tmp e => exact hm e (by simp [looksAtE, hi, eiOps])
    | _ => rfl
  have load : ∀ {post : EV → EH → Prop} {pc : FuncId → List EV → Prop}, SROK post pc (stepI stdA G t' h' (.again d agg k y)) → ∀ (h : EH) (V : EV) (T ti : List EV), (∀ e, looksAtE e r = true → toB (getT T e) = toB (getT t e)) →
      TE ti T → (∀ e, r.dst = some e → e < n → toB (getT t e) = toB V) → GoTo G r ti h n V → GoTo G r ti h' n V := fun hsr h V T ti hT hti hV hg => by
    have hy : evalO G ti y = evalO G t' y := toB_ptr (evy ti (mixed T hT ti hti)) (again_at hsr)
    obtain ⟨k1, k2⟩ := again_go hsr
    by_cases hip : ∃ c off, evalO G t' y = .iptr c off
    · obtain ⟨c, off, hc⟩ := hip
      unfold GoTo at *
      rw [hi] at hg ⊢
      simp only [stepI, loadE, hy, hc] at hg ⊢
      obtain ⟨cs, v, q1, q2, q3, q4, _⟩ := hg
      exact ⟨cs, v, q1, q2, q3, q4, rfl⟩
    · have := k2 fun c off hc => hip ⟨c, off, hc⟩
      unfold GoTo
      rw [hi]
      simp only [stepI] at this ⊢
      rw [hy]
      refine SROK.mono (fun v hh hv => ⟨fun e he hn => ?_, hv.2⟩) (fun _ _ hf => hf) this
      rw [hv.1]
      have hde : d = e := by rw [hd] at he; cases he; rfl
      subst hde
      exact (h1.get d).trans (hV d hd hn)
  rcases h2 with ⟨hg, hh⟩ | ⟨g, want, c, hg, hc, hh⟩
  · refine ⟨t', h1, (again_go hh).1, fun h V T hT hV ⟨ti, hti, he⟩ => ⟨ti, hti, ?_⟩⟩
    simp only [EvalTo, hg] at he ⊢
    exact load hh h V T ti hT hti hV he
  · have hgl : looksAtE g r = true := by simp [looksAtE, hg]
    have hcc : ∀ (T ti : List EV) (c0 : Option Bool), (∀ e, looksAtE e r = true → toB (getT T e) = toB (getT t e)) → TE ti T → gdE (getT ti g) = some c0 → c0 = c := fun T ti c0 hT hti h0 => by
      have := mixed T hT ti hti g hgl
      have k0 := gdE_toB h0
      have k1 := gdE_toB hc
      rw [this, k1] at k0
      cases k0; rfl
    by_cases hw : (c == some want) = true
    · rw [if_pos hw] at hh
      refine ⟨t', h1, (again_go hh).1, fun h V T hT hV ⟨ti, hti, he⟩ => ⟨ti, hti, ?_⟩⟩
      simp only [EvalTo, hg] at he ⊢
      obtain ⟨c0, q1, q2⟩ := he
      have := hcc T ti c0 hT hti q1
      subst this
      refine ⟨c0, q1, ?_⟩
      rw [if_pos hw] at q2 ⊢
      exact load hh h V T ti hT hti hV q2
    · rw [if_neg hw] at hh
      refine ⟨t', h1, hh, fun h V T hT hV ⟨ti, hti, he⟩ => ⟨ti, hti, ?_⟩⟩
      simp only [EvalTo, hg] at he ⊢
      obtain ⟨c0, q1, q2⟩ := he
      have := hcc T ti c0 hT hti q1
      subst this
      refine ⟨c0, q1, ?_⟩
      rw [if_neg hw] at q2 ⊢
      exact q2
theorem AgainOK.te {o : EOp} {t t' : List EV} {h : EH} (ha : AgainOK G o t h n) (e : TE t t') : AgainOK G o t' h n :=
  fun h0 V T hT hV he => ha h0 V T (fun d hd => (hT d hd).trans (e.get d).symm) (fun d hd hn => (e.get d).trans (hV d hd hn)) he
/-- All that is looked at again behind a writing operation. -/
theorem agains_run {x : Nat} {h' : EH} {K : St → Prop} {l : List EOp} : ∀ (back since : List Nat) (ag : List EOp) (t : List EV), againsX bf es x since back = some ag → SeqOK P G (fun v s => PH v s.h) (ag ++ l) ⟨t, h'⟩ K →
    ∃ t', TE t' t ∧ SeqOK P G (fun v s => PH v s.h) l ⟨t', h'⟩ K ∧ ∀ b1 r b2, back = b1 ++ r :: b2 → isRd (nthO es r).i = true → bitB bf x r = false →
      AgainOK G (nthO es r) t h' n ∧ touches (nthO es r) (nthO es r) = false ∧ (∀ q ∈ b1, touches (nthO es q) (nthO es r) = false) ∧ ∀ q ∈ since, touches (nthO es q) (nthO es r) = false
  | [], since, ag, t, ha, hs => by
    simp [againsX] at ha; subst ha
    exact ⟨t, .refl t, hs, fun b1 r b2 hb => by cases b1 <;> simp at hb⟩
  | r :: back, since, ag, t, ha, hs => by
    simp only [againsX] at ha
    cases hrest : againsX bf es x (r :: since) back with
    | none => simp [hrest] at ha
    | some rest =>
      simp only [hrest] at ha
      split at ha
      · rename_i hc
        split at ha
        · rename_i htc
          split at ha
          · rename_i agg k y d hi hd
            cases ha
            obtain ⟨t1, e1, s1, a1⟩ := SeqOK.again (n := n) hi hd hs
            obtain ⟨t2, e2, s2, a2⟩ := agains_run back (r :: since) rest t1 hrest s1
            refine ⟨t2, e2.trans e1, s2, fun b1 r' b2 hb hr hx => ?_⟩
            cases b1 with
            | nil =>
              simp only [List.nil_append, List.cons.injEq] at hb
              obtain ⟨rfl, rfl⟩ := hb
              simp only [List.all_cons, Bool.and_eq_true, Bool.not_eq_true', List.all_eq_true] at htc
              exact ⟨a1, htc.1, fun q hq => by simp at hq, fun q hq => htc.2 q hq⟩
            | cons b b1 =>
              simp only [List.cons_append, List.cons.injEq] at hb
              obtain ⟨rfl, hb⟩ := hb
              obtain ⟨k1, k2, k3, k4⟩ := a2 b1 r' b2 hb hr hx
              refine ⟨k1.te e1, k2, fun q hq => ?_, fun q hq => k4 q (by simp [hq])⟩
              rcases List.mem_cons.1 hq with rfl | hq
              · exact k4 q (by simp)
              · exact k3 q hq
          · cases ha
        · cases ha
      · rename_i hc
        cases ha
        obtain ⟨t2, e2, s2, a2⟩ := agains_run back (r :: since) _ t hrest hs
        refine ⟨t2, e2, s2, fun b1 r' b2 hb hr hx => ?_⟩
        cases b1 with
        | nil =>
          simp only [List.nil_append, List.cons.injEq] at hb
          obtain ⟨rfl, rfl⟩ := hb
          simp [hr, hx] at hc
        | cons b b1 =>
          simp only [List.cons_append, List.cons.injEq] at hb
          obtain ⟨rfl, hb⟩ := hb
          obtain ⟨k1, k2, k3, k4⟩ := a2 b1 r' b2 hb hr hx
          refine ⟨k1, k2, fun q hq => ?_, fun q hq => k4 q (by simp [hq])⟩
          rcases List.mem_cons.1 hq with rfl | hq
          · exact k4 q (by simp)
          · exact k3 q hq
end
end Go.Proofs.YtpgeonghlabnhaaGreatDoor.Em
