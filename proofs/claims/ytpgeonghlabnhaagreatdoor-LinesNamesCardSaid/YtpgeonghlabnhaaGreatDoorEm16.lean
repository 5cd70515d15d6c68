/- Em16: regions that draw their order do what the one order does that the compiler wrote out. No conditions beyond those written. -/
import Derived.Test.YtpgeonghlabnhaaGreatDoorEm14
import Derived.Test.YtpgeonghlabnhaaGreatDoorEm15
set_option linter.unusedVariables false
set_option linter.unusedSimpArgs false
namespace Go.Proofs.YtpgeonghlabnhaaGreatDoor.Em
open Go
/-- What an operation that is carried out comes to. -/
def GoTo (G : List (List EV)) (o : EOp) (t : List EV) (h : EH) (n : Nat) (V : EV) : Prop :=
  SROK (fun v h' => VE n o.dst v V ∧ h' = h) (fun _ _ => False) (stepI stdA G t h o.i)
/-- What an operation comes to, carried out or passed over. -/
def EvalTo (G : List (List EV)) (o : EOp) (t : List EV) (h : EH) (n : Nat) (V : EV) : Prop :=
  match o.guard with
  | none => GoTo G o t h n V
  | some (g, want) => ∃ c : Option Bool, gdE (getT t g) = some c ∧ if c == some want then GoTo G o t h n V else VE n o.dst undefE V
def EvQ (G : List (List EV)) (o : EOp) (t : List EV) (h : EH) (n : Nat) (V : EV) : Prop := ∃ ti, TE ti t ∧ EvalTo G o ti h n V
section
variable {G : List (List EV)}
theorem looks_congr {o : EOp} {t t' : List EV} (hl : ∀ d, looksAtE d o = true → getT t d = getT t' d) : ∀ x ∈ eiOps o.i, evalO G t x = evalO G t' x := by
  intro x hx
  refine evalO_congr fun d hd => hl d ?_
  subst hd
  simp only [looksAtE, Bool.or_eq_true, List.any_eq_true]
  exact .inl ⟨_, hx, by simp⟩
theorem EvalTo.congr {o : EOp} {t t' : List EV} {h : EH} {n : Nat} {V : EV} (hl : ∀ d, looksAtE d o = true → getT t d = getT t' d) (he : EvalTo G o t h n V) : EvalTo G o t' h n V := by
  have hs : stepI stdA G t h o.i = stepI stdA G t' h o.i := stepI_congr (looks_congr hl)
  unfold EvalTo GoTo at *
  rw [hs] at he
  cases hg : o.guard with
  | none => simpa [hg] using he
  | some p =>
    obtain ⟨g, want⟩ := p
    simp only [hg] at he ⊢
    obtain ⟨c, h1, h2⟩ := he
    exact ⟨c, by rw [← hl g (by simp [looksAtE, hg])]; exact h1, h2⟩
theorem EvalTo.mono {o : EOp} {t : List EV} {h : EH} {n : Nat} {V V' : EV} (hv : VE n o.dst V V') (he : EvalTo G o t h n V) : EvalTo G o t h n V' := by
  have hx : ∀ v, VE n o.dst v V → VE n o.dst v V' := fun v hv' d hd hn => (hv' d hd hn).trans (hv d hd hn)
  have hgo : GoTo G o t h n V → GoTo G o t h n V' := fun hg => SROK.mono (fun v h' hh => ⟨hx v hh.1, hh.2⟩) (fun _ _ hh => hh) hg
  unfold EvalTo at *
  split
  · rename_i hg; simp only [hg] at he; exact hgo he
  · rename_i g want hg
    simp only [hg] at he
    obtain ⟨c, h1, h2⟩ := he
    refine ⟨c, h1, ?_⟩
    split
    · rename_i hc; rw [if_pos hc] at h2; exact hgo h2
    · rename_i hc; rw [if_neg hc] at h2; exact hx _ h2
theorem EvQ.te {o : EOp} {t t' : List EV} {h : EH} {n : Nat} {V : EV} (he : EvQ G o t h n V) (e : TE t t') : EvQ G o t' h n V := by
  obtain ⟨ti, h1, h2⟩ := he
  exact ⟨ti, h1.trans e, h2⟩
theorem touch_get {x o : EOp} (ht : touches x o = false) (t : List EV) (e : EV) (d : Nat) (hd : looksAtE d o = true) : getT (putT t x.dst e) d = getT t d := by
  unfold touches at ht
  cases hx : x.dst with
  | none => rfl
  | some k =>
    simp only [hx] at ht
    refine getT_setT_ne t k d e fun hkd => ?_
    subst hkd
    rw [ht] at hd; cases hd
theorem EvQ.put {x o : EOp} {t : List EV} {h : EH} {n : Nat} {V : EV} (he : EvQ G o t h n V) (ht : touches x o = false) (e : EV) : EvQ G o (putT t x.dst e) h n V := by
  obtain ⟨ti, h1, h2⟩ := he
  exact ⟨putT ti x.dst e, h1.put (VE.refl _ _ _), h2.congr fun d hd => (touch_get ht ti e d hd).symm⟩
/-- back to what stood there -/
def backT (t' t : List EV) (dst : Option Nat) : List EV :=
  match dst with
  | some d => setT t' d (getT t d)
  | none => t'
theorem backT_te {t' t : List EV} {dst : Option Nat} {e : EV} (h : TE t' (putT t dst e)) : TE (backT t' t dst) t := by
  cases dst with
  | none => exact h
  | some d =>
    unfold TE at *
    simp only [backT, putT] at *
    rw [map_setT, h, map_setT, setT_setT, toB_getT, setT_getT]
theorem backT_get {x o : EOp} (ht : touches x o = false) (t' t : List EV) (d : Nat) (hd : looksAtE d o = true) : getT (backT t' t x.dst) d = getT t' d := by
  have := touch_get ht t' (match x.dst with | some k => getT t k | none => undefE) d hd
  cases hx : x.dst with
  | none => rfl
  | some k => simpa [hx, backT, putT] using this
theorem EvQ.unput {x o : EOp} {t : List EV} {h : EH} {n : Nat} {V e : EV} (he : EvQ G o (putT t x.dst e) h n V) (ht : touches x o = false) : EvQ G o t h n V := by
  obtain ⟨ti, h1, h2⟩ := he
  exact ⟨backT ti t x.dst, backT_te h1, h2.congr fun d hd => (backT_get ht ti t d hd).symm⟩
theorem putT_comm {x y : EOp} (h : sameDst x y = false) (t : List EV) (v u : EV) : putT (putT t x.dst v) y.dst u = putT (putT t y.dst u) x.dst v := by
  unfold sameDst at h
  cases hx : x.dst with
  | none => cases hy : y.dst <;> rfl
  | some d => cases hy : y.dst with
    | none => rfl
    | some e => simp only [hx, hy] at h; exact setT_comm t d e v u (by simpa using h)
theorem sameDst_symm {x y : EOp} (h : sameDst x y = false) : sameDst y x = false := by
  unfold sameDst at *
  cases hx : x.dst <;> cases hy : y.dst <;> simp_all
  exact fun he => h he.symm
variable (G) (es : List EOp) (n : Nat)
/-- what was reckoned ahead of its turn -/
def foldP : List EV → List (Nat × EV) → List EV
  | t, [] => t
  | t, (i, V) :: l => foldP (putT t (nthO es i).dst V) l
def PendOK : List EV → EH → List (Nat × EV) → Prop
  | _, _, [] => True
  | t, h, (i, V) :: l => EvQ G (nthO es i) t h n V ∧ PendOK (putT t (nthO es i).dst V) h l
variable {G es n}
theorem foldP_te : ∀ {l : List (Nat × EV)} {t t' : List EV}, TE t t' → TE (foldP es t l) (foldP es t' l)
  | [], _, _, h => h
  | (i, V) :: l, _, _, h => foldP_te (l := l) (h.put (VE.refl _ _ _))
theorem foldP_app : ∀ (l m : List (Nat × EV)) (t : List EV), foldP es t (l ++ m) = foldP es (foldP es t l) m
  | [], _, _ => rfl
  | (i, V) :: l, m, t => by simp [foldP, foldP_app l m]
theorem foldP_length : ∀ (l : List (Nat × EV)) (t : List EV), (foldP es t l).length = t.length
  | [], _ => rfl
  | (i, V) :: l, t => by simp [foldP, foldP_length l, putT_length]
theorem foldP_put {x : EOp} {e : EV} : ∀ {l : List (Nat × EV)} {t : List EV}, (∀ p ∈ l, sameDst x (nthO es p.1) = false) → foldP es (putT t x.dst e) l = putT (foldP es t l) x.dst e
  | [], _, _ => rfl
  | (i, V) :: l, t, h => by
    simp only [foldP]
    rw [putT_comm (h (i, V) (by simp)), foldP_put fun p hp => h p (by simp [hp])]
theorem PendOK.put {x : EOp} {e : EV} {h : EH} : ∀ {l : List (Nat × EV)} {t : List EV}, (∀ p ∈ l, sameDst x (nthO es p.1) = false ∧ touches x (nthO es p.1) = false) → PendOK G es n t h l →
    PendOK G es n (putT t x.dst e) h l
  | [], _, _, _ => trivial
  | (i, V) :: l, t, hl, hp => by
    obtain ⟨h1, h2⟩ := hl (i, V) (by simp)
    refine ⟨hp.1.put h2 e, ?_⟩
    rw [putT_comm h1]
    exact PendOK.put (fun p hp => hl p (by simp [hp])) hp.2
theorem PendOK.take {j : Nat} {V : EV} {l2 : List (Nat × EV)} {h : EH} : ∀ {l1 : List (Nat × EV)} {t : List EV},
    (∀ p ∈ l1, sameDst (nthO es j) (nthO es p.1) = false ∧ touches (nthO es j) (nthO es p.1) = false ∧ touches (nthO es p.1) (nthO es j) = false) → PendOK G es n t h (l1 ++ (j, V) :: l2) →
    EvQ G (nthO es j) t h n V ∧ PendOK G es n (putT t (nthO es j).dst V) h (l1 ++ l2) ∧ foldP es t (l1 ++ (j, V) :: l2) = foldP es (putT t (nthO es j).dst V) (l1 ++ l2)
  | [], _, _, hp => ⟨hp.1, hp.2, rfl⟩
  | (i, U) :: l1, t, hl, hp => by
    obtain ⟨h1, h2, h3⟩ := hl (i, U) (by simp)
    obtain ⟨q1, q2, q3⟩ := PendOK.take (l1 := l1) (fun p hp => hl p (by simp [hp])) hp.2
    refine ⟨q1.unput h3, ⟨hp.1.put h2 V, ?_⟩, ?_⟩
    · rw [putT_comm h1]; exact q2
    · simp only [List.cons_append, foldP]
      rw [putT_comm h1]; exact q3
theorem PendOK.app {h : EH} : ∀ {l m : List (Nat × EV)} {t : List EV}, PendOK G es n t h l → PendOK G es n (foldP es t l) h m → PendOK G es n t h (l ++ m)
  | [], _, _, _, hm => hm
  | (i, V) :: l, m, t, hl, hm => ⟨hl.1, PendOK.app hl.2 hm⟩
theorem PendOK.at {h : EH} {j : Nat} {V : EV} {l2 : List (Nat × EV)} : ∀ {l1 : List (Nat × EV)} {t : List EV}, PendOK G es n t h (l1 ++ (j, V) :: l2) → EvQ G (nthO es j) (foldP es t l1) h n V
  | [], _, hp => hp.1
  | (i, U) :: l1, t, hp => PendOK.at (l1 := l1) hp.2
theorem srok_onto {post : EV → EH → Prop} {post' : EV → EH → Prop} {pc : FuncId → List EV → Prop} {h' : EH} (hp : ∀ v h, post v h → post' v h') : ∀ {r : SR}, SROK post pc r → (∀ f l, ¬ pc f l) → SROK post' pc (r.onto h')
  | .stuck, h, _ => h
  | .ret _ _, h, _ => hp _ _ h
  | .need _ r, h, hc => ⟨h.1, srok_onto hp h.2 hc⟩
  | .look .., ⟨cs, v, q1, q2, q3, q4⟩, _ => ⟨cs, v, q1, q2, q3, hp _ _ q4⟩
  | .br .., h, _ => ⟨fun hb => hp _ _ (h.1 hb), fun hb => hp _ _ (h.2 hb)⟩
  | .opt .., h, _ => ⟨fun hn => hp _ _ (h.1 hn), fun x hx => hp _ _ (h.2 x hx)⟩
  | .call _ _, h, hc => (hc _ _ h).elim
  | .same .., h, _ => ⟨h.1, hp _ _ h.2⟩
  | .lookS .., h, _ => ⟨h.1, hp _ _ h.2⟩
/-- What doesn't read the heap comes to the same over every heap. -/
theorem EvalTo.heap {o : EOp} {t : List EV} {h h' : EH} {V : EV} (hx : isX o.i = false) (hr : isRd o.i = false) (he : EvalTo G o t h n V) :
    EvalTo G o t h' n V := by
  have hgo : GoTo G o t h n V → GoTo G o t h' n V := fun hg => by
    unfold GoTo at *
    rw [stepI_onto (h := h) (h' := h') hx hr]
    exact srok_onto (fun v h hh => ⟨hh.1, rfl⟩) hg (fun _ _ hh => hh)
  unfold EvalTo at *
  split
  · rename_i hg; simp only [hg] at he; exact hgo he
  · rename_i g want hg
    simp only [hg] at he
    obtain ⟨c, h1, h2⟩ := he
    refine ⟨c, h1, ?_⟩
    split
    · rename_i hc; rw [if_pos hc] at h2; exact hgo h2
    · rename_i hc; rw [if_neg hc] at h2; exact h2
theorem PendOK.heap {h h' : EH} : ∀ {l : List (Nat × EV)} {t : List EV}, (∀ p ∈ l, isX (nthO es p.1).i = false) →
    (∀ l1 r V l2, l = l1 ++ (r, V) :: l2 → isRd (nthO es r).i = true → EvQ G (nthO es r) (foldP es t l1) h n V → EvQ G (nthO es r) (foldP es t l1) h' n V) → PendOK G es n t h l → PendOK G es n t h' l
  | [], _, _, _, _ => trivial
  | (i, V) :: l, t, hq, hr, hp => by
    refine ⟨?_, PendOK.heap (fun p hp => hq p (by simp [hp])) (fun l1 r U l2 hl hrd he => hr ((i, V) :: l1) r U l2 (by simp [hl]) hrd he) hp.2⟩
    cases hc : isRd (nthO es i).i with
    | true => exact hr [] i V l rfl hc hp.1
    | false =>
      obtain ⟨ti, h1, h2⟩ := hp.1
      exact ⟨ti, h1, h2.heap (hq (i, V) (by simp)) hc⟩
/-- A quiet outcome is one value. -/
theorem srok_pick {post : EV → EH → Prop} {pc : FuncId → List EV → Prop} {h : EH} : ∀ {r : SR}, SROK post pc r → r.onto h = r → ∃ V, post V h ∧ SROK (fun v h' => v = V ∧ h' = h) (fun _ _ => False) r
  | .stuck, hh, _ => hh.elim
  | .ret v h1, hh, ho => by
    simp only [SR.onto, SR.ret.injEq] at ho
    obtain ⟨_, rfl⟩ := ho
    exact ⟨v, hh, rfl, rfl⟩
  | .need b r, hh, ho => by
    simp only [SR.onto, SR.need.injEq] at ho
    obtain ⟨V, h1, h2⟩ := srok_pick hh.2 ho.2
    exact ⟨V, h1, hh.1, h2⟩
  | .look c off n agg h1, ⟨cs, v, q1, q2, q3, q4⟩, ho => by
    simp only [SR.onto, SR.look.injEq] at ho
    obtain ⟨_, _, _, _, rfl⟩ := ho
    exact ⟨v, q4, cs, v, q1, q2, q3, rfl, rfl⟩
  | .br b v1 h1 v2 h2, hh, ho => by
    simp only [SR.onto, SR.br.injEq] at ho
    obtain ⟨_, _, rfl, _, rfl⟩ := ho
    cases b with
    | true => exact ⟨v1, hh.1 rfl, fun _ => ⟨rfl, rfl⟩, fun hb => by cases hb⟩
    | false => exact ⟨v2, hh.2 rfl, fun hb => (by cases hb), fun _ => ⟨rfl, rfl⟩⟩
  | .opt o ok z h1, hh, ho => by
    simp only [SR.onto, SR.opt.injEq] at ho
    obtain ⟨_, _, _, rfl⟩ := ho
    cases o with
    | none => exact ⟨_, hh.1 rfl, fun _ => ⟨rfl, rfl⟩, fun x hx => by cases hx⟩
    | some x => exact ⟨_, hh.2 x rfl, fun hn => (by cases hn), fun y hy => (by cases hy; exact ⟨rfl, rfl⟩)⟩
  | .call _ _, _, ho => by simp [SR.onto] at ho
  | .same v w h1, hh, ho => by
    simp only [SR.onto, SR.same.injEq] at ho
    obtain ⟨_, _, rfl⟩ := ho
    exact ⟨_, hh.2, hh.1, rfl, rfl⟩
  | .lookS c off n agg w h1, hh, ho => by
    simp only [SR.onto, SR.lookS.injEq] at ho
    obtain ⟨_, _, _, _, _, rfl⟩ := ho
    exact ⟨_, hh.2, hh.1, rfl, rfl⟩
variable {P : Program} {PH : EV → EH → Prop}
/-- A step of a straight piece, whatever its test's spelling: what is asked of the operation. -/
theorem SeqOK.head {o : EOp} {l : List EOp} {t : List EV} {h : EH} {K : St → Prop} (hs : SeqOK P G (fun v s => PH v s.h) (o :: l) ⟨t, h⟩ K) :
    ∃ t', TE t' t ∧ ((o.guard = none ∧ SROK (fun v h' => SeqOK P G (fun v s => PH v s.h) l ⟨putT t' o.dst v, h'⟩ K) (fun f args => CallOK P G PH f args h fun v h' => SeqOK P G (fun v s => PH v s.h) l ⟨putT t' o.dst v, h'⟩ K) (stepI stdA G t' h o.i)) ∨
      ∃ g want c, o.guard = some (g, want) ∧ gdE (getT t' g) = some c ∧
        if c == some want then SROK (fun v h' => SeqOK P G (fun v s => PH v s.h) l ⟨putT t' o.dst v, h'⟩ K) (fun f args => CallOK P G PH f args h fun v h' => SeqOK P G (fun v s => PH v s.h) l ⟨putT t' o.dst v, h'⟩ K) (stepI stdA G t' h o.i)
        else SeqOK P G (fun v s => PH v s.h) l ⟨putT t' o.dst undefE, h⟩ K) := by
  simp only [SeqOK] at hs
  split at hs
  · rename_i hg; exact ⟨t, .refl t, .inl ⟨hg, hs⟩⟩
  · rename_i g want hg
    split at hs
    · rename_i b hb
      refine ⟨t, .refl t, .inr ⟨g, want, some b, hg, by rw [hb]; rfl, ?_⟩⟩
      cases b <;> cases want <;> exact hs
    · rename_i vs hb
      exact ⟨t, .refl t, .inr ⟨g, want, none, hg, by rw [hb]; rfl, hs⟩⟩
    · rename_i b hb
      have hte : ∀ c, b = c → TE (setT t g (.lit (.bool c))) t := fun c hc => by
        have : TE (setT t g (.lit (.bool c))) (setT t g (getT t g)) := (TE.refl t).set g (by rw [hb, hc]; rfl)
        rwa [setT_getT] at this
      have hget : ∀ c, getT (setT t g (.lit (.bool c))) g = .lit (.bool c) := fun c => getT_setT t g _ (.inl (by rw [hb]; simp [undefE]))
      cases b with
      | true => exact ⟨_, hte true rfl, .inr ⟨g, want, some true, hg, by rw [hget true]; rfl, by have := hs.1 rfl; cases want <;> exact this⟩⟩
      | false => exact ⟨_, hte false rfl, .inr ⟨g, want, some false, hg, by rw [hget false]; rfl, by have := hs.2 rfl; cases want <;> exact this⟩⟩
    · exact hs.elim
/-- A quiet operation of a straight piece. -/
theorem SeqOK.quiet {o : EOp} {l : List EOp} {t : List EV} {h : EH} {K : St → Prop} (hx : isX o.i = false) (hs : SeqOK P G (fun v s => PH v s.h) (o :: l) ⟨t, h⟩ K) (n : Nat) :
    ∃ t' V, TE t' t ∧ EvalTo G o t' h n V ∧ SeqOK P G (fun v s => PH v s.h) l ⟨putT t' o.dst V, h⟩ K := by
  obtain ⟨t', h1, h2⟩ := hs.head
  have go : SROK (fun v h' => SeqOK P G (fun v s => PH v s.h) l ⟨putT t' o.dst v, h'⟩ K) (fun f args => CallOK P G PH f args h fun v h' => SeqOK P G (fun v s => PH v s.h) l ⟨putT t' o.dst v, h'⟩ K) (stepI stdA G t' h o.i) →
      ∃ V, GoTo G o t' h n V ∧ SeqOK P G (fun v s => PH v s.h) l ⟨putT t' o.dst V, h⟩ K := fun hh => by
    obtain ⟨V, k1, k2⟩ := srok_pick hh (stepI_own hx)
    exact ⟨V, SROK.mono (fun v h' hv => ⟨hv.1 ▸ VE.refl _ _ _, hv.2⟩) (fun _ _ hf => hf) k2, k1⟩
  rcases h2 with ⟨hg, hh⟩ | ⟨g, want, c, hg, hc, hh⟩
  · obtain ⟨V, k1, k2⟩ := go hh
    exact ⟨t', V, h1, by simpa [EvalTo, hg] using k1, k2⟩
  · by_cases hw : (c == some want) = true
    · rw [if_pos hw] at hh
      obtain ⟨V, k1, k2⟩ := go hh
      exact ⟨t', V, h1, by simp only [EvalTo, hg]; exact ⟨c, hc, by rw [if_pos hw]; exact k1⟩, k2⟩
    · rw [if_neg hw] at hh
      exact ⟨t', undefE, h1, by simp only [EvalTo, hg]; exact ⟨c, hc, by rw [if_neg hw]; exact VE.refl _ _ _⟩, hh⟩
end
end Go.Proofs.YtpgeonghlabnhaaGreatDoor.Em
