/- Em43: small regions whose order is drawn and that no one order stands for: every order is walked. No condition but that the program follows the row of mixed orders. -/
import Derived.Test.YtmckingimnhoaaaGreatDoorX42
set_option linter.unusedVariables false
set_option linter.unusedSimpArgs false
namespace Go.Proofs.YtmckingimnhoaaaGreatDoor.Em
open Go
section
variable {P : Program} {G : List (List EV)} {ro : Option Nat} {I0 : Imm} {ρ0 : Ren} {w0 : World} {Q : Exit → Act → World → Prop}
def Both (a b : Prop) : Prop := a ∧ b
theorem Both.intro {a b : Prop} (h : a) (k : b) : Both a b := ⟨h, k⟩
def AnyOK (P : Program) (G : List (List EV)) (ro : Option Nat) (I0 : Imm) (ρ0 : Ren) (w0 : World) (Q : Exit → Act → World → Prop) (k : List KI) : ET → St → Prop
  | .done l, st => OKK P G ro I0 ρ0 w0 Q (.ops l :: k) st
  | .fork l a b, st => OKK P G ro I0 ρ0 w0 Q [.ops l, .mark fun s => Both (AnyOK P G ro I0 ρ0 w0 Q k a s) (AnyOK P G ro I0 ρ0 w0 Q k b s)] st
theorem AnyOK.doneR {k : List KI} {l : List EOp} {st : St} (h : OKK P G ro I0 ρ0 w0 Q (.ops l :: k) st) : AnyOK P G ro I0 ρ0 w0 Q k (.done l) st := h
theorem AnyOK.forkR {k : List KI} {l : List EOp} {a b : ET} {st : St} (h : OKK P G ro I0 ρ0 w0 Q [.ops l, .mark fun s => Both (AnyOK P G ro I0 ρ0 w0 Q k a s) (AnyOK P G ro I0 ρ0 w0 Q k b s)] st) : AnyOK P G ro I0 ρ0 w0 Q k (.fork l a b) st := h
theorem AnyOK.pre {k : List KI} (o : EOp) : ∀ (t : ET) (st : St), AnyOK P G ro I0 ρ0 w0 Q k (t.pre o) st = SeqOK P G [o] st (AnyOK P G ro I0 ρ0 w0 Q k t)
  | .done l, st => by
    show SeqOK P G ([o] ++ l) st _ = _
    rw [SeqOK.app]
    rfl
  | .fork l a b, st => by
    show SeqOK P G ([o] ++ l) st _ = _
    rw [SeqOK.app]
    rfl
theorem OKs.atMark {R : St → Prop} {s : St} {a : Act} {w : World} (h : OKs P G ro I0 ρ0 w0 Q [.mark R] s) (hs : SimX P G I0 ρ0 w0 s a w) : ∃ st, SimX P G I0 ρ0 w0 st a w ∧ R st :=
  h _ (KW.mark KW.nil) a w hs
theorem AnyOK.forkL {k : List KI} {a : Act} {w : World} : ∀ {cs : List ET} {st : St}, SimX P G I0 ρ0 w0 st a w → AnyOK P G ro I0 ρ0 w0 Q k (forkL cs) st → ∀ c ∈ cs, ∃ st', SimX P G I0 ρ0 w0 st' a w ∧ AnyOK P G ro I0 ρ0 w0 Q k c st'
  | [], _, _, _, c, hc => by cases hc
  | [c], st, hs, h, c', hc => by
    simp at hc; subst hc
    exact ⟨st, hs, h⟩
  | c :: c1 :: cs, st, hs, h, c', hc => by
    obtain ⟨st', h1, h2, h3⟩ := OKs.atMark (Q := Q) (s := st) h hs
    rcases List.mem_cons.1 hc with rfl | hc
    · exact ⟨st', h1, h2⟩
    · exact AnyOK.forkL (cs := c1 :: cs) h1 h3 c' hc
theorem op_any {ops : Array Oper} {Φ : Exit → Act → World → Prop} {j : Nat} {o : Oper} {eo : EOp} {st : St} {a : Act} {w : World} {K : St → Prop} {next : Act → World → Prop} (ho : ops[j]? = some o) (hc : compOper P ops o = some eo)
    (hs : SimX P G I0 ρ0 w0 st a w) (ok : SeqOK P G [eo] st K) (hn : ∀ s a' w', K s → SimX P G I0 ρ0 w0 s a' w' → next a' w') : wpOpIn (FR ro) 0 P ops Φ j next a w := by
  obtain ⟨t, h⟩ := st
  have key : ∀ (t' : List EV), SimX P G I0 ρ0 w0 ⟨t', h⟩ a w → ∀ b : Bool, Region.wanted o (yielded ops a.tmps) = b →
      (if b then SROK (fun v h' => K ⟨putT t' eo.dst v, h'⟩) (fun f args => CallOK P G f args h fun v h' => K ⟨putT t' eo.dst v, h'⟩) (stepI stdA G t' h eo.i)
       else K ⟨putT t' eo.dst undefE, h⟩) → wpOpIn (FR ro) 0 P ops Φ j next a w := by
    intro t' hs' b hb hok
    obtain ⟨c1, c2, _, _⟩ := wanted_of hc hs'
    unfold wpOpIn
    simp only [ho]
    rw [hb]
    cases b with
    | true =>
      simp only [if_true] at hok ⊢
      rw [c2] at hok
      exact oper_sound c1 hs' hok (fun v h' hp a' w' hx => hn _ a' w' hp hx) (fun v h' hp a' w' hx => hn _ a' w' hp hx)
    | false =>
      simp only [Bool.false_eq_true, if_false] at hok ⊢
      rw [c2] at hok
      exact ⟨fun _ _ => trivial, hn _ _ w hok (skip_sound _ hs')⟩
  simp only [SeqOK] at ok
  obtain ⟨c1, c2, c3, c4⟩ := wanted_of hc hs
  split at ok
  · rename_i hg
    exact key t hs true (c3 hg) (by simpa using ok)
  · rename_i g want hg
    split at ok
    · rename_i b hb
      exact key t hs (b == want) (by rw [c4 g want (some b) hg (by rw [hb]; rfl)]; cases b <;> cases want <;> rfl) (by
        by_cases hbw : (b == want) = true
        · rw [if_pos hbw]; rw [if_pos hbw] at ok; exact ok
        · rw [if_neg hbw]; rw [if_neg hbw] at ok; exact ok)
    · rename_i vs hb
      exact key t hs false (c4 g want none hg (by rw [hb]; rfl)) ok
    · rename_i b hb
      have use : ∀ bb : Bool, b = bb → wpOpIn (FR ro) 0 P ops Φ j next a w := by
        intro bb hbb
        subst hbb
        have hs2 := hs.lit hb
        obtain ⟨_, _, _, d4⟩ := wanted_of hc hs2
        have hb2 : getT (setT t g (.lit (.bool b))) g = .lit (.bool b) := getT_setT t g _ (.inl (by rw [hb]; simp [undefE]))
        refine key _ hs2 (b == want) (by rw [d4 g want (some b) hg (by rw [hb2]; rfl)]; cases b <;> cases want <;> rfl) ?_
        cases b with
        | true =>
          have := ok.1 rfl
          by_cases hbw : (true == want) = true
          · rw [if_pos hbw]; rw [if_pos hbw] at this; exact this
          · rw [if_neg hbw]; rw [if_neg hbw] at this; exact this
        | false =>
          have := ok.2 rfl
          by_cases hbw : (false == want) = true
          · rw [if_pos hbw]; rw [if_pos hbw] at this; exact this
          · rw [if_neg hbw]; rw [if_neg hbw] at this; exact this
      exact use b rfl
    · exact ok.elim
theorem forkB_mem {f : Nat → Nat → Option (ET × Nat)} : ∀ {js : List Nat} {b : Nat} {ts : List ET} {b' : Nat}, forkB f js b = some (ts, b') → ∀ j ∈ js, ∃ t b1 b2, t ∈ ts ∧ f j b1 = some (t, b2)
  | [], b, ts, b', _, j, hj => by cases hj
  | i :: js, 0, ts, b', h, j, hj => by simp [forkB] at h
  | i :: js, b + 1, ts, b', h, j, hj => by
    simp only [forkB] at h
    split at h
    · cases h
    rename_i t b1 h1
    split at h
    · cases h
    rename_i ts' b2 h2
    cases h
    rcases List.mem_cons.1 hj with rfl | hj
    · exact ⟨t, b, b1, by simp, h1⟩
    · obtain ⟨t', c1, c2, k1, k2⟩ := forkB_mem h2 j hj
      exact ⟨t', c1, c2, by simp [k1], k2⟩
theorem tree_sound {ops : Array Oper} {es : List EOp} {Φ : Exit → Act → World → Prop} {k : List KI} (hes : compOps P ops ops.toList = some es) (hfin : ∀ st a w, OKs P G ro I0 ρ0 w0 Q k st → SimX P G I0 ρ0 w0 st a w → Φ .normal a w) :
    ∀ (n b : Nat) (listed : Array Bool) (T : ET) (b' : Nat) (st : St) (a : Act) (w : World), treeA ops es n b listed = some (T, b') → SimX P G I0 ρ0 w0 st a w → AnyOK P G ro I0 ρ0 w0 Q k T st → wpAnyIn (FR ro) 0 P .any ops Φ n listed a w
  | 0, b, listed, T, b', st, a, w, hT, hs, hok => by
    unfold treeA at hT
    split at hT
    · rename_i hr
      cases hT
      exact ⟨hr, hfin st a w hok hs⟩
    · cases hT
  | n + 1, b, listed, T, b', st, a, w, hT, hs, hok => by
    have go : ∀ j ∈ Region.ready .any ops listed, ∀ (b1 b2 : Nat) (t : ET), (match treeA ops es n b1 (listed.setIfInBounds j true) with | none => none | some (t, b) => some (t.pre (nthO es j), b)) = some (t, b2) →
        (∃ st', SimX P G I0 ρ0 w0 st' a w ∧ AnyOK P G ro I0 ρ0 w0 Q k t st') → wpOpIn (FR ro) 0 P ops Φ j (wpAnyIn (FR ro) 0 P .any ops Φ n (listed.setIfInBounds j true)) a w := by
      intro j hj b1 b2 t ht ⟨st', hs', h'⟩
      split at ht
      · cases ht
      rename_i t0 b3 ht0
      cases ht
      rw [AnyOK.pre] at h'
      obtain ⟨_, o, ho, _⟩ := mem_ready.1 hj
      exact op_any ho ((compOps_at hes).2 j o (by simpa using ho)) hs' h' fun s a' w' hk hx => tree_sound hes hfin n _ _ _ _ s a' w' ht0 hx hk
    unfold treeA at hT
    split at hT
    · rename_i hr
      cases hT
      exact ⟨fun _ => hfin st a w hok hs, fun i hi => by rw [hr] at hi; cases hi⟩
    · rename_i j hr
      refine ⟨fun hr' => (by rw [hr'] at hr; cases hr), fun i hi => ?_⟩
      have hij : i = j := by rw [hr] at hi; simpa using hi
      subst hij
      exact go i hi b b' T hT ⟨st, hs, hok⟩
    · rename_i hr1 hr2
      split at hT
      · cases hT
      rename_i ts b2 hf
      cases hT
      refine ⟨fun hr' => absurd hr' hr1, fun j hj => ?_⟩
      obtain ⟨t, c1, c2, k1, k2⟩ := forkB_mem hf j hj
      exact go j hj c1 c2 t k2 (AnyOK.forkL hs hok t k1)
theorem OKs.any (hm : P.follows .mixedOrders = true) {t : ET} {k : List KI} {st : St} (h : AnyOK P G ro I0 ρ0 w0 Q k t st) : OKs P G ro I0 ρ0 w0 Q (.c (.any t) :: k) st := fun Φ hΦ a w hs => by
  cases hΦ with
  | c hc hk =>
    rename_i c Φ
    show c.wpIn (FR ro) 0 P Φ a w
    rcases compC_inv hc with ⟨h1, _⟩ | ⟨id, ops, draw, l, _, h1⟩ | ⟨a1, b1, x, y, _, h1, _⟩ | ⟨o, a1, b1, x, y, _, h1, _⟩ | ⟨id, a1, x, _, h1, _⟩ | ⟨a1, x, _, h1, _⟩ | ⟨id, _, h1⟩ | ⟨_, h1⟩ | ⟨_, _, _, _, _, _, _, h1, _⟩ | ⟨id, ops, t', rfl, h1, h2⟩
    all_goals (try (cases h1; done))
    cases h1
    unfold compAny at h2
    split at h2
    · cases h2
    rename_i es hes
    simp only [Option.map_eq_some_iff] at h2
    obtain ⟨⟨T, b'⟩, h2, rfl⟩ := h2
    exact wpIn_region_any hm (tree_sound hes (fun s a' w' hk' hs' => hk' Φ hk a' w' hs') _ _ _ T b' st a _ h2 hs.drew h)
theorem OKK.stopB {l : List EOp} {id : Nat} {c : EC} {e : EC} {k : List KI} {s : St} (h : OKs P G ro I0 ρ0 w0 Q (.c (.seq (.seq (.ops l) (.block id (.loop c))) e) :: k) s) :
    OKK P G ro I0 ρ0 w0 Q (.c (.seq (.seq (.ops l) (.block id (.loop c))) e) :: k) s := h
theorem OKK.anyS {t : ET} {k : List KI} {st : St} (hm : P.follows .mixedOrders = true) (h : AnyOK P G ro I0 ρ0 w0 Q k t st) : OKK P G ro I0 ρ0 w0 Q (.c (.any t) :: k) st := OKs.any hm h
end
end Go.Proofs.YtmckingimnhoaaaGreatDoor.Em
