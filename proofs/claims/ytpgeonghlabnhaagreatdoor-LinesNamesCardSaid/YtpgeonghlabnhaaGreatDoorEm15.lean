/- Em15: a run up to the next event is sound; the events' rules; a loop's rule; a function's contract out of its code. No conditions beyond those written. -/
import Derived.Test.YtpgeonghlabnhaaGreatDoorEm13
set_option linter.unusedVariables false
set_option linter.unusedSimpArgs false
namespace Go.Proofs.YtpgeonghlabnhaaGreatDoor.Em
open Go
/-- Regions that draw their order are sound. -/
def DrawSound (P : Program) (G : List (List EV)) : Prop :=
  ∀ (ro : Option Nat) (I0 : Imm) (ρ0 : Ren) (w0 : World) (id : Nat) (ops : Array Oper) (l : List EOp) (Φ : Exit → Act → World → Prop) (PH : EV → EH → Prop) (st : St) (a : Act) (w : World), compDraw P ops = some l →
    (∀ v h t, PH v h → PanQ P G I0 ρ0 w0 Φ v ⟨t, h⟩) →
    SimX P G I0 ρ0 w0 st a w → SeqOK P G (fun v s => PH v s.h) l st (fun st' => ∀ a' w', SimX P G I0 ρ0 w0 st' a' w' → Φ .normal a' w') → (Code.region id ops true).wpIn (FR ro) 0 P Φ a w
/-- From the head of a loop's next round. -/
def LoopWp (P : Program) (ro : Option Nat) (c : Code) (Φ : Exit → Act → World → Prop) (a : Act) (w : World) : Prop :=
  ∀ (b : Frame) (k : List Item) (cs : List Frame), b.roundOf = (FR ro).round → (FR ro).fn b.fn → (FR ro).room (cs.length + 1 + 0) → ∃ e a' w', Φ e a' w' ∧ ArrivesIn (Machine.fenced P (FR ro)) P (lone (b.atR a (.code c :: .inLoop c :: k)) cs w) b k cs e a' w'
theorem wp_of_loopWp {P : Program} {ro : Option Nat} {c : Code} {Φ : Exit → Act → World → Prop} {a : Act} {w : World} (h : LoopWp P ro c Φ a w) : (Code.loop c).wpIn (FR ro) 0 P Φ a w := by
  intro b k cs hro hb hr
  obtain ⟨e, a', w', hq, harr⟩ := h b k cs hro hb hr
  exact ⟨e, a', w', hq, .of_steps (.one (fenced_calm hb hr rfl) stepR_loop) harr⟩
theorem loopWp_of {P : Program} {ro : Option Nat} {c : Code} {Φ : Exit → Act → World → Prop} {a : Act} {w : World} (h : c.wpIn (FR ro) 0 P (Exit.then (LoopWp P ro c Φ) Φ) a w) : LoopWp P ro c Φ a w := by
  intro b k cs hro hb hr
  obtain ⟨e, a₁, w₁, hq, harr⟩ := h b (.inLoop c :: k) cs hro hb hr
  cases e with
  | normal =>
    obtain ⟨e₂, a₂, w₂, hq₂, harr₂⟩ := hq b k cs hro hb hr
    exact ⟨e₂, a₂, w₂, hq₂, .of_steps (StepsIn.trans harr (.one (fenced_calm hb hr rfl) stepR_inLoop)) harr₂⟩
  | exit id => exact ⟨_, a₁, w₁, hq, .pass (x := .inLoop c) rfl (fun _ _ => .inl (by simp)) harr⟩
  | goto l => exact ⟨_, a₁, w₁, hq, .pass (x := .inLoop c) rfl (fun _ _ => .inl (by simp)) harr⟩
  | ret => exact ⟨_, a₁, w₁, hq, .pass (x := .inLoop c) rfl (fun _ _ => .inl (by simp)) harr⟩
  | panic ch => exact ⟨_, a₁, w₁, hq, .pass (x := .inLoop c) rfl (fun _ _ => .inl (by simp)) harr⟩
  | outgrown => exact ⟨_, a₁, w₁, hq, .pass (x := .inLoop c) rfl (fun _ _ => .inl (by simp)) harr⟩
/-- Code without a region that draws its order. -/
def noDraw : Code → Bool
  | .region _ _ d => !d
  | .seq a b => noDraw a && noDraw b
  | .cond _ a b => noDraw a && noDraw b
  | .block _ c => noDraw c
  | .loop c => noDraw c
  | .rangeFunc _ _ a c => noDraw a && noDraw c
  | _ => true
section
variable (P : Program) (G : List (List EV)) (ro : Option Nat) (I0 : Imm) (ρ0 : Ren) (w0 : World) (Q : Exit → Act → World → Prop)
/-- What is to hold where the piece in front of a stack of pieces ends. (Where the places are known at which code gives up, no region draws its order.) -/
inductive KW : List KI → (Exit → Act → World → Prop) → Prop
  | nil : KW [] Q
  | c {c : Code} {ec : EC} {k : List KI} {Φ : Exit → Act → World → Prop} : compC P c = some ec → (I0.T = true → noDraw c = true) → KW k Φ → KW (.c ec :: k) (Exit.then (c.wpIn (FR ro) 0 P Φ) Φ)
  | blk {id : Nat} {k : List KI} {Φ : Exit → Act → World → Prop} : KW k Φ → KW (.blk id :: k) (Exit.inBlock id Φ)
  | mark {R : St → Prop} {k : List KI} {Φ : Exit → Act → World → Prop} : KW k Φ → KW (.mark R :: k) (Exit.then (fun a w => ∃ st, SimX P G I0 ρ0 w0 st a w ∧ R st) Φ)
  | lp {c : Code} {ec : EC} {k : List KI} {Φ : Exit → Act → World → Prop} : compC P c = some ec → (I0.T = true → noDraw c = true) → KW k Φ → KW (.lp ec :: k) (Exit.then (LoopWp P ro c Φ) Φ)
/-- From a state, the pieces of a stack come to a good end. -/
def OKs (k : List KI) (st : St) : Prop := ∀ Φ, KW P G ro I0 ρ0 w0 Q k Φ → ∀ a w, SimX P G I0 ρ0 w0 st a w → Φ .normal a w
def OKK (k : List KI) (st : St) : Prop :=
  match k with
  | .ops l :: k => SeqOK P G (PanK P G I0 ρ0 w0 Q) l st fun st' => OKs P G ro I0 ρ0 w0 Q k st'
  | k => OKs P G ro I0 ρ0 w0 Q k st
/-- What an event asks. -/
def OK (Fin : St → Prop) : Out → Prop
  | .stuck => False
  | .need b o => b = true ∧ OK Fin o
  | .br b k1 s1 k2 s2 => (b = true → OKK P G ro I0 ρ0 w0 Q k1 s1) ∧ (b = false → OKK P G ro I0 ρ0 w0 Q k2 s2)
  | .look c off n agg dst k s => ∃ cs v, cs.length = n ∧ (c.drop off).take n = cs ∧ mkV agg cs = some v ∧ OKK P G ro I0 ρ0 w0 Q k ⟨putT s.t dst v, s.h⟩
  | .opt o ok z dst k s => (o = none → OKK P G ro I0 ρ0 w0 Q k ⟨putT s.t dst (if ok then .tup [z, .lit (.bool false)] else z), s.h⟩) ∧
      ∀ x, o = some x → OKK P G ro I0 ρ0 w0 Q k ⟨putT s.t dst (if ok then .tup [x, .lit (.bool true)] else x), s.h⟩
  | .call f args dst k s => CallOK P G (fun v h' => PanK P G I0 ρ0 w0 Q v ⟨s.t, h'⟩) f args s.h fun v h' => OKK P G ro I0 ρ0 w0 Q k ⟨putT s.t dst v, h'⟩
  | .same v w o => v = w ∧ OK Fin o
  | .lookS c off n agg w o => (∃ cs, cs.length = n ∧ (c.drop off).take n = cs ∧ mkV agg cs = some w) ∧ OK Fin o
  | .loop c k s => OKK P G ro I0 ρ0 w0 Q (.c (.loop c) :: k) s
  | .again c k s => OKK P G ro I0 ρ0 w0 Q (.lp c :: k) s
  | .back R s => R s
  | .done s => Fin s
  | .pause k s => OKK P G ro I0 ρ0 w0 Q k s
end
section
variable {P : Program} {G : List (List EV)} {ro : Option Nat} {I0 : Imm} {ρ0 : Ren} {w0 : World} {Q : Exit → Act → World → Prop}
theorem then_normal {next : Act → World → Prop} {Φ : Exit → Act → World → Prop} {a : Act} {w : World} : Exit.then next Φ .normal a w = next a w := rfl
/-- Whatever ends the function ends it through every stack. -/
theorem KW.ret {k : List KI} {Φ : Exit → Act → World → Prop} (h : KW P G ro I0 ρ0 w0 Q k Φ) {a : Act} {w : World} (hq : Q .ret a w) : Φ .ret a w := by
  induction h with
  | nil => exact hq
  | c _ _ _ ih => exact ih
  | blk _ ih => exact ih
  | mark _ ih => exact ih
  | lp _ _ _ ih => exact ih
/-- What gives up goes through every stack. -/
theorem KW.panic {k : List KI} {Φ : Exit → Act → World → Prop} (h : KW P G ro I0 ρ0 w0 Q k Φ) {ch : List PanicEntry} {a : Act} {w : World} (hq : Q (.panic ch) a w) : Φ (.panic ch) a w := by
  induction h with
  | nil => exact hq
  | c _ _ _ ih => exact ih
  | blk _ ih => exact ih
  | mark _ ih => exact ih
  | lp _ _ _ ih => exact ih
theorem KW.panQ {k : List KI} {Φ : Exit → Act → World → Prop} (h : KW P G ro I0 ρ0 w0 Q k Φ) {v : EV} {st : St} (hp : PanQ P G I0 ρ0 w0 Q v st) : PanQ P G I0 ρ0 w0 Φ v st :=
  fun a w v' hs => h.panic (hp a w v' hs)
theorem KW.exit {k : List KI} {Φ : Exit → Act → World → Prop} (h : KW P G ro I0 ρ0 w0 Q k Φ) {id : Nat} {k' : List KI} (hu : unwindK id k = some k') :
    ∃ Φ', KW P G ro I0 ρ0 w0 Q k' Φ' ∧ ∀ a w, Φ' .normal a w → Φ (.exit id) a w := by
  induction h with
  | nil => simp [unwindK] at hu
  | c _ _ _ ih => obtain ⟨Φ', h1, h2⟩ := ih (by simpa [unwindK] using hu); exact ⟨Φ', h1, h2⟩
  | blk hk ih =>
    rename_i i k Φ
    simp only [unwindK] at hu
    split at hu
    · rename_i he
      cases hu
      have : i = id := by simpa using he
      subst this
      exact ⟨Φ, hk, fun a w hh => by simp only [Exit.inBlock, if_true]; exact hh⟩
    · rename_i hne
      have hne' : ¬ id = i := fun e => hne (by simp [e])
      obtain ⟨Φ', h1, h2⟩ := ih hu
      exact ⟨Φ', h1, fun a w hh => by simp only [Exit.inBlock, hne', if_false]; exact h2 a w hh⟩
  | mark _ ih => obtain ⟨Φ', h1, h2⟩ := ih (by simpa [unwindK] using hu); exact ⟨Φ', h1, h2⟩
  | lp _ _ _ ih => obtain ⟨Φ', h1, h2⟩ := ih (by simpa [unwindK] using hu); exact ⟨Φ', h1, h2⟩
theorem unwind_noops {id : Nat} : ∀ {k k' : List KI}, (∀ l, KI.ops l ∉ k) → unwindK id k = some k' → ∀ l, KI.ops l ∉ k'
  | [], k', _, hu, _ => by simp [unwindK] at hu
  | x :: k, k', hn, hu, l => by
    have hk : ∀ l, KI.ops l ∉ k := fun l hm => hn l (by simp [hm])
    cases x with
    | blk i =>
      simp only [unwindK] at hu
      split at hu
      · cases hu; exact hk l
      · exact unwind_noops hk hu l
    | c _ => exact unwind_noops hk (by simpa [unwindK] using hu) l
    | ops l' => exact absurd (List.mem_cons_self) (hn l')
    | mark _ => exact unwind_noops hk (by simpa [unwindK] using hu) l
    | lp _ => exact unwind_noops hk (by simpa [unwindK] using hu) l
/-- Pieces of a stack behind its head are never loose operations. -/
def noOps : List KI → Prop
  | [] => True
  | .ops _ :: _ => False
  | _ :: k => noOps k
/-- A stack as runs make them: loose operations stand in front alone. -/
def goodK : List KI → Prop
  | .ops _ :: k => noOps k
  | k => noOps k
theorem noOps.good {k : List KI} (h : noOps k) : goodK k := by
  cases k with
  | nil => trivial
  | cons x k => cases x <;> first | exact h | exact h.elim
theorem noOps.okk {k : List KI} (h : noOps k) (st : St) : OKK P G ro I0 ρ0 w0 Q k st = OKs P G ro I0 ρ0 w0 Q k st := by
  cases k with
  | nil => rfl
  | cons x k => cases x <;> first | rfl | exact h.elim
theorem unwind_good {id : Nat} : ∀ {k k' : List KI}, noOps k → unwindK id k = some k' → noOps k'
  | [], k', _, hu => by simp [unwindK] at hu
  | x :: k, k', hn, hu => by
    cases x with
    | blk i =>
      simp only [unwindK] at hu
      split at hu
      · cases hu; exact hn
      · exact unwind_good (k := k) hn hu
    | c _ => exact unwind_good (k := k) hn (by simpa [unwindK] using hu)
    | ops l' => exact hn.elim
    | mark _ => exact unwind_good (k := k) hn (by simpa [unwindK] using hu)
    | lp _ => exact unwind_good (k := k) hn (by simpa [unwindK] using hu)
/-- An outcome of one instruction, met by what stands behind it. -/
theorem outOf_ok {Fin : St → Prop} {dst : Option Nat} {l : List EOp} {k : List KI} {t : List EV} {h : EH} {go : EV → EH → Out} (hnk : noOps k)
    (hgo : ∀ v h', OK P G ro I0 ρ0 w0 Q Fin (go v h') → SeqOK P G (PanK P G I0 ρ0 w0 Q) l ⟨putT t dst v, h'⟩ fun st' => OKs P G ro I0 ρ0 w0 Q k st') : ∀ (r : SR) (pc : FuncId → List EV → Prop),
    (∀ f args, r ≠ .call f args) → OK P G ro I0 ρ0 w0 Q Fin (outOf dst (.ops l :: k) t go r) →
    SROK (fun v h' => SeqOK P G (PanK P G I0 ρ0 w0 Q) l ⟨putT t dst v, h'⟩ fun st' => OKs P G ro I0 ρ0 w0 Q k st') pc r := by
  intro r
  induction r with
  | stuck => intro pc _ ok; exact ok.elim
  | ret v h' => intro pc _ ok; exact hgo v h' ok
  | need b r ih =>
    intro pc hn ok
    obtain ⟨hb, ok⟩ := ok
    refine ⟨hb, ?_⟩
    cases r with
    | call f args => exact ok.elim
    | _ => exact ih pc (fun f args he => by cases he) ok
  | look c off n agg h' =>
    intro pc _ ok
    obtain ⟨cs, v, q1, q2, q3, q4⟩ := ok
    exact ⟨cs, v, q1, q2, q3, q4⟩
  | br b v1 h1 v2 h2 => intro pc _ ok; exact ⟨fun hb => ok.1 hb, fun hb => ok.2 hb⟩
  | opt o ok' z h' => intro pc _ ok; exact ⟨ok.1, ok.2⟩
  | call f args => intro pc hn ok; exact absurd rfl (hn f args)
  | same v w' h' => intro pc _ ok; exact ⟨ok.1, hgo _ _ ok.2⟩
  | lookS c off n agg w' h' => intro pc _ ok; exact ⟨ok.1, hgo _ _ ok.2⟩
/-- What ends the function, whatever stands on the stack. -/
def EndsQ (P : Program) (G : List (List EV)) (I0 : Imm) (ρ0 : Ren) (w0 : World) (Q : Exit → Act → World → Prop) (Fin : St → Prop) : Prop :=
  ∀ st, Fin st → ∀ a w, SimX P G I0 ρ0 w0 st a w → Q .normal a w ∧ Q .ret a w
/-- A region, as its operations ask. -/
theorem region_sound (hd : DrawSound P G) {id : Nat} {ops : Array Oper} {draw : Bool} {l : List EOp} {Φ : Exit → Act → World → Prop} {st : St} {a : Act} {w : World}
    (hc : compC P (.region id ops draw) = some (.ops l)) (hT : I0.T = true → draw = false) (hp : ∀ v st, PanQ P G I0 ρ0 w0 Q v st → PanQ P G I0 ρ0 w0 Φ v st) (hs : SimX P G I0 ρ0 w0 st a w) (ok : SeqOK P G (PanK P G I0 ρ0 w0 Q) l st fun st' => ∀ a' w', SimX P G I0 ρ0 w0 st' a' w' → Φ .normal a' w') :
    (Code.region id ops draw).wpIn (FR ro) 0 P Φ a w := by
  cases draw with
  | false =>
    simp only [compC] at hc
    cases hl : compOps P ops ops.toList with
    | none => simp [hl] at hc
    | some l' =>
      simp [hl] at hc; subst hc
      exact wpIn_region_list (seq_sound (fun v st h => hp v st h.q) ops.toList l' st a w hl hs ok)
  | true =>
    simp only [compC] at hc
    cases hl : compDraw P ops with
    | none =>
      simp only [hl] at hc
      split at hc <;> cases hc
    | some l' =>
      simp [hl] at hc; subst hc
      have hTf : I0.T = false := by
        cases h : I0.T with
        | true => cases hT h
        | false => rfl
      refine hd ro I0 ρ0 w0 id ops l' Φ (fun v h => ∀ t, PanQ P G I0 ρ0 w0 Q v ⟨t, h⟩) st a w hl (fun v h t hh => hp _ _ (hh t)) hs ?_
      exact SeqOK.mono2 (fun v s hh => hh.2 hTf) (fun _ x => x) l' st ok
/-- What a piece of code is, by its compiled form. -/
theorem compC_inv {c : Code} {ec : EC} (h : compC P c = some ec) :
    (ec = .skip ∧ c = .skip) ∨ (∃ id ops draw l, c = .region id ops draw ∧ ec = .ops l) ∨ (∃ a b x y, c = .seq a b ∧ ec = .seq x y ∧ compC P a = some x ∧ compC P b = some y) ∨
    (∃ o a b x y, c = .cond o a b ∧ ec = .cond o x y ∧ compC P a = some x ∧ compC P b = some y) ∨ (∃ id a x, c = .block id a ∧ ec = .block id x ∧ compC P a = some x) ∨
    (∃ a x, c = .loop a ∧ ec = .loop x ∧ compC P a = some x) ∨ (∃ id, c = .exit id ∧ ec = .exit id) ∨ (c = .ret ∧ ec = .ret) ∨
    (∃ x ps a b ea eb, c = .rangeFunc x ps a b ∧ ec = .rf x ps.toList ea eb ∧ compC P a = some ea ∧ compC P b = some eb) ∨
    (∃ t, ec = .any t ∧ ((∃ id ops, c = .region id ops true ∧ (compAny P ops = some t ∨ t = badT)) ∨ t = badT)) := by
  cases c with
  | skip => simp [compC] at h; exact .inl ⟨h.symm, rfl⟩
  | region id ops draw =>
    cases draw with
    | false => simp [compC] at h; obtain ⟨l, _, rfl⟩ := h; exact .inr (.inl ⟨_, _, _, l, rfl, rfl⟩)
    | true =>
      simp only [compC] at h
      split at h
      · cases h; exact .inr (.inl ⟨_, _, _, _, rfl, rfl⟩)
      · split at h
        · rename_i t ht
          cases h
          exact .inr (.inr (.inr (.inr (.inr (.inr (.inr (.inr (.inr ⟨t, rfl, .inl ⟨_, _, rfl, .inl ht⟩⟩))))))))
        · cases h
          exact .inr (.inr (.inr (.inr (.inr (.inr (.inr (.inr (.inr ⟨_, rfl, .inr rfl⟩))))))))
  | seq a b =>
    simp only [compC] at h
    split at h
    · rename_i x y ha hb; cases h; exact .inr (.inr (.inl ⟨a, b, x, y, rfl, rfl, ha, hb⟩))
    · cases h
  | cond o a b =>
    simp only [compC] at h
    split at h
    · rename_i x y ha hb; cases h; exact .inr (.inr (.inr (.inl ⟨o, a, b, x, y, rfl, rfl, ha, hb⟩)))
    · cases h
  | block id a => simp [compC] at h; obtain ⟨x, hx, rfl⟩ := h; exact .inr (.inr (.inr (.inr (.inl ⟨id, a, x, rfl, rfl, hx⟩))))
  | loop a => simp [compC] at h; obtain ⟨x, hx, rfl⟩ := h; exact .inr (.inr (.inr (.inr (.inr (.inl ⟨a, x, rfl, rfl, hx⟩)))))
  | exit id => simp [compC] at h; exact .inr (.inr (.inr (.inr (.inr (.inr (.inl ⟨id, rfl, h.symm⟩))))))
  | ret => simp [compC] at h; exact .inr (.inr (.inr (.inr (.inr (.inr (.inr (.inl ⟨rfl, h.symm⟩)))))))
  | rangeFunc x ps a b =>
    simp only [compC] at h
    split at h
    · rename_i ea eb ha hb; cases h; exact .inr (.inr (.inr (.inr (.inr (.inr (.inr (.inr (.inl ⟨x, ps, a, b, ea, eb, rfl, rfl, ha, hb⟩))))))))
    · cases h
  | refuse s => simp only [compC] at h; cases h; exact .inr (.inr (.inr (.inr (.inr (.inr (.inr (.inr (.inr ⟨_, rfl, .inr rfl⟩))))))))
  | _ => simp [compC] at h
/-- A test's outcome, in the model. -/
theorem cond_eval {t : List EV} {h : EH} {a : Act} {w : World} {x : Operand} {e : EV} (hs : SimX P G I0 ρ0 w0 ⟨t, h⟩ a w) (he : evalO G t x = e) {b : Bool} (hb : e = .lit (.bool b) ∨ e = .sb b) : a.eval x = .bool b := by
  obtain ⟨I, ρ1, h1, h2, h3, h4, h5, h6, h7⟩ := hs
  have hr := evalO_rep h7.1 h4 x
  rw [he] at hr
  generalize a.eval x = v at hr ⊢
  rcases hb with rfl | rfl
  · cases hr; rfl
  · cases hr; rfl
theorem litB_sim {t : List EV} {h : EH} {a : Act} {w : World} {x : Operand} {b : Bool} (hs : SimX P G I0 ρ0 w0 ⟨t, h⟩ a w) (he : evalO G t x = .sb b) : SimX P G I0 ρ0 w0 ⟨litB t x b, h⟩ a w := by
  cases x with
  | tmp i => exact hs.lit (by simpa [evalO] using he)
  | _ => exact hs
/-- **A run up to the next event.** -/
theorem run_sound (hd : DrawSound P G) {Fin : St → Prop} (hF : EndsQ P G I0 ρ0 w0 Q Fin) : ∀ (n : Nat) (k : List KI) (st : St), goodK k → OK P G ro I0 ρ0 w0 Q Fin (run stdA G n k st) → OKK P G ro I0 ρ0 w0 Q k st := by
  intro n
  induction n with
  | zero => intro k st _ ok; exact ok
  | succ n ih =>
    intro k st hk ok
    cases k with
    | nil =>
      simp only [run] at ok
      intro Φ hΦ a w hs
      cases hΦ
      exact (hF st ok a w hs).1
    | cons x k =>
      cases x with
      | c ec =>
        have hnk : noOps k := hk
        intro Φ hΦ a w hs
        cases hΦ with
        | c hc hnd hk' =>
        rename_i c Φ
        show c.wpIn (FR ro) 0 P Φ a w
        rcases compC_inv hc with ⟨rfl, rfl⟩ | ⟨id, ops, draw, l, rfl, rfl⟩ | ⟨a1, b1, x, y, rfl, rfl, ha, hb⟩ | ⟨o, a1, b1, x, y, rfl, rfl, ha, hb⟩ | ⟨id, a1, x, rfl, rfl, ha⟩ | ⟨a1, x, rfl, rfl, ha⟩ | ⟨id, rfl, rfl⟩ | ⟨rfl, rfl⟩ | ⟨x, ps, a1, b1, ea, eb, rfl, rfl, ha, hb⟩ | ⟨_, rfl, _⟩
        · simp only [run] at ok
          have := ih k st hnk.good ok
          rw [hnk.okk] at this
          exact wpIn_skip (this Φ hk' a w hs)
        · simp only [run] at ok
          have := ih (.ops l :: k) st hnk ok
          refine region_sound hd hc (fun h => by simpa [noDraw] using hnd h) (fun v st h => hk'.panQ h) hs ?_
          exact SeqOK.mono (fun s hh a' w' hs' => hh Φ hk' a' w' hs') l st this
        · simp only [run] at ok
          have := ih (.c x :: .c y :: k) st hnk ok
          exact wpIn_seq (this _ (KW.c ha (fun h => (by simpa [noDraw] using hnd h : noDraw a1 = true ∧ noDraw b1 = true).1) (KW.c hb (fun h => (by simpa [noDraw] using hnd h : noDraw a1 = true ∧ noDraw b1 = true).2) hk')) a w hs)
        · simp only [run] at ok
          obtain ⟨t, h⟩ := st
          split at ok
          · rename_i he
            exact wpIn_cond_true (cond_eval hs he (.inl rfl)) (ih (.c x :: k) _ hnk ok _ (KW.c ha (fun h => (by simpa [noDraw] using hnd h : noDraw a1 = true ∧ noDraw b1 = true).1) hk') a w hs)
          · rename_i he
            exact wpIn_cond_false (cond_eval hs he (.inl rfl)) (ih (.c y :: k) _ hnk ok _ (KW.c hb (fun h => (by simpa [noDraw] using hnd h : noDraw a1 = true ∧ noDraw b1 = true).2) hk') a w hs)
          · rename_i v he
            obtain ⟨o1, o2⟩ := ok
            cases v with
            | true => exact wpIn_cond_true (cond_eval hs he (.inr rfl)) (o1 rfl _ (KW.c ha (fun h => (by simpa [noDraw] using hnd h : noDraw a1 = true ∧ noDraw b1 = true).1) hk') a w (litB_sim hs he))
            | false => exact wpIn_cond_false (cond_eval hs he (.inr rfl)) (o2 rfl _ (KW.c hb (fun h => (by simpa [noDraw] using hnd h : noDraw a1 = true ∧ noDraw b1 = true).2) hk') a w (litB_sim hs he))
          · exact ok.elim
        · simp only [run] at ok
          exact wpIn_block (ih (.c x :: .blk id :: k) st hnk ok _ (KW.c ha (fun h => by simpa [noDraw] using hnd h) (KW.blk hk')) a w hs)
        · simp only [run] at ok
          exact ok _ (KW.c hc hnd hk') a w hs
        · simp only [run] at ok
          split at ok
          · rename_i k' hu
            obtain ⟨Φ', h1, h2⟩ := hk'.exit hu
            have hn' := unwind_good hnk hu
            have := ih k' st hn'.good ok
            rw [hn'.okk] at this
            exact wpIn_exit (h2 a w (this Φ' h1 a w hs))
          · exact ok.elim
        · simp only [run] at ok
          exact wpIn_ret (hk'.ret (hF st ok a w hs).2)
        · simp only [run] at ok
          exact ok.elim
        · simp only [run] at ok
          exact ok.elim
      | ops l =>
        have hnk : noOps k := hk
        show SeqOK P G (PanK P G I0 ρ0 w0 Q) l st fun st' => OKs P G ro I0 ρ0 w0 Q k st'
        cases l with
        | nil =>
          simp only [run] at ok
          have := ih k st hnk.good ok
          rw [hnk.okk] at this
          exact this
        | cons o l =>
          obtain ⟨t, h⟩ := st
          have go_ok : ∀ t', OK P G ro I0 ρ0 w0 Q Fin (match stepI stdA G t' h o.i with
              | .call f args => .call f args o.dst (.ops l :: k) ⟨t', h⟩
              | r => outOf o.dst (.ops l :: k) t' (fun v h => run stdA G n (.ops l :: k) ⟨putT t' o.dst v, h⟩) r) →
              SROK (fun v h' => SeqOK P G (PanK P G I0 ρ0 w0 Q) l ⟨putT t' o.dst v, h'⟩ fun st' => OKs P G ro I0 ρ0 w0 Q k st')
                (fun f args => CallOK P G (fun v h' => PanK P G I0 ρ0 w0 Q v ⟨t', h'⟩) f args h fun v h' => SeqOK P G (PanK P G I0 ρ0 w0 Q) l ⟨putT t' o.dst v, h'⟩ fun st' => OKs P G ro I0 ρ0 w0 Q k st') (stepI stdA G t' h o.i) := by
            intro t' hok
            split at hok
            · rename_i f args he
              rw [he]
              exact hok
            · rename_i hne
              exact outOf_ok (h := h) hnk (fun v h' hh => ih (.ops l :: k) _ hnk hh) _ _ (fun f args he => hne f args he) hok
          simp only [run] at ok
          simp only [SeqOK]
          split at ok
          · rename_i hg
            simp only [hg]
            exact go_ok t ok
          · rename_i g want hg
            simp only [hg]
            split at ok
            · rename_i b hb
              simp only [hb]
              split at ok
              · rename_i hbw; rw [if_pos hbw]; exact go_ok t ok
              · rename_i hbw; rw [if_neg hbw]; exact ih (.ops l :: k) _ hnk ok
            · rename_i vs hb
              simp only [hb]
              exact ih (.ops l :: k) _ hnk ok
            · rename_i b hb
              simp only [hb]
              obtain ⟨o1, o2⟩ := ok
              have use : ∀ bb : Bool, OKK P G ro I0 ρ0 w0 Q (.ops (o :: l) :: k) ⟨setT t g (.lit (.bool bb)), h⟩ →
                  (if bb == want then SROK (fun v h' => SeqOK P G (PanK P G I0 ρ0 w0 Q) l ⟨putT (setT t g (.lit (.bool bb))) o.dst v, h'⟩ fun st' => OKs P G ro I0 ρ0 w0 Q k st')
                    (fun f args => CallOK P G (fun v h' => PanK P G I0 ρ0 w0 Q v ⟨setT t g (.lit (.bool bb)), h'⟩) f args h fun v h' => SeqOK P G (PanK P G I0 ρ0 w0 Q) l ⟨putT (setT t g (.lit (.bool bb))) o.dst v, h'⟩ fun st' => OKs P G ro I0 ρ0 w0 Q k st') (stepI stdA G (setT t g (.lit (.bool bb))) h o.i)
                  else SeqOK P G (PanK P G I0 ρ0 w0 Q) l ⟨putT (setT t g (.lit (.bool bb))) o.dst undefE, h⟩ fun st' => OKs P G ro I0 ρ0 w0 Q k st') := by
                intro bb hh
                have h1 : SeqOK P G (PanK P G I0 ρ0 w0 Q) (o :: l) ⟨setT t g (.lit (.bool bb)), h⟩ fun st' => OKs P G ro I0 ρ0 w0 Q k st' := hh
                simp only [SeqOK, hg] at h1
                rw [getT_setT t g _ (.inl (by rw [hb]; simp [undefE]))] at h1
                exact h1
              exact ⟨fun hbt => use true (o1 hbt), fun hbf => use false (o2 hbf)⟩
            · exact ok.elim
      | blk id =>
        have hnk : noOps k := hk
        simp only [run] at ok
        intro Φ hΦ a w hs
        cases hΦ with
        | blk hk' =>
          have := ih k st hnk.good ok
          rw [hnk.okk] at this
          exact this _ hk' a w hs
      | mark R =>
        simp only [run] at ok
        intro Φ hΦ a w hs
        cases hΦ with
        | mark hk' => exact ⟨st, hs, ok⟩
      | lp c =>
        simp only [run] at ok
        exact ok
end
end Go.Proofs.YtpgeonghlabnhaaGreatDoor.Em
