/- Em13: states of the abstract machine, contracts of functions, straight pieces of code in the order of the text. No conditions beyond those written. -/
import Derived.Test.YtpgeonghlabnhaaGreatDoorEm12
import Derived.OrdersIn
import Derived.TacticsIn
import Derived.RangeFuncCalls
import Derived.RangeFuncNested
set_option linter.unusedVariables false
set_option linter.unusedSimpArgs false
namespace Go.Proofs.YtpgeonghlabnhaaGreatDoor.Em
open Go
/-- More is kept, and more of what was not kept is never written any more. -/
structure Imm.le (I I' : Imm) : Prop where
  k : ∀ b, I.k b → I'.k b
  j : ∀ b, I.j b → I'.j b
  new : ∀ b, I'.j b → I.j b ∨ ¬ I.k b
  P : I'.P = I.P
theorem Imm.le.refl (I : Imm) : Imm.le I I := ⟨fun _ h => h, fun _ h => h, fun _ h => .inl h, rfl⟩
theorem Imm.le.trans {I J K : Imm} (h : Imm.le I J) (g : Imm.le J K) : Imm.le I K :=
  ⟨fun b x => g.k b (h.k b x), fun b x => g.j b (h.j b x), fun b x => by
    rcases g.new b x with h1 | h1
    · exact h.new b h1
    · exact .inr fun hk => h1 (h.k b hk), g.P.trans h.P⟩
/-- The program's variables, and the program. -/
def GlobP (P : Program) (w : World) (I : Imm) (G : List (List EV)) : Prop := Glob w I G ∧ I.P = P
/-- No fence: outside every round of a loop over a function, or in one. -/
def FR (ro : Option Nat) : Fence := { Fence.wide with round := ro }
theorem calls_FR {ro : Option Nat} {n : Nat} {P : Program} {f : FuncId} {args : Array Value} {w : World} {R : Ending → World → Prop} (h : Calls P f args w R) : CallsIn (FR ro) n P f args w R :=
  (callsIn_wide (n := n)).2 h
/-- What a caller knows of a call: from such a heap, with such arguments, it comes back with such a value and heap. -/
def Tri (P : Program) (G : List (List EV)) (f : FuncId) (args : List EV) (h : EH) (R : EV → EH → Prop) : Prop :=
  ∀ (I : Imm) (ρ : Ren) (w : World) (cargs : Array Value), (∀ b, I b → b < w.heap.size) → HSim I w ρ h → RepL w I ρ args cargs.toList → GlobP P w I G →
    Calls P f cargs w fun e w' => ∃ v cv h' I' ρ1, e = .returned cv ∧ R v h' ∧ Imm.le I I' ∧ (∀ b, I' b → b < w'.heap.size) ∧ HSim I' w' (ρ ++ ρ1) h' ∧
      Rep w' I' (ρ ++ ρ1) v cv ∧ Keep I w w'
/-- What a caller knows of a call that may give up. S: of the value with which it does, and the heap. -/
def TriX (P : Program) (G : List (List EV)) (f : FuncId) (args : List EV) (h : EH) (R S : EV → EH → Prop) : Prop :=
  ∀ (I : Imm) (ρ : Ren) (w : World) (cargs : Array Value), (∀ b, I b → b < w.heap.size) → HSim I w ρ h → RepL w I ρ args cargs.toList → GlobP P w I G →
    Calls P f cargs w fun e w' => ∃ v cv h' I' ρ1, ((e = .returned cv ∧ R v h') ∨ (e = .panicked [{ v := cv, recovered := false }] ∧ S v h')) ∧ Imm.le I I' ∧ (∀ b, I' b → b < w'.heap.size) ∧ HSim I' w' (ρ ++ ρ1) h' ∧
      Rep w' I' (ρ ++ ρ1) v cv ∧ Keep I w w'
theorem TriX.mono {P : Program} {G : List (List EV)} {f : FuncId} {args : List EV} {h : EH} {R R' S S' : EV → EH → Prop} (t : TriX P G f args h R S) (k : ∀ v h', R v h' → R' v h') (g : ∀ v h', S v h' → S' v h') : TriX P G f args h R' S' :=
  fun I ρ w cargs a b c d => (t I ρ w cargs a b c d).mono fun e w' ⟨v, cv, h', I', ρ1, q1, q3⟩ => ⟨v, cv, h', I', ρ1, q1.imp (fun x => ⟨x.1, k v h' x.2⟩) (fun x => ⟨x.1, g v h' x.2⟩), q3⟩
theorem Tri.x {P : Program} {G : List (List EV)} {f : FuncId} {args : List EV} {h : EH} {R S : EV → EH → Prop} (t : Tri P G f args h R) : TriX P G f args h R S :=
  fun I ρ w cargs a b c d => (t I ρ w cargs a b c d).mono fun e w' ⟨v, cv, h', I', ρ1, q1, q2, q3⟩ => ⟨v, cv, h', I', ρ1, .inl ⟨q1, q2⟩, q3⟩
/-- how a call ends: it comes back, or gives up -/
def endE (b : Bool) (cv : Value) : Ending := if b then .returned cv else .panicked [{ v := cv, recovered := false }]
/-- Both kinds of ends at once. -/
def TriG (P : Program) (G : List (List EV)) (f : FuncId) (args : List EV) (h : EH) (R : Bool → EV → EH → Prop) : Prop :=
  ∀ (I : Imm) (ρ : Ren) (w : World) (cargs : Array Value), (∀ b, I b → b < w.heap.size) → HSim I w ρ h → RepL w I ρ args cargs.toList → GlobP P w I G →
    Calls P f cargs w fun e w' => ∃ b v cv h' I' ρ1, e = endE b cv ∧ R b v h' ∧ Imm.le I I' ∧ (∀ b, I' b → b < w'.heap.size) ∧ HSim I' w' (ρ ++ ρ1) h' ∧ Rep w' I' (ρ ++ ρ1) v cv ∧ Keep I w w'
theorem TriG.mono {P : Program} {G : List (List EV)} {f : FuncId} {args : List EV} {h : EH} {R R' : Bool → EV → EH → Prop} (t : TriG P G f args h R) (k : ∀ b v h', R b v h' → R' b v h') : TriG P G f args h R' :=
  fun I ρ w cargs a b c d => (t I ρ w cargs a b c d).mono fun e w' ⟨b, v, cv, h', I', ρ1, q1, q2, q3⟩ => ⟨b, v, cv, h', I', ρ1, q1, k _ _ _ q2, q3⟩
theorem TriG.x {P : Program} {G : List (List EV)} {f : FuncId} {args : List EV} {h : EH} {R : Bool → EV → EH → Prop} (t : TriG P G f args h R) : TriX P G f args h (R true) (R false) :=
  fun I ρ w cargs a b c d => (t I ρ w cargs a b c d).mono fun e w' ⟨b, v, cv, h', I', ρ1, q1, q2, q3⟩ => ⟨v, cv, h', I', ρ1, by
    cases b with
    | true => exact .inl ⟨q1, q2⟩
    | false => exact .inr ⟨q1, q2⟩, q3⟩
theorem TriX.g {P : Program} {G : List (List EV)} {f : FuncId} {args : List EV} {h : EH} {R S : EV → EH → Prop} (t : TriX P G f args h R S) : TriG P G f args h fun b v h' => (b = true ∧ R v h') ∨ (b = false ∧ S v h') :=
  fun I ρ w cargs a b c d => (t I ρ w cargs a b c d).mono fun e w' ⟨v, cv, h', I', ρ1, q1, q3⟩ => by
    rcases q1 with ⟨q1, q2⟩ | ⟨q1, q2⟩
    · exact ⟨true, v, cv, h', I', ρ1, q1, .inl ⟨rfl, q2⟩, q3⟩
    · exact ⟨false, v, cv, h', I', ρ1, q1, .inr ⟨rfl, q2⟩, q3⟩
theorem Tri.g {P : Program} {G : List (List EV)} {f : FuncId} {args : List EV} {h : EH} {R : EV → EH → Prop} (t : Tri P G f args h R) : TriG P G f args h fun b v h' => b = true ∧ R v h' :=
  fun I ρ w cargs a b c d => (t I ρ w cargs a b c d).mono fun e w' ⟨v, cv, h', I', ρ1, q1, q2, q3⟩ => ⟨true, v, cv, h', I', ρ1, q1, ⟨rfl, q2⟩, q3⟩
theorem TriG.tri {P : Program} {G : List (List EV)} {f : FuncId} {args : List EV} {h : EH} {R : Bool → EV → EH → Prop} (t : TriG P G f args h R) (n : ∀ v h', ¬ R false v h') : Tri P G f args h (R true) :=
  fun I ρ w cargs a b c d => (t I ρ w cargs a b c d).mono fun e w' ⟨b, v, cv, h', I', ρ1, q1, q2, q3⟩ => by
    cases b with
    | true => exact ⟨v, cv, h', I', ρ1, q1, q2, q3⟩
    | false => exact absurd q2 (n v h')
theorem TriX.tri {P : Program} {G : List (List EV)} {f : FuncId} {args : List EV} {h : EH} {R S : EV → EH → Prop} (t : TriX P G f args h R S) (n : ∀ v h', ¬ S v h') : Tri P G f args h R :=
  fun I ρ w cargs a b c d => (t I ρ w cargs a b c d).mono fun e w' ⟨v, cv, h', I', ρ1, q1, q3⟩ => ⟨v, cv, h', I', ρ1, (q1.resolve_right fun x => n _ _ x.2).1, (q1.resolve_right fun x => n _ _ x.2).2, q3⟩
theorem Tri.mono {P : Program} {G : List (List EV)} {f : FuncId} {args : List EV} {h : EH} {R R' : EV → EH → Prop} (t : Tri P G f args h R) (k : ∀ v h', R v h' → R' v h') : Tri P G f args h R' :=
  fun I ρ w cargs a b c d => (t I ρ w cargs a b c d).mono fun e w' ⟨v, cv, h', I', ρ1, q1, q2, q3⟩ => ⟨v, cv, h', I', ρ1, q1, k v h' q2, q3⟩
/-- What an iterator knows of a round of its caller's loop. id: the loop's own number. -/
def TriY (P : Program) (G : List (List EV)) (id : Nat) (args : List EV) (h : EH) (R : EV → EH → Prop) : Prop :=
  (∃ t ps asg body st pd, getH h id = .lp t ps asg body st pd) ∧
  ∀ (I : Imm) (ρ : Ren) (w : World) (cargs : Array Value), (∀ b, I b → b < w.heap.size) → HSim I w ρ h → RepL w I ρ args cargs.toList → GlobP P w I G →
    ∀ (ro : Option Nat) (l : Nat) (r : Loop), ρ[id]? = some (l, 0) → w.heap[l]? = some (.loop r) → cargs.size = r.params.size ∧
      RoundIn (FR ro) 0 P l r.fn ((r.params.zip cargs).foldl (fun tmps (t, a) => tmps.setIfInBounds t a) r.tmps) r.assign r.body w
        fun e w' => ∃ v cv h' I' ρ1, e = .returned cv ∧ R v h' ∧ Imm.le I I' ∧ (∀ b, I' b → b < w'.heap.size) ∧ HSim I' w' (ρ ++ ρ1) h' ∧ Rep w' I' (ρ ++ ρ1) v cv ∧ Keep I w w'
theorem TriY.mono {P : Program} {G : List (List EV)} {id : Nat} {args : List EV} {h : EH} {R R' : EV → EH → Prop} (t : TriY P G id args h R) (k : ∀ v h', R v h' → R' v h') : TriY P G id args h R' :=
  ⟨t.1, fun I ρ w cargs a b c d ro l r e f => ⟨(t.2 I ρ w cargs a b c d ro l r e f).1, (t.2 I ρ w cargs a b c d ro l r e f).2.mono fun e w' ⟨v, cv, h', I', ρ1, q1, q2, q3⟩ => ⟨v, cv, h', I', ρ1, q1, k v h' q2, q3⟩⟩⟩
theorem TriY.loop {P : Program} {G : List (List EV)} {id : Nat} {args : List EV} {h : EH} {R : EV → EH → Prop} {I : Imm} {w : World} {ρ : Ren} {l : Nat} (t : TriY P G id args h R) (hs : HSim I w ρ h) (hl : ρ[id]? = some (l, 0)) :
    ∃ r, w.heap[l]? = some (.loop r) := by
  obtain ⟨⟨t, ps, asg, body, st, pd, hg⟩, _⟩ := t
  have := hs.live id
  rw [hg] at this
  obtain ⟨b, r, h1, _, h3, _⟩ := this
  rw [hl] at h1; cases h1
  exact ⟨r, h3⟩
/-- A call (it may give up: Pn), a round, or what gives up itself. -/
def CallOK (P : Program) (G : List (List EV)) (Pn : EV → EH → Prop) (f : FuncId) (args : List EV) (h : EH) (R : EV → EH → Prop) : Prop :=
  (goodF P f = true ∧ TriX P G f args h R Pn) ∨ (∃ id as, f = roundF ∧ args = .yl id :: as ∧ TriY P G id as h R) ∨ ∃ v, f = roundF ∧ args = [.top, v] ∧ Pn v h
theorem CallOK.mono2 {P : Program} {G : List (List EV)} {Pn Pn' : EV → EH → Prop} {f : FuncId} {args : List EV} {h : EH} {R R' : EV → EH → Prop} (t : CallOK P G Pn f args h R) (k : ∀ v h', R v h' → R' v h') (g : ∀ v h', Pn v h' → Pn' v h') : CallOK P G Pn' f args h R' :=
  t.imp (fun x => ⟨x.1, x.2.mono k g⟩) fun x => x.imp (fun ⟨id, as, h1, h2, h3⟩ => ⟨id, as, h1, h2, h3.mono k⟩) fun ⟨v, h1, h2, h3⟩ => ⟨v, h1, h2, g _ _ h3⟩
theorem CallOK.mono {P : Program} {G : List (List EV)} {Pn : EV → EH → Prop} {f : FuncId} {args : List EV} {h : EH} {R R' : EV → EH → Prop} (t : CallOK P G Pn f args h R) (k : ∀ v h', R v h' → R' v h') : CallOK P G Pn f args h R' :=
  t.mono2 k fun _ _ x => x
/-- The calls among a function's deferred ones: those marks alone that loops over functions leave. -/
def Marks (I0 I : Imm) (w : World) : List Deferred → Prop
  | [] => True
  | d :: l => (∃ b, d.target = .collected b ∧ I.k b ∧ ¬ I.j b ∧ ¬ I0.k b ∧ w.heap[b]? = some (.deferred (some [])) ∧ ∀ d' ∈ l, d'.target ≠ .collected b) ∧ Marks I0 I w l
theorem Marks.keep {I0 I I' : Imm} {w w' : World} (hk : Keep I w w') (hle : Imm.le I I') : ∀ {l : List Deferred}, Marks I0 I w l → Marks I0 I' w' l
  | [], _ => trivial
  | d :: l, ⟨⟨b, h1, h2, h3, h4, h5, h6⟩, h7⟩ => ⟨⟨b, h1, hle.k b h2, fun hj => by
      rcases hle.new b hj with hj | hj
      · exact h3 hj
      · exact hj h2, h4, by rw [hk.same b h2]; exact h5, h6⟩, Marks.keep hk hle h7⟩
theorem Marks.mem {I0 I : Imm} {w : World} : ∀ {l : List Deferred}, Marks I0 I w l → ∀ d ∈ l, ∃ b, d.target = .collected b ∧ I.k b ∧ ¬ I.j b ∧ ¬ I0.k b ∧ w.heap[b]? = some (.deferred (some []))
  | [], _, d, hd => by cases hd
  | x :: l, ⟨⟨b, h1, h2, h3, h4, h5, _⟩, h7⟩, d, hd => by
    rcases List.mem_cons.1 hd with rfl | hd
    · exact ⟨b, h1, h2, h3, h4, h5⟩
    · exact Marks.mem h7 d hd
/-- What is kept but for the marks' blocks. -/
theorem Marks.base {I0 I : Imm} {w : World} {l : List Deferred} (hm : Marks I0 I w l) (hle : Imm.le I0 I) :
    ∃ J : Imm, Imm.le I0 J ∧ Imm.le J I ∧ Marks J I w l ∧ (∀ b, I.k b → ¬ J.k b → w.heap[b]? = some (.deferred (some []))) ∧ (∀ b, I.j b → J.j b) ∧ (∀ b, J.k b → ∀ d ∈ l, d.target ≠ .collected b) ∧ J.D = I0.D := by
  have hmem := hm.mem
  let J : Imm := ⟨fun b => I.k b ∧ ∀ d ∈ l, d.target ≠ .collected b, I.j, fun b hb => ⟨I.sub b hb, fun d hd e => by
    obtain ⟨b', h1, _, h3, _⟩ := hmem d hd
    rw [h1] at e; cases e; exact h3 hb⟩, I.P, I0.D, I0.T⟩
  refine ⟨J, ⟨fun b hb => ⟨hle.k b hb, fun d hd e => ?_⟩, hle.j, hle.new, hle.P⟩, ⟨fun b hb => hb.1, fun b hb => hb, fun b hb => .inl hb, rfl⟩, ?_, fun b hb hn => ?_, fun b hb => hb, fun b hb => hb.2, rfl⟩
  · obtain ⟨b', h1, _, _, h4, _⟩ := hmem d hd
    rw [h1] at e; cases e; exact h4 hb
  · have key : ∀ l' : List Deferred, (∀ d ∈ l', d ∈ l) → Marks I0 I w l' → Marks J I w l' := by
      intro l'
      induction l' with
      | nil => intro _ _; trivial
      | cons d l' ih =>
        rintro hs ⟨⟨b, h1, h2, h3, h4, h5, h6⟩, h7⟩
        exact ⟨⟨b, h1, h2, h3, fun hj => hj.2 d (hs d (by simp)) h1, h5, h6⟩, ih (fun x hx => hs x (by simp [hx])) h7⟩
    exact key l (fun _ h => h) hm
  · have : ∃ d ∈ l, d.target = .collected b := Classical.byContradiction fun hx => hn ⟨hb, fun d hd e => hx ⟨d, hd, e⟩⟩
    obtain ⟨d, hd, e⟩ := this
    obtain ⟨b', h1, _, _, _, h5⟩ := hmem d hd
    rw [h1] at e; cases e; exact h5
theorem Marks.sub {I0 J I : Imm} {w : World} (h : ∀ b, I0.k b → J.k b) : ∀ {l : List Deferred}, Marks J I w l → Marks I0 I w l
  | [], _ => trivial
  | d :: l, ⟨⟨b, h1, h2, h3, h4, h5, h6⟩, h7⟩ => ⟨⟨b, h1, h2, h3, fun hk => h4 (h b hk), h5, h6⟩, Marks.sub h h7⟩
/-- The calls among a function's deferred ones: marks, ahead of those that stood at the start. -/
def MarksD (I0 I : Imm) (w : World) (l : List Deferred) : Prop := ∃ ms, l = ms ++ I0.D ∧ Marks I0 I w ms
theorem MarksD.keep {I0 I I' : Imm} {w w' : World} {l : List Deferred} (h : MarksD I0 I w l) (hk : Keep I w w') (hle : Imm.le I I') : MarksD I0 I' w' l :=
  let ⟨ms, h1, h2⟩ := h; ⟨ms, h1, h2.keep hk hle⟩
theorem GlobP.keep {P : Program} {G : List (List EV)} {I I' : Imm} {w w' : World} (h : GlobP P w I G) (k : Keep I w w') (hle : Imm.le I I') : GlobP P w' I' G :=
  ⟨fun g c hg ρ => ((h.1 g c hg ρ).keep k).imm hle.j, hle.P.trans h.2⟩
/-- A state stands for the model's. I0, ρ0, w0: what was at the function's start. -/
def SimX (P : Program) (G : List (List EV)) (I0 : Imm) (ρ0 : Ren) (w0 : World) (st : St) (a : Act) (w : World) : Prop :=
  ∃ I ρ1, Imm.le I0 I ∧ (∀ b, I b → b < w.heap.size) ∧ HSim I w (ρ0 ++ ρ1) st.h ∧ RepL w I (ρ0 ++ ρ1) st.t a.tmps.toList ∧ MarksD I0 I w a.defers ∧ Keep I0 w0 w ∧ GlobP P w I G
/-- A state stands for the model's, and a value that is given up with. -/
def SimV (P : Program) (G : List (List EV)) (I0 : Imm) (ρ0 : Ren) (w0 : World) (st : St) (v : EV) (v' : Value) (a : Act) (w : World) : Prop :=
  ∃ I ρ1, Imm.le I0 I ∧ (∀ b, I b → b < w.heap.size) ∧ HSim I w (ρ0 ++ ρ1) st.h ∧ RepL w I (ρ0 ++ ρ1) st.t a.tmps.toList ∧ MarksD I0 I w a.defers ∧ Keep I0 w0 w ∧ GlobP P w I G ∧ Rep w I (ρ0 ++ ρ1) v v'
/-- What is to hold where a piece of code gives up. -/
def PanQ (P : Program) (G : List (List EV)) (I0 : Imm) (ρ0 : Ren) (w0 : World) (Q : Exit → Act → World → Prop) (v : EV) (st : St) : Prop :=
  ∀ a w v', SimV P G I0 ρ0 w0 st v v' a w → Q (.panic [{ v := v', recovered := false }]) a w
/-- Likewise; where the places aren't known there, whatever they hold. -/
def PanK (P : Program) (G : List (List EV)) (I0 : Imm) (ρ0 : Ren) (w0 : World) (Q : Exit → Act → World → Prop) (v : EV) (st : St) : Prop :=
  (I0.T = true → PanQ P G I0 ρ0 w0 Q v st) ∧ (I0.T = false → ∀ t, PanQ P G I0 ρ0 w0 Q v ⟨t, st.h⟩)
theorem PanK.q {P : Program} {G : List (List EV)} {I0 : Imm} {ρ0 : Ren} {w0 : World} {Q : Exit → Act → World → Prop} {v : EV} {st : St} (h : PanK P G I0 ρ0 w0 Q v st) : PanQ P G I0 ρ0 w0 Q v st := by
  cases hT : I0.T with
  | true => exact h.1 hT
  | false => exact h.2 hT st.t
/-- With no deferred call yet. -/
def Imm.bare (I : Imm) : Imm := ⟨I.k, I.j, I.sub, I.P, [], false⟩
theorem Imm.le.bare (I : Imm) : Imm.le I.bare I := ⟨fun _ h => h, fun _ h => h, fun _ h => .inl h, rfl⟩
theorem Imm.le.unbare {I I' : Imm} (h : Imm.le I.bare I') : Imm.le I I' := ⟨h.k, h.j, h.new, h.P⟩
theorem Keep.unbare {I : Imm} {w w' : World} (h : Keep I.bare w w') : Keep I w w' := ⟨h.os, h.tape, h.output, h.size, h.same, h.shp⟩
theorem Glob.keep {G : List (List EV)} {I I' : Imm} {w w' : World} (h : Glob w I G) (k : Keep I w w') (hI : ∀ b, I.j b → I'.j b) : Glob w' I' G :=
  fun g c hg ρ => ((h g c hg ρ).keep k).imm hI
theorem setT_rep {w : World} {I : Imm} {ρ : Ren} {e : EV} {v : Value} (hr : Rep w I ρ e v) : ∀ {t : List EV} {us : List Value} (d : Nat), RepL w I ρ t us → RepL w I ρ (setT t d e) (us.set d v)
  | [], [], _, _ => trivial
  | _ :: _, _ :: _, 0, h => ⟨hr, h.2⟩
  | _ :: _, _ :: _, d + 1, h => ⟨h.1, setT_rep hr d h.2⟩
theorem putT_rep {w : World} {I : Imm} {ρ : Ren} {e : EV} {v : Value} {t : List EV} {a : Act} (dst : Option Nat) (hr : Rep w I ρ e v) (ht : RepL w I ρ t a.tmps.toList) :
    RepL w I ρ (putT t dst e) (a.put dst v).tmps.toList := by
  cases dst with
  | none => exact ht
  | some d => simpa [putT, Act.put] using setT_rep hr d ht
theorem put_defers (a : Act) (dst : Option Nat) (v : Value) : (a.put dst v).defers = a.defers := by cases dst <;> rfl
theorem getT_setT : ∀ (t : List EV) (g : Nat) (e : EV), getT t g ≠ undefE ∨ g < t.length → getT (setT t g e) g = e
  | [], g, e, h => by simp [getT] at h
  | _ :: _, 0, e, _ => rfl
  | x :: t, g + 1, e, h => getT_setT t g e (by simpa [getT] using h)
section
variable (P : Program) (G : List (List EV)) (Pn : EV → St → Prop)
/-- Straight operations, one behind the other: what they ask, and what is to hold behind them. -/
def SeqOK : List EOp → St → (St → Prop) → Prop
  | [], st, K => K st
  | o :: l, st, K =>
    let go (t : List EV) : Prop := SROK (fun v h' => SeqOK l ⟨putT t o.dst v, h'⟩ K) (fun f args => CallOK P G (fun v h' => Pn v ⟨t, h'⟩) f args st.h fun v h' => SeqOK l ⟨putT t o.dst v, h'⟩ K) (stepI stdA G t st.h o.i)
    let skip (t : List EV) : Prop := SeqOK l ⟨putT t o.dst undefE, st.h⟩ K
    match o.guard with
    | none => go st.t
    | some (g, want) => match getT st.t g with
      | .lit (.bool b) => if b == want then go st.t else skip st.t
      | .lit (.tuple _) => skip st.t
      | .sb b => (b = true → if true == want then go (setT st.t g (.lit (.bool true))) else skip (setT st.t g (.lit (.bool true)))) ∧
                 (b = false → if false == want then go (setT st.t g (.lit (.bool false))) else skip (setT st.t g (.lit (.bool false))))
      | _ => False
end
section
variable {P : Program} {G : List (List EV)} {Pn : EV → St → Prop} {I0 : Imm} {ρ0 : Ren} {w0 : World} {ro : Option Nat}
theorem SROK.mono {post post' : EV → EH → Prop} {pc pc' : FuncId → List EV → Prop} (h1 : ∀ v h, post v h → post' v h) (h2 : ∀ f l, pc f l → pc' f l) : ∀ {r : SR}, SROK post pc r → SROK post' pc' r
  | .stuck, h => h
  | .ret _ _, h => h1 _ _ h
  | .need _ r, h => ⟨h.1, SROK.mono h1 h2 h.2⟩
  | .look .., ⟨cs, v, q1, q2, q3, q4⟩ => ⟨cs, v, q1, q2, q3, h1 _ _ q4⟩
  | .br .., h => ⟨fun hb => h1 _ _ (h.1 hb), fun hb => h1 _ _ (h.2 hb)⟩
  | .opt .., h => ⟨fun hn => h1 _ _ (h.1 hn), fun x hx => h1 _ _ (h.2 x hx)⟩
  | .call _ _, h => h2 _ _ h
  | .same .., h => ⟨h.1, h1 _ _ h.2⟩
  | .lookS .., h => ⟨h.1, h1 _ _ h.2⟩
theorem SeqOK.mono2 {Pn' : EV → St → Prop} {K K' : St → Prop} (hP : ∀ v s, Pn v s → Pn' v s) (hK : ∀ s, K s → K' s) : ∀ (l : List EOp) (st : St), SeqOK P G Pn l st K → SeqOK P G Pn' l st K'
  | [], st, h => hK st h
  | o :: l, st, h => by
    have ih := SeqOK.mono2 hP hK l
    have go : ∀ t, SROK (fun v h' => SeqOK P G Pn l ⟨putT t o.dst v, h'⟩ K) (fun f args => CallOK P G (fun v h' => Pn v ⟨t, h'⟩) f args st.h fun v h' => SeqOK P G Pn l ⟨putT t o.dst v, h'⟩ K) (stepI stdA G t st.h o.i) →
        SROK (fun v h' => SeqOK P G Pn' l ⟨putT t o.dst v, h'⟩ K') (fun f args => CallOK P G (fun v h' => Pn' v ⟨t, h'⟩) f args st.h fun v h' => SeqOK P G Pn' l ⟨putT t o.dst v, h'⟩ K') (stepI stdA G t st.h o.i) :=
      fun t ht => ht.mono (fun v h' hh => ih _ hh) (fun f args hh => hh.mono2 (fun v h' hx => ih _ hx) fun v h' hx => hP _ _ hx)
    have both : ∀ (t : List EV) (b want : Bool),
        (if b == want then SROK (fun v h' => SeqOK P G Pn l ⟨putT t o.dst v, h'⟩ K) (fun f args => CallOK P G (fun v h' => Pn v ⟨t, h'⟩) f args st.h fun v h' => SeqOK P G Pn l ⟨putT t o.dst v, h'⟩ K) (stepI stdA G t st.h o.i)
          else SeqOK P G Pn l ⟨putT t o.dst undefE, st.h⟩ K) →
        (if b == want then SROK (fun v h' => SeqOK P G Pn' l ⟨putT t o.dst v, h'⟩ K') (fun f args => CallOK P G (fun v h' => Pn' v ⟨t, h'⟩) f args st.h fun v h' => SeqOK P G Pn' l ⟨putT t o.dst v, h'⟩ K') (stepI stdA G t st.h o.i)
          else SeqOK P G Pn' l ⟨putT t o.dst undefE, st.h⟩ K') := by
      intro t b want hh
      by_cases hb : (b == want) = true
      · rw [if_pos hb] at hh ⊢; exact go t hh
      · rw [if_neg hb] at hh ⊢; exact ih _ hh
    cases hg : o.guard with
    | none => simp only [SeqOK, hg] at h ⊢; exact go _ h
    | some p =>
      obtain ⟨g, want⟩ := p
      simp only [SeqOK, hg] at h ⊢
      generalize getT st.t g = e at h ⊢
      split at h
      · exact both _ _ want h
      · exact ih _ h
      · exact ⟨fun hbt => both _ true want (h.1 hbt), fun hbf => both _ false want (h.2 hbf)⟩
      · exact h.elim
theorem SeqOK.mono {K K' : St → Prop} (hK : ∀ s, K s → K' s) (l : List EOp) (st : St) (h : SeqOK P G Pn l st K) : SeqOK P G Pn l st K' := SeqOK.mono2 (fun _ _ x => x) hK l st h
theorem SimX.drew {st : St} {a : Act} {w : World} (h : SimX P G I0 ρ0 w0 st a w) : SimX P G I0 ρ0 w0 st a { w with drawn := w.drawn + 1 } := by
  obtain ⟨I, ρ1, h1, h2, h3, h4, h5, h6, h7⟩ := h
  have hk := Keep.drew I w
  exact ⟨I, ρ1, h1, h2, h3.drew, h4.map fun _ _ r => r.keep hk, h5.keep hk (Imm.le.refl I), h6.trans (hk.mono h1.k), h7.keep hk (Imm.le.refl I)⟩
/-- One operation that is carried out. -/
theorem oper_sound {o : Oper} {ei : EI} {t : List EV} {h : EH} {a : Act} {w : World} {next : Act → World → Prop} {Q : Exit → Act → World → Prop} (hc : compOp P o.op = some ei ∨ ei = .bad)
    (hs : SimX P G I0 ρ0 w0 ⟨t, h⟩ a w) {post : EV → EH → Prop} {pc : EV → EH → Prop}
    (ok : SROK post (fun f args => CallOK P G (fun v h' => Pn v ⟨t, h'⟩) f args h pc) (stepI stdA G t h ei))
    (hpan : ∀ v st, Pn v st → PanQ P G I0 ρ0 w0 Q v st)
    (hpost : ∀ v h', post v h' → ∀ a' w', SimX P G I0 ρ0 w0 ⟨putT t o.dst v, h'⟩ a' w' → next a' w') (hpc : ∀ v h', pc v h' → ∀ a' w', SimX P G I0 ρ0 w0 ⟨putT t o.dst v, h'⟩ a' w' → next a' w') :
    o.wpIn (FR ro) 0 P a w next Q := by
  obtain ⟨I, ρ1, h1, h2, h3, h4, h5, h6, h7⟩ := hs
  rcases hc with hc | hc
  rotate_left
  · subst hc; exact ok.elim
  have hres := step_sound (P := P) (o := o) (a := a) hc h7.1 h4 h3 h2 h7.2 (fun f args hh => hh.imp (fun x => x.1) fun x => x.elim (fun ⟨id, as, e, _⟩ => e) fun ⟨_, e, _⟩ => e) ok
  have hsem : o.semAt ro a.eval = execOp a.eval o := Oper.semAt_eq ro a.eval o (fun c h => by rw [h] at hc; simp [compOp] at hc)
  refine ⟨fun _ _ => trivial, ?_⟩
  show o.uponIn (FR ro) 0 P a next Q ((o.semAt ro a.eval).run P w)
  rw [hsem]
  rcases hres with ⟨v, v', h', w', ρ', hx, hp, hk, hsim, hrep⟩ | ⟨f, args, args', hx, hnr, hcall, hra⟩ | ⟨id, as, u, us, hyl, hra, hcall, hx⟩ | ⟨pv, pv', hx, hcall, hrep⟩
  · have hnext : next (a.put o.dst v') w' := by
      refine hpost v h' hp _ _ ⟨I, ρ1 ++ ρ', h1, fun b hb => Nat.lt_of_lt_of_le (h2 b hb) hk.size, ?_, ?_, by rw [put_defers]; exact h5.keep hk (Imm.le.refl I), h6.trans (hk.mono h1.k), h7.keep hk (Imm.le.refl I)⟩
      · rw [← List.append_assoc]; exact hsim
      · rw [← List.append_assoc]
        exact putT_rep _ hrep (h4.map fun _ _ r => (r.keep hk).ext ρ')
    rcases hx with hx | ⟨hx, hu⟩
    · rw [hx]; exact hnext
    · rw [hx]
      rw [hu] at hnext
      exact hnext
  · obtain ⟨hg, htri⟩ := hcall.resolve_right fun x => x.elim (fun ⟨_, _, e, _⟩ => hnr e) fun ⟨_, e, _⟩ => hnr e
    rw [hx]
    refine ⟨fun h => by simp [FR, Fence.wide] at h, calls_FR (Calls.mono (htri I _ w args' h2 h3 hra h7) fun e w' ⟨v, cv, h', I', ρ2, e1, q1, q2, q3, q4, q5⟩ => ?_)⟩
    rcases e1 with ⟨e1, hR⟩ | ⟨e1, hR⟩
    · subst e1
      refine hpc v h' hR _ _ ⟨I', ρ1 ++ ρ2, h1.trans q1, q2, ?_, ?_, by rw [put_defers]; exact h5.keep q5 q1, h6.trans (q5.mono h1.k), h7.keep q5 q1⟩
      · rw [← List.append_assoc]; exact q3
      · rw [← List.append_assoc]
        exact putT_rep _ q4 (h4.map fun _ _ r => ((r.keep q5).imm q1.j).ext ρ2)
    · subst e1
      refine hpan v ⟨t, h'⟩ hR _ _ _ ⟨I', ρ1 ++ ρ2, h1.trans q1, q2, ?_, ?_, h5.keep q5 q1, h6.trans (q5.mono h1.k), h7.keep q5 q1, ?_⟩
      · rw [← List.append_assoc]; exact q3
      · rw [← List.append_assoc]
        exact h4.map fun _ _ r => ((r.keep q5).imm q1.j).ext ρ2
      · rw [← List.append_assoc]; exact q4
  · obtain ⟨id', as', _, e1, htri⟩ := (hcall.resolve_left fun ⟨hg, _⟩ => by rw [goodF_round] at hg; cases hg).resolve_right fun ⟨_, _, e, _⟩ => by cases e
    cases e1
    cases hyl with
    | yl _ _ l hl =>
      obtain ⟨r, hr⟩ := htri.loop h3 hl
      obtain ⟨hsz, hround⟩ := htri.2 I _ w us h2 h3 hra h7 ro l r hl hr
      rw [hx l r rfl hr hsz]
      refine ⟨fun h => by simp [FR, Fence.wide] at h, hround.mono fun e w' ⟨v, cv, h', I', ρ2, e1, hR, q1, q2, q3, q4, q5⟩ => ?_⟩
      subst e1
      refine hpc v h' hR _ _ ⟨I', ρ1 ++ ρ2, h1.trans q1, q2, ?_, ?_, by rw [put_defers]; exact h5.keep q5 q1, h6.trans (q5.mono h1.k), h7.keep q5 q1⟩
      · rw [← List.append_assoc]; exact q3
      · rw [← List.append_assoc]
        exact putT_rep _ q4 (h4.map fun _ _ r => ((r.keep q5).imm q1.j).ext ρ2)

  · obtain ⟨v, _, e1, hP⟩ := (hcall.resolve_left fun ⟨hg, _⟩ => by rw [goodF_round] at hg; cases hg).resolve_left fun ⟨_, _, _, e, _⟩ => by cases e
    cases e1
    rw [hx]
    exact hpan _ ⟨t, h⟩ hP _ _ _ ⟨I, ρ1, h1, h2, h3, h4, h5, h6, h7, hrep⟩
/-- An operation that is passed over. -/
theorem skip_sound {t : List EV} {h : EH} {a : Act} {w : World} (dst : Option Nat) (hs : SimX P G I0 ρ0 w0 ⟨t, h⟩ a w) : SimX P G I0 ρ0 w0 ⟨putT t dst undefE, h⟩ (a.put dst undef) w := by
  obtain ⟨I, ρ1, h1, h2, h3, h4, h5, h6, h7⟩ := hs
  exact ⟨I, ρ1, h1, h2, h3, putT_rep _ (.lit _ _) h4, by rw [put_defers]; exact h5, h6, h7⟩
/-- A test's slot may be written out. -/
theorem SimX.lit {t : List EV} {h : EH} {a : Act} {w : World} {g : Nat} {b : Bool} (hs : SimX P G I0 ρ0 w0 ⟨t, h⟩ a w) (hg : getT t g = .sb b) : SimX P G I0 ρ0 w0 ⟨setT t g (.lit (.bool b)), h⟩ a w := by
  obtain ⟨I, ρ1, h1, h2, h3, h4, h5, h6, h7⟩ := hs
  refine ⟨I, ρ1, h1, h2, h3, ?_, h5, h6, h7⟩
  have : ∀ {t : List EV} {us : List Value} (g : Nat), RepL w I (ρ0 ++ ρ1) t us → getT t g = .sb b → RepL w I (ρ0 ++ ρ1) (setT t g (.lit (.bool b))) us := by
    intro t
    induction t with
    | nil => intro us g hr hg; simp [getT, undefE] at hg
    | cons x t ih =>
      intro us g hr hg
      cases us with
      | nil => exact hr.elim
      | cons u us =>
        cases g with
        | zero =>
          simp [getT] at hg; subst hg
          have key : ∀ u, Rep w I (ρ0 ++ ρ1) (.sb b) u → Rep w I (ρ0 ++ ρ1) (.lit (.bool b)) u := by
            intro u hu; cases hu; exact .lit _ _
          exact ⟨key u hr.1, hr.2⟩
        | succ g => exact ⟨hr.1, ih g hr.2 hg⟩
  exact this g h4 hg
theorem wanted_of {all : Array Oper} {o : Oper} {eo : EOp} {t : List EV} {h : EH} {a : Act} {w : World} (hc : compOper P all o = some eo) (hs : SimX P G I0 ρ0 w0 ⟨t, h⟩ a w) :
    (compOp P o.op = some eo.i ∨ eo.i = .bad) ∧ eo.dst = o.dst ∧
      (eo.guard = none → Region.wanted o (yielded all a.tmps) = true) ∧
      (∀ g want c, eo.guard = some (g, want) → gdE (getT t g) = some c → Region.wanted o (yielded all a.tmps) = (c == some want)) := by
  have hi : compOp P o.op = some ((compOp P o.op).getD .bad) ∨ (compOp P o.op).getD .bad = .bad := by cases compOp P o.op <;> simp
  unfold compOper at hc
  split at hc
  · rename_i hg; cases hc
    exact ⟨hi, rfl, fun _ => by simp [Region.wanted, hg], fun g want b hh => by cases hh⟩
  · rename_i j want hg
    split at hc
    · rename_i g hd; cases hc
      refine ⟨hi, rfl, fun hh => (by cases hh), fun g' want' c hh hb => ?_⟩
      cases hh
      obtain ⟨I, ρ1, h1, h2, h3, h4, h5, h6, h7⟩ := hs
      have hrep := getT_rep h4 g
      have hy : yielded all a.tmps j = c := by
        generalize getT t g = e at hrep hb
        have hv : ∃ v, a.tmps.toList.getD g undef = v ∧ ((∃ b, c = some b ∧ v = .bool b) ∨ (c = none ∧ ∃ vs, v = .tuple vs)) := by
          refine ⟨_, rfl, ?_⟩
          generalize a.tmps.toList.getD g undef = x at hrep
          unfold gdE at hb
          split at hb
          · cases hb; cases hrep; exact .inl ⟨_, rfl, rfl⟩
          · cases hb; cases hrep; exact .inr ⟨rfl, _, rfl⟩
          · cases hb
        obtain ⟨v, hv, hc⟩ := hv
        simp only [List.getD_eq_getElem?_getD, Array.getElem?_toList] at hv
        cases hx : a.tmps[g]? with
        | none =>
          rw [hx] at hv
          rcases hc with ⟨b, _, rfl⟩ | ⟨rfl, vs, _⟩
          · simp [undef] at hv
          · simp [yielded, hd, hx]
        | some x =>
          rw [hx] at hv
          simp at hv; subst hv
          rcases hc with ⟨b, rfl, rfl⟩ | ⟨rfl, vs, rfl⟩ <;> simp [yielded, hd, hx]
      simp [Region.wanted, hg, hy]
    · cases hc
/-- A region in the order of the text, what stands behind a part of it. -/
theorem seq_soundT {all : Array Oper} {Φ : Exit → Act → World → Prop} {tl : List Oper} (hpan : ∀ v st, Pn v st → PanQ P G I0 ρ0 w0 Φ v st) : ∀ (src : List Oper) (l : List EOp) (st : St) (a : Act) (w : World), compOps P all src = some l →
    SimX P G I0 ρ0 w0 st a w → SeqOK P G Pn l st (fun st' => ∀ a' w', SimX P G I0 ρ0 w0 st' a' w' → wpListIn (FR ro) 0 P all Φ tl a' w') → wpListIn (FR ro) 0 P all Φ (src ++ tl) a w
  | [], l, st, a, w, hc, hs, ok => by
    simp [compOps] at hc; subst hc
    exact ok a w hs
  | o :: src, l, st, a, w, hc, hs, ok => by
    simp only [compOps] at hc
    cases ho : compOper P all o with
    | none => simp [ho] at hc
    | some eo =>
      cases hl : compOps P all src with
      | none => simp [ho, hl] at hc
      | some l' =>
        simp [ho, hl] at hc; subst hc
        obtain ⟨t, h⟩ := st
        have key : ∀ (t' : List EV), SimX P G I0 ρ0 w0 ⟨t', h⟩ a w → ∀ b : Bool, Region.wanted o (yielded all a.tmps) = b →
            (if b then SROK (fun v h' => SeqOK P G Pn l' ⟨putT t' eo.dst v, h'⟩ (fun st' => ∀ a' w', SimX P G I0 ρ0 w0 st' a' w' → wpListIn (FR ro) 0 P all Φ tl a' w'))
              (fun f args => CallOK P G (fun v h' => Pn v ⟨t', h'⟩) f args h fun v h' => SeqOK P G Pn l' ⟨putT t' eo.dst v, h'⟩ (fun st' => ∀ a' w', SimX P G I0 ρ0 w0 st' a' w' → wpListIn (FR ro) 0 P all Φ tl a' w')) (stepI stdA G t' h eo.i)
             else SeqOK P G Pn l' ⟨putT t' eo.dst undefE, h⟩ (fun st' => ∀ a' w', SimX P G I0 ρ0 w0 st' a' w' → wpListIn (FR ro) 0 P all Φ tl a' w')) → wpListIn (FR ro) 0 P all Φ (o :: (src ++ tl)) a w := by
          intro t' hs' b hb hok
          obtain ⟨c1, c2, _, _⟩ := wanted_of ho hs'
          unfold wpListIn
          rw [hb]
          cases b with
          | true =>
            simp only [if_true] at hok ⊢
            rw [c2] at hok
            exact (oper_sound c1 hs' hok hpan (fun v h' hp a' w' hx => seq_soundT hpan src l' _ a' w' hl hx hp) (fun v h' hp a' w' hx => seq_soundT hpan src l' _ a' w' hl hx hp))
          | false =>
            simp only [Bool.false_eq_true, if_false] at hok ⊢
            rw [c2] at hok
            exact ⟨fun _ _ => trivial, seq_soundT hpan src l' _ _ w hl (skip_sound _ hs') hok⟩
        simp only [SeqOK] at ok
        obtain ⟨c1, c2, c3, c4⟩ := wanted_of ho hs
        split at ok
        · rename_i hg
          exact key t hs true (c3 hg) (by simpa using ok)
        · rename_i g want hg
          split at ok
          · rename_i b hb
            exact key t hs (b == want) (by rw [c4 g want (some b) hg (by rw [hb]; rfl)]; cases b <;> cases want <;> rfl) (by
              by_cases hbw : (b == want) = true
              · rw [if_pos hbw]; rw [if_pos hbw] at ok; exact ok
              · rw [if_neg hbw]; rw [if_neg hbw] at ok; exact ok)
          · rename_i vs hb
            exact key t hs false (c4 g want none hg (by rw [hb]; rfl)) ok
          · rename_i b hb
            cases b with
            | true =>
              have hs2 := hs.lit hb
              obtain ⟨_, _, _, d4⟩ := wanted_of ho hs2
              have hb2 : getT (setT t g (.lit (.bool true))) g = .lit (.bool true) := getT_setT t g _ (.inl (by rw [hb]; simp [undefE]))
              refine key _ hs2 (true == want) (by rw [d4 g want (some true) hg (by rw [hb2]; rfl)]; cases want <;> rfl) ?_
              have := ok.1 rfl
              by_cases hbw : (true == want) = true
              · rw [if_pos hbw]; rw [if_pos hbw] at this; exact this
              · rw [if_neg hbw]; rw [if_neg hbw] at this; exact this
            | false =>
              have hs2 := hs.lit hb
              obtain ⟨_, _, _, d4⟩ := wanted_of ho hs2
              have hb2 : getT (setT t g (.lit (.bool false))) g = .lit (.bool false) := getT_setT t g _ (.inl (by rw [hb]; simp [undefE]))
              refine key _ hs2 (false == want) (by rw [d4 g want (some false) hg (by rw [hb2]; rfl)]; cases want <;> rfl) ?_
              have := ok.2 rfl
              by_cases hbw : (false == want) = true
              · rw [if_pos hbw]; rw [if_pos hbw] at this; exact this
              · rw [if_neg hbw]; rw [if_neg hbw] at this; exact this
          · exact ok.elim
/-- A region in the order of the text. -/
theorem seq_sound {all : Array Oper} {Φ : Exit → Act → World → Prop} (hpan : ∀ v st, Pn v st → PanQ P G I0 ρ0 w0 Φ v st) (src : List Oper) (l : List EOp) (st : St) (a : Act) (w : World) (hc : compOps P all src = some l)
    (hs : SimX P G I0 ρ0 w0 st a w) (ok : SeqOK P G Pn l st (fun st' => ∀ a' w', SimX P G I0 ρ0 w0 st' a' w' → Φ .normal a' w')) : wpListIn (FR ro) 0 P all Φ src a w := by
  have := seq_soundT (ro := ro) (tl := []) (Φ := Φ) hpan src l st a w hc hs ok
  rwa [List.append_nil] at this
end
end Go.Proofs.YtpgeonghlabnhaaGreatDoor.Em
