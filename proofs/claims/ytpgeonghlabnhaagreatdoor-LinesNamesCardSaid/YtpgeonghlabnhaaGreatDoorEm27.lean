/- Em27: deferred calls: a function that defers one call, what is deferred (it may ask 'recover', where nothing panics). No conditions beyond those written. -/
import Derived.Test.YtpgeonghlabnhaaGreatDoorEm26
import Derived.RecoverIn
set_option linter.unusedVariables false
set_option linter.unusedSimpArgs false
namespace Go.Proofs.YtpgeonghlabnhaaGreatDoor.Em
open Go
/-- a function that defers a call: code ahead, operations ahead of it in its region, the call, code behind -/
structure DF where
  ntmps : Nat
  rs : List ER
  pre : List EC
  ops : List EOp
  tgt : Operand
  args : List Operand
  rest : List EC
/-- a deferred function: the slot of its 'recover', if it begins with that; the operations behind it in its region; the code behind -/
structure RF where
  ntmps : Nat
  rs : List ER
  dst : Option (Option Nat)
  ops : List EOp
  rest : List EC
/-- the last operation defers -/
def lastD : List Oper → Option (List Oper × Call)
  | [] => none
  | o :: l => match lastD l with
    | some (i, c) => some (o :: i, c)
    | none => match l, o.op, o.guard, o.dst with
      | [], .defer c, none, none => some ([], c)
      | _, _, _, _ => none
def splitD : Code → Option (List Code × Array Oper × List Code)
  | .region _ ops false => if (lastD ops.toList).isSome then some ([], ops, []) else none
  | .seq a b => match splitD a with
    | some (p, ops, r) => some (p, ops, r ++ [b])
    | none => match splitD b with
      | some (p, ops, r) => some (a :: p, ops, r)
      | none => none
  | _ => none
def isRec (o : Oper) : Bool :=
  match o.op, o.guard with
  | .call c, none => match c.callee with
    | .builtin .recover => true
    | _ => false
  | _, _ => false
/-- the first region begins with 'recover' -/
def splitR : Code → Option (Nat × Array Oper × List Code)
  | .region id ops false => match ops.toList with
    | o :: _ => if isRec o then some (id, ops, []) else none
    | [] => none
  | .seq a b => match splitR a with
    | some (id, ops, r) => some (id, ops, r ++ [b])
    | none => none
  | _ => none
def compL (P : Program) : List Code → Option (List EC)
  | [] => some []
  | c :: l => match compC P c, compL P l with
    | some e, some r => some (e :: r)
    | _, _ => none
def compDF (P : Program) (f : FuncId) : Option DF :=
  match P.funcs[f]? with
  | none => none
  | some fn => match fn.body with
    | none => none
    | some c => if fn.name != "runtime.NumGoroutine" && !Nat.beq f roundF then match splitD c with
      | none => none
      | some (p, ops, r) => match lastD ops.toList with
        | none => none
        | some (i, cl) => match cl.callee, compL P p, compOps P ops i, compL P r, compR P fn.results.toList with
          | .value x, some pe, some l, some re, some rs => some ⟨fn.ntmps, rs, pe, l, x, cl.args.toList, re⟩
          | _, _, _, _, _ => none
      else none
def compRF (P : Program) (f : FuncId) : Option RF :=
  match P.funcs[f]? with
  | none => none
  | some fn => match fn.body with
    | none => none
    | some c => if fn.name != "runtime.NumGoroutine" && !Nat.beq f roundF then match splitR c with
      | none => match compC P c, compR P fn.results.toList with
        | some e, some rs => some ⟨fn.ntmps, rs, none, [], [e]⟩
        | _, _ => none
      | some (_, ops, r) => match ops.toList with
        | [] => none
        | o :: tl => match compOps P ops tl, compL P r, compR P fn.results.toList with
          | some l, some re, some rs => some ⟨fn.ntmps, rs, some o.dst, l, re⟩
          | _, _, _ => none
      else none
theorem lastD_spec : ∀ {l i : List Oper} {c : Call}, lastD l = some (i, c) → ∃ o, l = i ++ [o] ∧ o.op = .defer c ∧ o.guard = none ∧ o.dst = none
  | [], i, c, h => by simp [lastD] at h
  | o :: l, i, c, h => by
    simp only [lastD] at h
    split at h
    · rename_i i' c' hl
      cases h
      obtain ⟨o', h1, h2⟩ := lastD_spec hl
      exact ⟨o', by rw [h1]; rfl, h2⟩
    · split at h
      · rename_i h1 h2 h3 _
        cases h
        exact ⟨o, rfl, h1, h2, h3⟩
      · cases h
/-- pieces of code, one behind the other -/
def wpL (F : Fence) (n : Nat) (P : Program) : List Code → (Exit → Act → World → Prop) → Act → World → Prop
  | [], Q, a, w => Q .normal a w
  | c :: l, Q, a, w => c.wpIn F n P (Exit.then (wpL F n P l Q) Q) a w
theorem then_then {X Y : Act → World → Prop} {Q : Exit → Act → World → Prop} : Exit.then X (Exit.then Y Q) = Exit.then X Q := by
  funext e; cases e <;> rfl
theorem then_self {Q : Exit → Act → World → Prop} : Exit.then (fun a w => Q .normal a w) Q = Q := by
  funext e; cases e <;> rfl
section
variable {F : Fence} {n : Nat} {P : Program}
theorem wpL_app : ∀ (l1 l2 : List Code) (Q : Exit → Act → World → Prop), wpL F n P (l1 ++ l2) Q = wpL F n P l1 (Exit.then (wpL F n P l2 Q) Q)
  | [], l2, Q => rfl
  | c :: l1, l2, Q => by
    funext a w
    simp only [List.cons_append, wpL, wpL_app l1 l2 Q, then_then]
theorem wpL_one (c : Code) (Q : Exit → Act → World → Prop) : wpL F n P [c] Q = c.wpIn F n P Q := by
  funext a w
  show c.wpIn F n P (Exit.then (fun a w => Q .normal a w) Q) a w = _
  rw [then_self]
theorem wpL_mono : ∀ {l : List Code} {Q Q' : Exit → Act → World → Prop}, (∀ e a w, Q e a w → Q' e a w) → ∀ {a w}, wpL F n P l Q a w → wpL F n P l Q' a w
  | [], Q, Q', hq, a, w, h => hq _ _ _ h
  | c :: l, Q, Q', hq, a, w, h => Go.wpIn_mono h fun e a w x => by
    cases e with
    | normal => exact wpL_mono hq x
    | _ => exact hq _ _ _ x
/-- Code with a deferring region in its midst. -/
theorem splitD_wp : ∀ {c : Code} {p r : List Code} {ops : Array Oper} {Q : Exit → Act → World → Prop} {a : Act} {w : World}, splitD c = some (p, ops, r) →
    wpL F n P p (Exit.then (wpListIn F n P ops (Exit.then (wpL F n P r Q) Q) ops.toList) Q) a w → c.wpIn F n P Q a w
  | .region id ops' false, p, r, ops, Q, a, w, hs, h => by
    simp only [splitD] at hs
    split at hs
    · cases hs
      refine wpIn_region_list ?_
      have : Exit.then (wpL F n P [] Q) Q = Q := then_self
      rw [this] at h
      exact h
    · cases hs
  | .region _ _ true, _, _, _, _, _, _, hs, _ => by simp [splitD] at hs
  | .seq x y, p, r, ops, Q, a, w, hs, h => by
    simp only [splitD] at hs
    split at hs
    · rename_i p' ops' r' hx
      cases hs
      refine wpIn_seq (splitD_wp hx ?_)
      rw [wpL_app, wpL_one] at h
      rw [then_then]
      simpa only [then_then] using h
    · split at hs
      · rename_i p' ops' r' hy
        cases hs
        refine wpIn_seq (Go.wpIn_mono h fun e a w hh => ?_)
        cases e with
        | normal => exact splitD_wp hy hh
        | _ => exact hh
      · cases hs
  | .skip, _, _, _, _, _, _, hs, _ => by simp [splitD] at hs
  | .cond .., _, _, _, _, _, _, hs, _ => by simp [splitD] at hs
  | .block .., _, _, _, _, _, _, hs, _ => by simp [splitD] at hs
  | .loop _, _, _, _, _, _, _, hs, _ => by simp [splitD] at hs
  | .exit _, _, _, _, _, _, _, hs, _ => by simp [splitD] at hs
  | .ret, _, _, _, _, _, _, hs, _ => by simp [splitD] at hs
  | .rangeFunc .., _, _, _, _, _, _, hs, _ => by simp [splitD] at hs
  | .scope _, _, _, _, _, _, _, hs, _ => by simp [splitD] at hs
  | .label _, _, _, _, _, _, _, hs, _ => by simp [splitD] at hs
  | .goto _, _, _, _, _, _, _, hs, _ => by simp [splitD] at hs
  | .refuse _, _, _, _, _, _, _, hs, _ => by simp [splitD] at hs
theorem wpSIn_mono {c : Code} {Q Q' : Exit → Act → List Frame → World → Prop} {a : Act} {cs : List Frame} {w : World} (h : c.wpSIn F n P Q a cs w) (hq : ∀ e a cs w, Q e a cs w → Q' e a cs w) : c.wpSIn F n P Q' a cs w :=
  fun b k hb hr hF hroom => let ⟨e, a', cs', w', l, q, r⟩ := h b k hb hr hF hroom; ⟨e, a', cs', w', l, hq _ _ _ _ q, r⟩
/-- Code that begins with a region that asks 'recover'. -/
theorem splitR_wp (hro : F.round = none) : ∀ {c : Code} {id : Nat} {r : List Code} {ops : Array Oper} {Q : Exit → Act → List Frame → World → Prop} {a : Act} {cs : List Frame} {w : World}, splitR c = some (id, ops, r) →
    (Code.region id ops false).wpSIn F n P (Exit.thenS (fun a cs w => wpL F n P r (fun e a w => Q e a cs w) a w) Q) a cs w → c.wpSIn F n P Q a cs w
  | .region id' ops' false, id, r, ops, Q, a, cs, w, hs, h => by
    simp only [splitR] at hs
    split at hs
    · split at hs
      · cases hs
        exact wpSIn_mono h fun e a cs w hh => by cases e <;> exact hh
      · cases hs
    · cases hs
  | .region _ _ true, _, _, _, _, _, _, _, hs, _ => by simp [splitR] at hs
  | .seq x y, id, r, ops, Q, a, cs, w, hs, h => by
    simp only [splitR] at hs
    split at hs
    · rename_i id' ops' r' hx
      cases hs
      refine wpSIn_seq (splitR_wp hro hx (wpSIn_mono h fun e a cs w hh => ?_))
      cases e with
      | normal =>
        have hh : wpL F n P (r' ++ [y]) (fun e a w => Q e a cs w) a w := hh
        rw [wpL_app, wpL_one] at hh
        exact wpL_mono (fun e a w hx => by
          cases e with
          | normal => exact wpSIn_of_wpIn hro hx
          | _ => exact hx) hh
      | _ => exact hh
    · cases hs
  | .skip, _, _, _, _, _, _, _, hs, _ => by simp [splitR] at hs
  | .cond .., _, _, _, _, _, _, _, hs, _ => by simp [splitR] at hs
  | .block .., _, _, _, _, _, _, _, hs, _ => by simp [splitR] at hs
  | .loop _, _, _, _, _, _, _, _, hs, _ => by simp [splitR] at hs
  | .exit _, _, _, _, _, _, _, _, hs, _ => by simp [splitR] at hs
  | .ret, _, _, _, _, _, _, _, hs, _ => by simp [splitR] at hs
  | .rangeFunc .., _, _, _, _, _, _, _, hs, _ => by simp [splitR] at hs
  | .scope _, _, _, _, _, _, _, _, hs, _ => by simp [splitR] at hs
  | .label _, _, _, _, _, _, _, _, hs, _ => by simp [splitR] at hs
  | .goto _, _, _, _, _, _, _, _, hs, _ => by simp [splitR] at hs
  | .refuse _, _, _, _, _, _, _, _, hs, _ => by simp [splitR] at hs
theorem splitR_spec : ∀ {c : Code} {id : Nat} {r : List Code} {ops : Array Oper}, splitR c = some (id, ops, r) → ∃ o tl, ops.toList = o :: tl ∧ isRec o = true
  | .region id' ops' false, id, r, ops, hs => by
    simp only [splitR] at hs
    split at hs
    · rename_i o tl ho
      split at hs
      · rename_i hr; cases hs; exact ⟨o, tl, ho, hr⟩
      · cases hs
    · cases hs
  | .region _ _ true, _, _, _, hs => by simp [splitR] at hs
  | .seq x y, id, r, ops, hs => by
    simp only [splitR] at hs
    split at hs
    · rename_i id' ops' r' hx
      cases hs
      exact splitR_spec hx
    · cases hs
  | .skip, _, _, _, hs => by simp [splitR] at hs
  | .cond .., _, _, _, hs => by simp [splitR] at hs
  | .block .., _, _, _, hs => by simp [splitR] at hs
  | .loop _, _, _, _, hs => by simp [splitR] at hs
  | .exit _, _, _, _, hs => by simp [splitR] at hs
  | .ret, _, _, _, hs => by simp [splitR] at hs
  | .rangeFunc .., _, _, _, hs => by simp [splitR] at hs
  | .scope _, _, _, _, hs => by simp [splitR] at hs
  | .label _, _, _, _, hs => by simp [splitR] at hs
  | .goto _, _, _, _, hs => by simp [splitR] at hs
  | .refuse _, _, _, _, hs => by simp [splitR] at hs
theorem recover_run {o : Oper} (h : isRec o = true) (ρ : Operand → Value) (w : World) : (execOp ρ o).run P w = .ok .recover w := by
  unfold isRec at h
  split at h
  · rename_i c hop hg
    split at h
    · rename_i hc
      simp [execOp, hop, resolve, hc, invoke, builtin, Sem.run_bind, Result.andThen]
    · cases h
  · cases h
theorem isRec_about {o : Oper} (h : isRec o = true) (ρ : Operand → Value) (w : World) : o.about P w ρ = none := by
  unfold isRec at h
  split at h
  · rename_i c hop hg
    split at h
    · rename_i hc
      simp [Oper.about, hop, resolve, hc, Target.leads]
    · cases h
  · cases h
/-- 'recover', where the frame below is not panicking. -/
theorem wpSIn_recover {id : Nat} {ops : Array Oper} {o : Oper} {tl : List Oper} {Q : Exit → Act → List Frame → World → Prop} {a : Act} {c₀ : Frame} {cs : List Frame} {w : World} (ho : ops.toList = o :: tl) (hr : isRec o = true)
    (hm : c₀.mode = .returning) (hro : F.round = none) (h : wpListIn F n P ops (fun e a w => Q e a (c₀ :: cs) w) tl (a.put o.dst .nilIface) w) : (Code.region id ops false).wpSIn F n P Q a (c₀ :: cs) w := by
  intro b k hb hrb hF hroom
  have hops0 : ops[0]? = some o := by rw [← Array.getElem?_toList, ho]; rfl
  have hsz : ops.size = tl.length + 1 := by rw [← Array.length_toList, ho]; rfl
  have hg : o.guard = none := by
    unfold isRec at hr
    split at hr
    · rename_i c h1 h2; exact h2
    · cases hr
  have hw : Region.wanted o (yielded ops a.tmps) = true := by simp [Region.wanted, hg]
  have htl : wpOpsIn F n P ops (fun e a w => Q e a (c₀ :: cs) w) (List.range' 1 tl.length) (a.put o.dst .nilIface) w := by
    rw [wpOpsIn_eq_wpListIn tl 1 (fun j => by rw [← Array.getElem?_toList, ho, Nat.add_comm]; rfl)]
    exact h
  obtain ⟨e, a', w', hq, harr⟩ := wp_opsIn _ _ _ htl b k (c₀ :: cs) (hrb.trans hro.symm) hF hroom
  have h0 : (lone (b.atR a (.inRegion ops (0 :: List.range' 1 tl.length) :: k)) (c₀ :: cs) w).fenced P F := fenced_oper hF hroom hops0 fun f hf => by rw [isRec_about hr] at hf; cases hf
  refine ⟨e, a', c₀ :: cs, w', rfl, hq, .of_steps (.one (fenced_calm hF hroom rfl) stepR_region) ?_⟩
  rw [show List.range ops.size = 0 :: List.range' 1 tl.length by rw [hsz, List.range_eq_range', List.range'_succ]]
  refine .of_steps (.one h0 (step_lone_go ?_)) harr
  have hgg := stepGR_op (P := P) (b := b) (k := k) (cs := c₀ :: cs) (w := w) (rest := List.range' 1 tl.length) hops0 hw
  rw [hrb, Oper.semAt_none] at hgg
  have hfin : ∀ v, (b.atR a (.inRegion ops (0 :: List.range' 1 tl.length) :: k)).finish v = b.atR (a.put o.dst v) (.inRegion ops (List.range' 1 tl.length) :: k) := by
    intro v; rw [Frame.finish_atR, hops0]; rfl
  have hk : (b.atR a (.inRegion ops (0 :: List.range' 1 tl.length) :: k)).kind = .deferred := hb
  have htr := tryRecover_deferred hk (c₀ :: cs)
  have hrec : recoverD (c₀ :: cs) = none := by simp [recoverD, hm]
  have hrun := recover_run (P := P) hr a.eval w
  rw [hgg, ← hfin]
  simp only [Frame.atR, hrb] at htr ⊢
  simp [stepG.apply, hrun, htr, hrec]
/-- 'recover', where the frame below is panicking. -/
theorem wpSIn_recoverP {pv : Value} {older : List PanicEntry} {id : Nat} {ops : Array Oper} {o : Oper} {tl : List Oper} {Q : Exit → Act → List Frame → World → Prop} {a : Act} {c₀ : Frame} {cs : List Frame} {w : World} (ho : ops.toList = o :: tl) (hr : isRec o = true)
    (hm : c₀.mode = .panicking ({ v := pv, recovered := false } :: older)) (hro : F.round = none)
    (h : wpListIn F n P ops (fun e a w => Q e a ({ c₀ with mode := .panicking ({ v := pv, recovered := true } :: older) } :: cs) w) tl (a.put o.dst pv) w) : (Code.region id ops false).wpSIn F n P Q a (c₀ :: cs) w := by
  intro b k hb hrb hF hroom
  have hops0 : ops[0]? = some o := by rw [← Array.getElem?_toList, ho]; rfl
  have hsz : ops.size = tl.length + 1 := by rw [← Array.length_toList, ho]; rfl
  have hg : o.guard = none := by
    unfold isRec at hr
    split at hr
    · rename_i c h1 h2; exact h2
    · cases hr
  have hw : Region.wanted o (yielded ops a.tmps) = true := by simp [Region.wanted, hg]
  have htl : wpOpsIn F n P ops (fun e a w => Q e a ({ c₀ with mode := .panicking ({ v := pv, recovered := true } :: older) } :: cs) w) (List.range' 1 tl.length) (a.put o.dst pv) w := by
    rw [wpOpsIn_eq_wpListIn tl 1 (fun j => by rw [← Array.getElem?_toList, ho, Nat.add_comm]; rfl)]
    exact h
  obtain ⟨e, a', w', hq, harr⟩ := wp_opsIn _ _ _ htl b k ({ c₀ with mode := .panicking ({ v := pv, recovered := true } :: older) } :: cs) (hrb.trans hro.symm) hF hroom
  have h0 : (lone (b.atR a (.inRegion ops (0 :: List.range' 1 tl.length) :: k)) (c₀ :: cs) w).fenced P F := fenced_oper hF hroom hops0 fun f hf => by rw [isRec_about hr] at hf; cases hf
  refine ⟨e, a', { c₀ with mode := .panicking ({ v := pv, recovered := true } :: older) } :: cs, w', rfl, hq, .of_steps (.one (fenced_calm hF hroom rfl) stepR_region) ?_⟩
  rw [show List.range ops.size = 0 :: List.range' 1 tl.length by rw [hsz, List.range_eq_range', List.range'_succ]]
  refine .of_steps (.one h0 (step_lone_go ?_)) harr
  have hgg := stepGR_op (P := P) (b := b) (k := k) (cs := c₀ :: cs) (w := w) (rest := List.range' 1 tl.length) hops0 hw
  rw [hrb, Oper.semAt_none] at hgg
  have hfin : ∀ v, (b.atR a (.inRegion ops (0 :: List.range' 1 tl.length) :: k)).finish v = b.atR (a.put o.dst v) (.inRegion ops (List.range' 1 tl.length) :: k) := by
    intro v; rw [Frame.finish_atR, hops0]; rfl
  have hk : (b.atR a (.inRegion ops (0 :: List.range' 1 tl.length) :: k)).kind = .deferred := hb
  have htr := tryRecover_deferred hk (c₀ :: cs)
  have hrec : recoverD (c₀ :: cs) = some (pv, { c₀ with mode := .panicking ({ v := pv, recovered := true } :: older) } :: cs) := by simp [recoverD, hm]
  have hrun := recover_run (P := P) hr a.eval w
  rw [hgg, ← hfin]
  simp only [Frame.atR, hrb] at htr ⊢
  simp [stepG.apply, hrun, htr, hrec]
/-- A deferred call's frame leaves: the marks come to nothing. -/
theorem marks_steps {I0 I : Imm} : ∀ {l : List Deferred} {w : World} {fr : Frame} {cs : List Frame}, fr.mode = .returning → fr.defers = l → F.fn fr.fn → F.room (cs.length + 1 + n) → Marks I0 I w l →
    ∃ w', Off w w' l ∧ StepsIn (Machine.fenced P F) P (lone fr cs w) (lone { fr with defers := [] } cs w')
  | [], w, fr, cs, hm, hd, hb, hr, _ => ⟨w, ⟨rfl, rfl, rfl, rfl, fun _ _ => rfl⟩, by
    have : ({ fr with defers := [] } : Frame) = fr := by cases fr; simp at hd; subst hd; rfl
    rw [this]; exact StepsIn.refl _⟩
  | d :: l, w, fr, cs, hm, hd, hb, hr, ⟨⟨b, h1, h2, h3, h4, h5, h6⟩, h7⟩ => by
    have hne : ∀ c, c ≠ b → (w.putObj b (.deferred none)).heap[c]? = w.heap[c]? := fun c hc => World.putObj_heap_other hc
    have hmk : ∀ {l' : List Deferred}, (∀ d' ∈ l', d'.target ≠ .collected b) → Marks I0 I w l' → Marks I0 I (w.putObj b (.deferred none)) l' := by
      intro l'
      induction l' with
      | nil => intro _ _; trivial
      | cons x l' ih =>
        rintro hx ⟨⟨c, k1, k2, k3, k4, k5, k6⟩, k7⟩
        exact ⟨⟨c, k1, k2, k3, k4, by rw [hne c fun e => hx x (by simp) (by rw [k1, e])]; exact k5, k6⟩, ih (fun y hy => hx y (by simp [hy])) k7⟩
    have s1 := step_collected (P := P) (fr := fr) (cs := cs) (by rw [hm]; simp) hd h1 (run_takeDeferred h5)
    have i1 : (lone fr cs w).fenced P F := fenced_out hb hr (by rw [hm]; simp) hd (fun g hg => by rw [h1] at hg; simp [Target.leads] at hg)
    obtain ⟨w', ho, hs⟩ := marks_steps (fr := { fr with defers := [] ++ l }) (cs := cs) hm rfl hb hr (hmk h6 h7)
    have ho : Off (w.putObj b (.deferred none)) w' l := ho
    refine ⟨w', ⟨ho.1, ho.2.1, ho.2.2.1, by rw [ho.2.2.2.1]; simp, fun c hc => ?_⟩, StepsIn.trans (.one i1 s1) hs⟩
    rw [ho.2.2.2.2 c fun x hx => hc x (by simp [hx]), hne c fun e => hc d (by simp) (by rw [h1, e])]
/-- A deferred function, out of its body. -/
theorem callsDIn_marksG {u u1 : FrameMode} {f : FuncId} {fn : Func} {c : Code} {args : Array Value} {w : World} {R : Ending → FrameMode → World → Prop}
    (hf : P.funcs[f]? = some fn) (hb : fn.body = some c) (hF : F.fn f)
    (h : ∀ (c₀ : Frame) (cs : List Frame), c₀.mode = u →
      c.wpSIn F n P (fun e a cs' w' => (e = .normal ∨ e = .ret) ∧ cs' = { c₀ with mode := u1 } :: cs ∧ ∃ I0 I, Marks I0 I w' a.defers ∧ ∀ w'', Off w' w'' a.defers → ∃ v, (results fn a.tmps).run P w'' = .ok v w'' ∧ R (.returned v) u1 w'')
        { tmps := args ++ Array.replicate (fn.ntmps - args.size) undef, defers := [] } (c₀ :: cs) w) :
    CallsDIn F n P f args u w R := by
  refine ⟨hF, fun c₀ cs hu hroom => ?_⟩
  let b : Frame := { (default : Frame) with fn := f, kind := .deferred, roundOf := none }
  have henter : Frame.enter P f args .deferred =
      b.atR { tmps := args ++ Array.replicate (fn.ntmps - args.size) undef, defers := [] } [.code c] := by
    simp [Frame.enter, Frame.atR, hf, hb, b]
  obtain ⟨e, a', cs', w', hl, ⟨he, hcs, I0, I, hm, hres⟩, harr⟩ := h c₀ cs hu b [] rfl rfl hF hroom
  subst hcs
  rw [← henter] at harr
  have fin : ∀ (todo : List Item) (S : StepsIn (Machine.fenced P F) P (lone (Frame.enter P f args .deferred) (c₀ :: cs) w) (lone { b.atR a' todo with mode := .returning } ({ c₀ with mode := u1 } :: cs) w')),
      ∃ e u' w' fr, R e u' w' ∧ ComesIn (Machine.fenced P F) P (lone (Frame.enter P f args .deferred) (c₀ :: cs) w) (lone fr ({ c₀ with mode := u' } :: cs) w') e ∧ fr.kind = .deferred ∧ fr.fn = f ∧ fr.going P w' e := by
    intro todo S
    obtain ⟨w'', ho, hs⟩ := marks_steps (F := F) (n := n) (P := P) (fr := { b.atR a' todo with mode := .returning }) (cs := { c₀ with mode := u1 } :: cs) rfl rfl hF hroom hm
    obtain ⟨v, hv, hR⟩ := hres w'' ho
    exact ⟨.returned v, u1, w'', _, hR, StepsIn.trans S hs, rfl, rfl, rfl, rfl, fn, hf, hv⟩
  rcases he with rfl | rfl
  · exact fin [] (StepsIn.trans harr (.one (fenced_calm (fr := b.atR a' []) hF hroom rfl) (stepR_end rfl)))
  · obtain ⟨todo, hs⟩ := harr.1 rfl
    exact fin todo hs
/-- A deferred function, out of its body, where nothing panics. -/
theorem callsDIn_marks {f : FuncId} {fn : Func} {c : Code} {args : Array Value} {w : World} {R : Ending → FrameMode → World → Prop}
    (hf : P.funcs[f]? = some fn) (hb : fn.body = some c) (hF : F.fn f)
    (h : ∀ (c₀ : Frame) (cs : List Frame), c₀.mode = .returning →
      c.wpSIn F n P (fun e a cs' w' => (e = .normal ∨ e = .ret) ∧ cs' = c₀ :: cs ∧ ∃ I0 I, Marks I0 I w' a.defers ∧ ∀ w'', Off w' w'' a.defers → ∃ v, (results fn a.tmps).run P w'' = .ok v w'' ∧ R (.returned v) .returning w'')
        { tmps := args ++ Array.replicate (fn.ntmps - args.size) undef, defers := [] } (c₀ :: cs) w) :
    CallsDIn F n P f args .returning w R :=
  callsDIn_marksG (u1 := .returning) hf hb hF fun c₀ cs hm => by
    have hc : ({ c₀ with mode := .returning } : Frame) = c₀ := by cases c₀; cases hm; rfl
    rw [hc]; exact h c₀ cs hm
end
section
variable {P : Program} {G : List (List EV)}
/-- What a caller knows of a deferred call, made where nothing panics. -/
def TriD (P : Program) (G : List (List EV)) (f : FuncId) (args : List EV) (h : EH) (R : EH → Prop) : Prop :=
  ∀ (I : Imm) (ρ : Ren) (w : World) (cargs : Array Value), (∀ b, I b → b < w.heap.size) → HSim I w ρ h → RepL w I ρ args cargs.toList → GlobP P w I G →
    CallsDIn (FR none) 0 P f cargs .returning w fun e u' w' => u' = .returning ∧ ∃ cv h' I' ρ1, e = .returned cv ∧ R h' ∧ Imm.le I I' ∧ (∀ b, I' b → b < w'.heap.size) ∧ HSim I' w' (ρ ++ ρ1) h' ∧ Keep I w w'
theorem goodF_ofR {f : FuncId} {rf : RF} (hc : compRF P f = some rf) : goodF P f = true := by
  unfold compRF at hc
  unfold goodF
  split at hc
  · cases hc
  · rename_i fn hf
    rw [hf]
    split at hc
    · cases hc
    · rename_i c hb
      split at hc
      · rename_i hn; simp only [Bool.and_eq_true] at hn; simp [hb, hn.1]; simpa using hn.2
      · cases hc
theorem goodF_ofD {f : FuncId} {df : DF} (hc : compDF P f = some df) : goodF P f = true := by
  unfold compDF at hc
  unfold goodF
  split at hc
  · cases hc
  · rename_i fn hf
    rw [hf]
    split at hc
    · cases hc
    · rename_i c hb
      split at hc
      · rename_i hn; simp only [Bool.and_eq_true] at hn; simp [hb, hn.1]; simpa using hn.2
      · cases hc
/-- The marks have come to nothing. -/
theorem release {I0 I : Imm} {w w' : World} {ρ : Ren} {h : EH} {ms : List Deferred} (hle : Imm.le I0 I) (hI : ∀ b, I b → b < w.heap.size) (hs : HSim I w ρ h) (hm : Marks I0 I w ms) (hg : GlobP P w I G) (ho : Off w w' ms) :
    ∃ J, Imm.le I0 J ∧ Imm.le J I ∧ (∀ b, J b → b < w'.heap.size) ∧ HSim J w' ρ h ∧ Keep J w w' ∧ GlobP P w' J G ∧ ∀ e v, Rep w I ρ e v → Rep w' J ρ e v := by
  obtain ⟨J, j1, j2, j3, j4, j5, j6, _⟩ := hm.base hle
  have hk := ho.keep (I := J) hm j6
  have hsJ : HSim J w ρ h := hs.reI j5 (fun k b o hd hr => by
    obtain ⟨b2, o2, k1, k2, _⟩ := OS.lt (hs.live k) hd
    rw [hr] at k1; cases k1
    exact fun hj => k2 (j2.k _ hj)) j2.P.symm
  have hs2 : HSim J w' ρ h := hsJ.keep hk fun k b o hd hr => by
    obtain ⟨b2, o2, k1, k2, _⟩ := OS.lt (hs.live k) hd
    rw [hr] at k1; cases k1
    exact ho.2.2.2.2 b fun d hd2 e => by
      obtain ⟨b', m1, m2, _⟩ := hm.mem d hd2
      rw [m1] at e; cases e; exact k2 m2
  exact ⟨J, j1, j2, fun b hb => by rw [ho.2.2.2.1]; exact hI b (j2.k b hb), hs2, hk,
    ⟨fun g c hgc ρ => ((hg.1 g c hgc ρ).imm j5).keep hk, j2.P.symm.trans hg.2⟩, fun e v hr => (hr.imm j5).keep hk⟩
/-- The same with a further tail of deferred calls. -/
theorem marks_leaveT {F : Fence} {n : Nat} {fn : Func} {tmps : Array Value} {R : Ending → World → Prop} {I0 I : Imm} {tl : List Deferred} : ∀ {l : List Deferred} {w : World}, Marks I0 I w l →
    (∀ w', Off w w' l → LeavesInM F n P fn tmps R tl .returning w') → LeavesInM F n P fn tmps R (l ++ tl) .returning w
  | [], w, _, h => h w ⟨rfl, rfl, rfl, rfl, fun _ _ => rfl⟩
  | d :: l, w, ⟨⟨b, h1, h2, h3, h4, h5, h6⟩, h7⟩, h => by
    have hne : ∀ c, c ≠ b → (w.putObj b (.deferred none)).heap[c]? = w.heap[c]? := fun c hc => World.putObj_heap_other hc
    have hm : ∀ {l' : List Deferred}, (∀ d' ∈ l', d'.target ≠ .collected b) → Marks I0 I w l' → Marks I0 I (w.putObj b (.deferred none)) l' := by
      intro l'
      induction l' with
      | nil => intro _ _; trivial
      | cons x l' ih =>
        rintro hx ⟨⟨c, k1, k2, k3, k4, k5, k6⟩, k7⟩
        exact ⟨⟨c, k1, k2, k3, k4, by rw [hne c fun e => hx x (by simp) (by rw [k1, e])]; exact k5, k6⟩, ih (fun y hy => hx y (by simp [hy])) k7⟩
    refine ⟨by simp, .inl ⟨b, _, h1, run_takeDeferred h5, marks_leaveT (hm h6 h7) fun w' ho => h w' ⟨ho.1, ho.2.1, ho.2.2.1, by rw [ho.2.2.2.1]; simp, fun c hc => ?_⟩⟩⟩
    rw [ho.2.2.2.2 c fun x hx => hc x (by simp [hx]), hne c fun e => hc d (by simp) (by rw [h1, e])]
/-- Pieces of code on the stack. -/
theorem KW.list {ro : Option Nat} {I0 : Imm} {ρ0 : Ren} {w0 : World} {Q : Exit → Act → World → Prop} : ∀ {cs : List Code} {es : List EC}, compL P cs = some es → (∀ c ∈ cs, I0.T = true → noDraw c = true) →
    KW P G ro I0 ρ0 w0 Q (es.map .c) (Exit.then (wpL (FR ro) 0 P cs Q) Q)
  | [], es, h, _ => by
    simp [compL] at h; subst h
    have : Exit.then (wpL (FR ro) 0 P [] Q) Q = Q := then_self
    rw [this]; exact KW.nil
  | x :: cs, es, h, hn => by
    simp only [compL] at h
    split at h
    · rename_i e r h1 h2
      cases h
      have := KW.c h1 (hn x (by simp)) (KW.list (ro := ro) (I0 := I0) (ρ0 := ρ0) (w0 := w0) (Q := Q) h2 fun c hc => hn c (by simp [hc]))
      rw [then_then] at this
      exact this
    · cases h
theorem pad_rep {I : Imm} {w : World} {ρ : Ren} {args : List EV} {cargs : Array Value} {n : Nat} (ha : RepL w I ρ args cargs.toList) : RepL w I ρ (padT args n) (cargs ++ Array.replicate (n - cargs.size) undef).toList := by
  rw [padT_eq]
  have hl : args.length = cargs.size := by simpa using ha.length
  have : (cargs ++ Array.replicate (n - cargs.size) undef).toList = cargs.toList ++ List.replicate (n - cargs.size) undef := by simp
  rw [this, hl]
  refine ha.app (RepL.mk (by simp) fun j x v hx hv => ?_)
  simp only [List.getElem?_replicate] at hx hv
  split at hx
  · rename_i hlt
    rw [if_pos hlt] at hv
    cases hx; cases hv; exact .lit _ _
  · cases hx
/-- What a caller knows of a deferred call that is made where something panics: it takes up what is given up with. -/
def TriDP (P : Program) (G : List (List EV)) (f : FuncId) (args : List EV) (h : EH) (pv : EV) (R : EH → Prop) : Prop :=
  ∀ (I : Imm) (ρ : Ren) (w : World) (cargs : Array Value) (pv' : Value), (∀ b, I b → b < w.heap.size) → HSim I w ρ h → RepL w I ρ args cargs.toList → Rep w I ρ pv pv' → GlobP P w I G →
    CallsDIn (FR none) 0 P f cargs (.panicking [{ v := pv', recovered := false }]) w fun e u' w' => u' = .panicking [{ v := pv', recovered := true }] ∧
      ∃ cv h' I' ρ1, e = .returned cv ∧ R h' ∧ Imm.le I I' ∧ (∀ b, I' b → b < w'.heap.size) ∧ HSim I' w' (ρ ++ ρ1) h' ∧ Keep I w w'
/-- **A deferred function's contract, where something panics, out of its code: it begins with 'recover'.** -/
theorem TriDP_of {f : FuncId} {rf : RF} {d : Option Nat} {args : List EV} {h : EH} {pv : EV} {R : EH → Prop} (hc : compRF P f = some rf) (hdst : rf.dst = some d)
    (hrun : ∀ (I0 : Imm) (ρ0 : Ren) (w0 : World) (Q : Exit → Act → World → Prop), ρ0.length = sizeH h → EndsQ P G I0 ρ0 w0 Q (fun s => (∃ v, retE rf.rs s.t s.h = some v) ∧ R s.h) →
      OKK P G none I0 ρ0 w0 Q (.ops rf.ops :: rf.rest.map .c) ⟨putT (padT args rf.ntmps) d pv, h⟩) :
    TriDP P G f args h pv R := by
  intro I ρ w cargs pv' hI hs ha hpv hg
  unfold compRF at hc
  split at hc
  · cases hc
  rename_i fn hf
  split at hc
  · cases hc
  rename_i c hb
  split at hc
  rotate_left
  · cases hc
  have hpad := pad_rep (n := fn.ntmps) ha
  split at hc
  · split at hc
    · cases hc; cases hdst
    · cases hc
  · rename_i id ops r hsp
    obtain ⟨o, tl, ho, hrec⟩ := splitR_spec hsp
    rw [ho] at hc
    simp only at hc
    split at hc
    · rename_i l re rs hl hre hrs
      cases hc
      cases hdst
      refine callsDIn_marksG (u1 := .panicking [{ v := pv', recovered := true }]) hf hb trivial fun c₀ cs hm => splitR_wp rfl hsp (wpSIn_recoverP ho hrec hm rfl ?_)
      have post : EndsQ P G I.bare ρ w (fun e a w' => (e = .normal ∨ e = .ret) ∧ ({ c₀ with mode := .panicking [{ v := pv', recovered := true }] } : Frame) :: cs = ({ c₀ with mode := .panicking [{ v := pv', recovered := true }] } : Frame) :: cs ∧ ∃ I0 I1, Marks I0 I1 w' a.defers ∧ ∀ w'', Off w' w'' a.defers → ∃ v, (results fn a.tmps).run P w'' = .ok v w'' ∧
          (FrameMode.panicking [{ v := pv', recovered := true }] = .panicking [{ v := pv', recovered := true }] ∧ ∃ cv h' I' ρ1, Ending.returned v = .returned cv ∧ R h' ∧ Imm.le I I' ∧ (∀ b, I' b → b < w''.heap.size) ∧ HSim I' w'' (ρ ++ ρ1) h' ∧ Keep I w w'')) (fun s => (∃ v, retE rs s.t s.h = some v) ∧ R s.h) := by
        intro st ⟨⟨v, hv⟩, hR⟩ a w' hx
        obtain ⟨I', ρ1, q1, q2, q3, q4, ⟨ms, hms, q5⟩, q6, q7⟩ := hx
        have hms : a.defers = ms := by rw [hms]; exact List.append_nil ms
        have key : ∃ I0 I1, Marks I0 I1 w' a.defers ∧ ∀ w'', Off w' w'' a.defers → ∃ v, (results fn a.tmps).run P w'' = .ok v w'' ∧
          (FrameMode.panicking [{ v := pv', recovered := true }] = .panicking [{ v := pv', recovered := true }] ∧ ∃ cv h' I' ρ1, Ending.returned v = .returned cv ∧ R h' ∧ Imm.le I I' ∧ (∀ b, I' b → b < w''.heap.size) ∧ HSim I' w'' (ρ ++ ρ1) h' ∧ Keep I w w'') := by
          rw [hms]
          refine ⟨_, _, q5, fun w'' ho => ?_⟩
          obtain ⟨J, j1, j2, j3, j4, j5, j6, j7⟩ := release q1 q2 q3 q5 q7 ho
          obtain ⟨cv, hcv, hrep⟩ := retE_sound (P := P) (fn := fn) j4 (q4.map j7) hrs hv
          exact ⟨cv, hcv, rfl, cv, st.h, J, ρ1, rfl, hR, j1.unbare, j3, j4, q6.unbare.trans (j5.mono j1.k)⟩
        exact ⟨⟨.inl rfl, rfl, key⟩, ⟨.inr rfl, rfl, key⟩⟩
      have hok := hrun I.bare ρ w _ hs.len post
      refine seq_sound (P := P) (G := G) (I0 := I.bare) (ρ0 := ρ) (w0 := w) (ro := none) (Pn := PanK P G I.bare ρ w (fun e a w' => (e = .normal ∨ e = .ret) ∧ ({ c₀ with mode := .panicking [{ v := pv', recovered := true }] } : Frame) :: cs = ({ c₀ with mode := .panicking [{ v := pv', recovered := true }] } : Frame) :: cs ∧ ∃ I0 I1, Marks I0 I1 w' a.defers ∧ ∀ w'', Off w' w'' a.defers → ∃ v, (results fn a.tmps).run P w'' = .ok v w'' ∧
          (FrameMode.panicking [{ v := pv', recovered := true }] = .panicking [{ v := pv', recovered := true }] ∧ ∃ cv h' I' ρ1, Ending.returned v = .returned cv ∧ R h' ∧ Imm.le I I' ∧ (∀ b, I' b → b < w''.heap.size) ∧ HSim I' w'' (ρ ++ ρ1) h' ∧ Keep I w w''))) ?_ tl l ⟨putT (padT args fn.ntmps) o.dst pv, h⟩ _ w hl ?_ ?_
      rotate_left
      · have := putT_rep (a := { tmps := cargs ++ Array.replicate (fn.ntmps - cargs.size) undef, defers := [] }) o.dst hpv hpad
        have hx : SimX P G I.bare ρ w ⟨putT (padT args fn.ntmps) o.dst pv, h⟩ _ w := ⟨I, [], Imm.le.bare I, hI, by simpa using hs, by simpa using this, ⟨[], by rw [put_defers]; rfl, trivial⟩, Keep.refl I.bare w, hg⟩
        exact hx
      · refine SeqOK.mono (fun st' hst => ?_) l _ hok
        intro a' w' hsim
        exact hst _ (KW.list hre fun _ _ h => by cases h) a' w' hsim
      · intro v st hh a w' v' hs
        exact absurd (hh.q a w' v' hs).1 (by simp)
    · cases hc
/-- **A deferred function's contract, out of its code.** -/
theorem TriD_of {f : FuncId} {rf : RF} {args : List EV} {h : EH} {R : EH → Prop} (hc : compRF P f = some rf)
    (hrun : ∀ (I0 : Imm) (ρ0 : Ren) (w0 : World) (Q : Exit → Act → World → Prop), ρ0.length = sizeH h → EndsQ P G I0 ρ0 w0 Q (fun s => (∃ v, retE rf.rs s.t s.h = some v) ∧ R s.h) →
      OKK P G none I0 ρ0 w0 Q (.ops rf.ops :: rf.rest.map .c) ⟨match rf.dst with | some d => putT (padT args rf.ntmps) d (.lit .nilIface) | none => padT args rf.ntmps, h⟩) :
    TriD P G f args h R := by
  intro I ρ w cargs hI hs ha hg
  unfold compRF at hc
  split at hc
  · cases hc
  rename_i fn hf
  split at hc
  · cases hc
  rename_i c hb
  split at hc
  rotate_left
  · cases hc
  have hpad := pad_rep (n := fn.ntmps) ha
  have post : ∀ (c₀ : Frame) (cs : List Frame) (rs : List ER), compR P fn.results.toList = some rs → EndsQ P G I.bare ρ w (fun e a w' => (e = .normal ∨ e = .ret) ∧ c₀ :: cs = c₀ :: cs ∧ ∃ I0 I1, Marks I0 I1 w' a.defers ∧ ∀ w'', Off w' w'' a.defers → ∃ v, (results fn a.tmps).run P w'' = .ok v w'' ∧
      (FrameMode.returning = .returning ∧ ∃ cv h' I' ρ1, Ending.returned v = .returned cv ∧ R h' ∧ Imm.le I I' ∧ (∀ b, I' b → b < w''.heap.size) ∧ HSim I' w'' (ρ ++ ρ1) h' ∧ Keep I w w'')) (fun s => (∃ v, retE rs s.t s.h = some v) ∧ R s.h) := by
    intro c₀ cs rs hrs st ⟨⟨v, hv⟩, hR⟩ a w' hx
    obtain ⟨I', ρ1, q1, q2, q3, q4, ⟨ms, hms, q5⟩, q6, q7⟩ := hx
    have hms : a.defers = ms := by rw [hms]; exact List.append_nil ms
    have key : ∃ I0 I1, Marks I0 I1 w' a.defers ∧ ∀ w'', Off w' w'' a.defers → ∃ v, (results fn a.tmps).run P w'' = .ok v w'' ∧
      (FrameMode.returning = .returning ∧ ∃ cv h' I' ρ1, Ending.returned v = .returned cv ∧ R h' ∧ Imm.le I I' ∧ (∀ b, I' b → b < w''.heap.size) ∧ HSim I' w'' (ρ ++ ρ1) h' ∧ Keep I w w'') := by
      rw [hms]
      refine ⟨_, _, q5, fun w'' ho => ?_⟩
      obtain ⟨J, j1, j2, j3, j4, j5, j6, j7⟩ := release q1 q2 q3 q5 q7 ho
      obtain ⟨cv, hcv, hrep⟩ := retE_sound (P := P) (fn := fn) j4 (q4.map j7) hrs hv
      exact ⟨cv, hcv, rfl, cv, st.h, J, ρ1, rfl, hR, j1.unbare, j3, j4, q6.unbare.trans (j5.mono j1.k)⟩
    exact ⟨⟨.inl rfl, rfl, key⟩, ⟨.inr rfl, rfl, key⟩⟩
  have sim0 : ∀ tmps : Array Value, ∀ t : List EV, RepL w I ρ t tmps.toList → SimX P G I.bare ρ w ⟨t, h⟩ { tmps := tmps, defers := [] } w := fun tmps t ht =>
    ⟨I, [], Imm.le.bare I, hI, by simpa using hs, by simpa using ht, ⟨[], rfl, trivial⟩, Keep.refl I.bare w, hg⟩
  split at hc
  · split at hc
    · rename_i e rs he hrs
      cases hc
      refine callsDIn_marks hf hb trivial fun c₀ cs hm => wpSIn_of_wpIn rfl ?_
      have := hrun I.bare ρ w _ hs.len (post c₀ cs rs hrs)
      exact this _ (KW.c he (fun h => by cases h) KW.nil) _ w (sim0 _ _ hpad)
    · cases hc
  · rename_i id ops r hsp
    obtain ⟨o, tl, ho, hrec⟩ := splitR_spec hsp
    rw [ho] at hc
    simp only at hc
    split at hc
    · rename_i l re rs hl hre hrs
      cases hc
      refine callsDIn_marks hf hb trivial fun c₀ cs hm => splitR_wp rfl hsp (wpSIn_recover ho hrec hm rfl ?_)
      have hok := hrun I.bare ρ w _ hs.len (post c₀ cs rs hrs)
      refine seq_sound (P := P) (G := G) (I0 := I.bare) (ρ0 := ρ) (w0 := w) (ro := none) (Pn := PanK P G I.bare ρ w (fun e a w' => (e = .normal ∨ e = .ret) ∧ c₀ :: cs = c₀ :: cs ∧ ∃ I0 I1, Marks I0 I1 w' a.defers ∧ ∀ w'', Off w' w'' a.defers → ∃ v, (results fn a.tmps).run P w'' = .ok v w'' ∧
          (FrameMode.returning = .returning ∧ ∃ cv h' I' ρ1, Ending.returned v = .returned cv ∧ R h' ∧ Imm.le I I' ∧ (∀ b, I' b → b < w''.heap.size) ∧ HSim I' w'' (ρ ++ ρ1) h' ∧ Keep I w w''))) ?_ tl l ⟨putT (padT args fn.ntmps) o.dst (.lit .nilIface), h⟩ _ w hl ?_ ?_
      · intro v st hh a w' v' hs
        exact absurd (hh.q a w' v' hs).1 (by simp)
      · have := putT_rep (a := { tmps := cargs ++ Array.replicate (fn.ntmps - cargs.size) undef, defers := [] }) o.dst (.lit _ Value.nilIface) hpad
        have hx := sim0 _ _ this
        cases hd : o.dst <;> (rw [hd] at hx; exact hx)
      · refine SeqOK.mono (fun st' hst => ?_) l _ hok
        intro a' w' hsim
        exact hst _ (KW.list hre fun _ _ h => by cases h) a' w' hsim
    · cases hc
/-- **A contract of a function that defers a call, out of its code.** -/
theorem Tri_ofD {f : FuncId} {df : DF} {args : List EV} {h : EH} {R : EV → EH → Prop} {F1 F2 : St → Prop} (hc : compDF P f = some df)
    (hpre : ∀ (I0 : Imm) (ρ0 : Ren) (w0 : World) (Q : Exit → Act → World → Prop), ρ0.length = sizeH h → (∀ s, F1 s → ∀ a w, SimX P G I0 ρ0 w0 s a w → Q .normal a w) → OKs P G none I0 ρ0 w0 Q (df.pre.map .c) ⟨padT args df.ntmps, h⟩)
    (hmid : ∀ s0, F1 s0 → ∀ (I0 : Imm) (ρ0 : Ren) (w0 : World) (Q : Exit → Act → World → Prop), (∀ s, F2 s → ∀ a w, SimX P G I0 ρ0 w0 s a w → Q .normal a w) → OKK P G none I0 ρ0 w0 Q [.ops df.ops] s0)
    (hbody : ∀ s1, F2 s1 → ∃ g av bv, evalO G s1.t df.tgt = .fn (.func g) av bv ∧ goodF P g = true ∧ ∀ (I0 : Imm) (ρ0 : Ren) (w0 : World) (Q : Exit → Act → World → Prop), ρ0.length = sizeH s1.h →
      EndsQ P G I0 ρ0 w0 Q (fun s2 => TriD P G g (av ++ (evalL G s1.t df.args ++ bv)) s2.h fun h' => ∃ v, retE df.rs s2.t h' = some v ∧ R v h') → OKs P G none I0 ρ0 w0 Q (df.rest.map .c) s1) :
    Tri P G f args h R := by
  intro I ρ w cargs hI hs ha hg
  unfold compDF at hc
  split at hc
  · cases hc
  rename_i fn hf
  split at hc
  · cases hc
  rename_i c hb
  split at hc
  rotate_left
  · cases hc
  split at hc
  · cases hc
  rename_i p ops r hsp
  split at hc
  · cases hc
  rename_i i cl hlast
  split at hc
  rotate_left
  · cases hc
  rename_i x pe l re rs hcl hpe hl hre hrs
  cases hc
  obtain ⟨o, hops, hop, hgd, hdst⟩ := lastD_spec hlast
  refine (callsIn_wide (n := 0)).1 (show CallsIn (FR none) 0 P f _ w _ from callsIn_of_wp_marks hf hb trivial ?_ rfl)
  refine splitD_wp hsp ?_
  obtain ⟨RR, hRR⟩ : ∃ RR : Ending → World → Prop, RR = fun e w' => ∃ v cv h' I' ρ1, e = .returned cv ∧ R v h' ∧ Imm.le I I' ∧ (∀ b, I' b → b < w'.heap.size) ∧ HSim I' w' (ρ ++ ρ1) h' ∧ Rep w' I' (ρ ++ ρ1) v cv ∧ Keep I w w' := ⟨_, rfl⟩
  rw [← hRR]
  -- the code ahead
  refine hpre I.bare ρ w _ hs.len (fun s0 hs0 a0 w0 hsim0 => ?_) _ (KW.list hpe fun _ _ h => by cases h) _ w ⟨I, [], Imm.le.bare I, hI, by simpa using hs, by simpa using pad_rep (n := fn.ntmps) ha, ⟨[], rfl, trivial⟩, Keep.refl I.bare w, hg⟩
  show wpListIn (FR none) 0 P ops _ ops.toList a0 w0
  rw [hops]
  -- the region
  refine seq_soundT (Pn := fun v st => PanK P G I.bare ρ w (fun e a w' => e = .normal ∧ wpListIn (FR none) 0 P ops (Exit.then (wpL (FR none) 0 P r (bodyPostM (FR none) 0 P fn RR)) (bodyPostM (FR none) 0 P fn RR)) [o] a w') v st) (fun v st hh a w' v' hs => by cases (hh.q a w' v' hs).1) i l s0 a0 w0 hl hsim0 ?_
  refine SeqOK.mono (fun st' hst => ?_) l _ (hmid s0 hs0 I.bare ρ w (fun e a w' => e = .normal ∧ wpListIn (FR none) 0 P ops (Exit.then (wpL (FR none) 0 P r (bodyPostM (FR none) 0 P fn RR)) (bodyPostM (FR none) 0 P fn RR)) [o] a w') fun s1 hs1 a1 w1 hsim1 => ⟨rfl, ?_⟩)
  · exact fun a' w' hx => (hst _ KW.nil a' w' hx).2
  obtain ⟨I1, ρ1, p1, p2, p3, p4, ⟨ms, hms, p5⟩, p6, p7⟩ := hsim1
  have hms : a1.defers = ms := by rw [hms]; exact List.append_nil ms
  obtain ⟨g, av, bv, hev, hgood, hrest⟩ := hbody s1 hs1
  have hevr := evalO_rep p7.1 p4 x
  rw [hev] at hevr
  obtain ⟨xs, ys, hval, hxr, hyr⟩ : ∃ xs ys : Array Value, a1.eval x = .func (.func g) xs ys ∧ RepL w1 I1 (ρ ++ ρ1) av xs.toList ∧ RepL w1 I1 (ρ ++ ρ1) bv ys.toList := by
    generalize a1.eval x = cv at hevr
    cases hevr with
    | fn _ _ _ _ xs ys q1 q2 q3 q4 => exact ⟨xs, ys, rfl, RepL.mk (by simpa using q1) fun j e v he hv => q3 j e v he (by simpa using hv), RepL.mk (by simpa using q2) fun j e v he hv => q4 j e v he (by simpa using hv)⟩
  have har := evalL_rep p7.1 p4 cl.args.toList
  -- the call is deferred
  obtain ⟨d, hd⟩ : ∃ d : Deferred, d = { target := .fn (.func g) ys, args := xs ++ cl.args.map a1.eval } := ⟨_, rfl⟩
  have hwant : Region.wanted o (yielded ops a1.tmps) = true := by simp [Region.wanted, hgd]
  unfold wpListIn
  rw [if_pos hwant]
  refine ⟨fun _ _ => trivial, ?_⟩
  have hrun : (o.semAt (FR none).round a1.eval).run P w1 = .ok (.defer d) w1 := by
    show (o.semAt none a1.eval).run P w1 = _
    rw [Oper.semAt_none]
    simp [execOp, hop, resolve, hcl, hval, Deferred.ofValue, hd]
  rw [hrun, Oper.uponIn_defer, hdst]
  show wpL (FR none) 0 P r (bodyPostM (FR none) 0 P fn RR) { a1 with defers := d :: a1.defers } w1
  -- the code behind
  obtain ⟨J0, hJ0⟩ : ∃ J0 : Imm, J0 = ⟨I1.k, I1.j, I1.sub, I1.P, d :: a1.defers, false⟩ := ⟨_, rfl⟩
  have hJ1 : Imm.le J0 I1 := by subst hJ0; exact ⟨fun _ h => h, fun _ h => h, fun _ h => .inl h, rfl⟩
  have hJ2 : Imm.le I1 J0 := by subst hJ0; exact ⟨fun _ h => h, fun _ h => h, fun _ h => .inl h, rfl⟩
  refine hrest J0 (ρ ++ ρ1) w1 (bodyPostM (FR none) 0 P fn RR) p3.len (fun s2 hD a2 w2 hsim2 => ?_) _ (KW.list hre fun _ _ h => by subst hJ0; cases h) _ w1
    ⟨I1, [], hJ1, p2, by simpa using p3, by simpa using p4, ⟨[], by subst hJ0; rfl, trivial⟩, Keep.refl J0 w1, p7⟩
  obtain ⟨I2, ρ2, q1, q2, q3, q4, ⟨ms2, hms2, q5⟩, q6, q7⟩ := hsim2
  have hms2 : a2.defers = ms2 ++ (d :: ms) := by rw [hms2, hJ0, hms]
  have key : LeavesInM (FR none) 0 P fn a2.tmps RR a2.defers .returning w2 := by
    rw [hms2]
    refine marks_leaveT q5 fun w3 ho => ?_
    obtain ⟨J, j1, j2, j3, j4, j5, j6, j7⟩ := release q1 q2 q3 q5 q7 ho
    have hkJ : Keep I1 w1 w3 := (q6.mono hJ2.k).trans (j5.mono fun b hb => j1.k b (hJ2.k b hb))
    have up : ∀ e v, Rep w1 I1 (ρ ++ ρ1) e v → Rep w3 J ((ρ ++ ρ1) ++ ρ2) e v := fun e v hr => ((hr.keep hkJ).imm fun b hb => j1.j b (hJ2.j b hb)).ext ρ2
    have hargs : RepL w3 J ((ρ ++ ρ1) ++ ρ2) (av ++ (evalL G s1.t cl.args.toList ++ bv)) (xs ++ cl.args.map a1.eval ++ ys).toList := by
      have := (hxr.map up).app ((har.map up).app (hyr.map up))
      simpa using this
    have hcall := hD J ((ρ ++ ρ1) ++ ρ2) w3 (xs ++ cl.args.map a1.eval ++ ys) j3 j4 hargs j6
    refine ⟨by simp, .inr ⟨fun hh => by simp [FR, Fence.wide] at hh, .func g, ys, g, xs ++ cl.args.map a1.eval ++ ys, by rw [hd], ?_, fun _ _ => trivial, ?_⟩⟩
    · rw [hd]; simp [invoke, goodF_call hgood]
    · refine hcall.mono fun e u' w4 hh => ?_
      obtain ⟨rfl, cv, h', J', ρ3, rfl, ⟨v, hv, hR⟩, k1, k2, k3, k4⟩ := hh
      show LeavesInM (FR none) 0 P fn a2.tmps RR ms .returning w4
      have hle1 : Imm.le I1 J' := hJ2.trans (j1.trans k1)
      have hk14 : Keep I1 w1 w4 := hkJ.trans (k4.mono fun b hb => j1.k b (hJ2.k b hb))
      have hmk : Marks I.bare J' w4 ms := p5.keep hk14 hle1
      refine marks_leave hmk fun w5 ho5 => ?_
      have hg4 : GlobP P w4 J' G := j6.keep k4 k1
      obtain ⟨K, m1, m2, m3, m4, m5, m6, m7⟩ := release (p1.trans hle1) k2 k3 hmk hg4 ho5
      have hrep4 : RepL w4 J' (((ρ ++ ρ1) ++ ρ2) ++ ρ3) s2.t a2.tmps.toList := (q4.map j7).map fun e v hr => ((hr.keep k4).imm k1.j).ext ρ3
      obtain ⟨cv', hcv, hrep⟩ := retE_sound (P := P) (fn := fn) m4 (hrep4.map m7) hrs hv
      rw [hRR]
      refine ⟨cv', hcv, v, cv', h', K, ρ1 ++ (ρ2 ++ ρ3), rfl, hR, m1.unbare, m3, by simpa using m4, by simpa using hrep, ?_⟩
      exact (p6.unbare.trans (hk14.mono fun b hb => p1.k b hb)).trans (m5.mono fun b hb => m1.k b hb)
  exact ⟨key, key⟩
/-- Likewise where something panics. -/
theorem marks_leaveTP {ch : List PanicEntry} {F : Fence} {n : Nat} {fn : Func} {tmps : Array Value} {R : Ending → World → Prop} {I0 I : Imm} {tl : List Deferred} : ∀ {l : List Deferred} {w : World}, Marks I0 I w l →
    (∀ w', Off w w' l → LeavesInM F n P fn tmps R tl (.panicking ch) w') → LeavesInM F n P fn tmps R (l ++ tl) (.panicking ch) w
  | [], w, _, h => h w ⟨rfl, rfl, rfl, rfl, fun _ _ => rfl⟩
  | d :: l, w, ⟨⟨b, h1, h2, h3, h4, h5, h6⟩, h7⟩, h => by
    have hne : ∀ c, c ≠ b → (w.putObj b (.deferred none)).heap[c]? = w.heap[c]? := fun c hc => World.putObj_heap_other hc
    have hm : ∀ {l' : List Deferred}, (∀ d' ∈ l', d'.target ≠ .collected b) → Marks I0 I w l' → Marks I0 I (w.putObj b (.deferred none)) l' := by
      intro l'
      induction l' with
      | nil => intro _ _; trivial
      | cons x l' ih =>
        rintro hx ⟨⟨c, k1, k2, k3, k4, k5, k6⟩, k7⟩
        exact ⟨⟨c, k1, k2, k3, k4, by rw [hne c fun e => hx x (by simp) (by rw [k1, e])]; exact k5, k6⟩, ih (fun y hy => hx y (by simp [hy])) k7⟩
    refine ⟨by simp, .inl ⟨b, _, h1, run_takeDeferred h5, marks_leaveTP (hm h6 h7) fun w' ho => h w' ⟨ho.1, ho.2.1, ho.2.2.1, by rw [ho.2.2.2.1]; simp, fun c hc => ?_⟩⟩⟩
    rw [ho.2.2.2.2 c fun x hx => hc x (by simp [hx]), hne c fun e => hc d (by simp) (by rw [h1, e])]
/-- does the code behind the deferring region draw no order? -/
def ndD (P : Program) (f : FuncId) : Bool :=
  match P.funcs[f]? with
  | some fn => match fn.body with
    | some c => match splitD c with
      | some (_, _, r) => r.all noDraw
      | none => false
    | none => false
  | none => false
theorem ndD_spec {P : Program} {f : FuncId} {fn : Func} {c : Code} {p r : List Code} {ops : Array Oper} (h : ndD P f = true) (hf : P.funcs[f]? = some fn) (hb : fn.body = some c) (hs : splitD c = some (p, ops, r)) : ∀ c ∈ r, noDraw c = true := by
  unfold ndD at h
  rw [hf] at h
  simp only [hb, hs] at h
  exact List.all_eq_true.1 h
/-- **Likewise where the code behind may give up: what is deferred takes it up.** -/
theorem Tri_ofDP {f : FuncId} {df : DF} {args : List EV} {h : EH} {R : EV → EH → Prop} {F1 F2 : St → Prop} (hc : compDF P f = some df) (hnd : ndD P f = true)
    (hpre : ∀ (I0 : Imm) (ρ0 : Ren) (w0 : World) (Q : Exit → Act → World → Prop), ρ0.length = sizeH h → (∀ s, F1 s → ∀ a w, SimX P G I0 ρ0 w0 s a w → Q .normal a w) → OKs P G none I0 ρ0 w0 Q (df.pre.map .c) ⟨padT args df.ntmps, h⟩)
    (hmid : ∀ s0, F1 s0 → ∀ (I0 : Imm) (ρ0 : Ren) (w0 : World) (Q : Exit → Act → World → Prop), (∀ s, F2 s → ∀ a w, SimX P G I0 ρ0 w0 s a w → Q .normal a w) → OKK P G none I0 ρ0 w0 Q [.ops df.ops] s0)
    (hbody : ∀ s1, F2 s1 → ∃ g av bv, evalO G s1.t df.tgt = .fn (.func g) av bv ∧ goodF P g = true ∧ ∀ (I0 : Imm) (ρ0 : Ren) (w0 : World) (Q : Exit → Act → World → Prop), ρ0.length = sizeH s1.h →
      EndsQ P G I0 ρ0 w0 Q (fun s2 => TriD P G g (av ++ (evalL G s1.t df.args ++ bv)) s2.h fun h' => ∃ v, retE df.rs s2.t h' = some v ∧ R v h') →
      (∀ pv s2, TriDP P G g (av ++ (evalL G s1.t df.args ++ bv)) s2.h pv (fun h' => ∃ v, retE df.rs s2.t h' = some v ∧ R v h') → PanK P G I0 ρ0 w0 Q pv s2) → OKs P G none I0 ρ0 w0 Q (df.rest.map .c) s1) :
    Tri P G f args h R := by
  intro I ρ w cargs hI hs ha hg
  unfold compDF at hc
  split at hc
  · cases hc
  rename_i fn hf
  split at hc
  · cases hc
  rename_i c hb
  split at hc
  rotate_left
  · cases hc
  split at hc
  · cases hc
  rename_i p ops r hsp
  split at hc
  · cases hc
  rename_i i cl hlast
  split at hc
  rotate_left
  · cases hc
  rename_i x pe l re rs hcl hpe hl hre hrs
  cases hc
  obtain ⟨o, hops, hop, hgd, hdst⟩ := lastD_spec hlast
  refine (callsIn_wide (n := 0)).1 (show CallsIn (FR none) 0 P f _ w _ from callsIn_of_wp_marks hf hb trivial ?_ rfl)
  refine splitD_wp hsp ?_
  obtain ⟨RR, hRR⟩ : ∃ RR : Ending → World → Prop, RR = fun e w' => ∃ v cv h' I' ρ1, e = .returned cv ∧ R v h' ∧ Imm.le I I' ∧ (∀ b, I' b → b < w'.heap.size) ∧ HSim I' w' (ρ ++ ρ1) h' ∧ Rep w' I' (ρ ++ ρ1) v cv ∧ Keep I w w' := ⟨_, rfl⟩
  rw [← hRR]
  -- the code ahead
  refine hpre I.bare ρ w _ hs.len (fun s0 hs0 a0 w0 hsim0 => ?_) _ (KW.list hpe fun _ _ h => by cases h) _ w ⟨I, [], Imm.le.bare I, hI, by simpa using hs, by simpa using pad_rep (n := fn.ntmps) ha, ⟨[], rfl, trivial⟩, Keep.refl I.bare w, hg⟩
  show wpListIn (FR none) 0 P ops _ ops.toList a0 w0
  rw [hops]
  -- the region
  refine seq_soundT (Pn := fun v st => PanK P G I.bare ρ w (fun e a w' => e = .normal ∧ wpListIn (FR none) 0 P ops (Exit.then (wpL (FR none) 0 P r (bodyPostM (FR none) 0 P fn RR)) (bodyPostM (FR none) 0 P fn RR)) [o] a w') v st) (fun v st hh a w' v' hs => by cases (hh.q a w' v' hs).1) i l s0 a0 w0 hl hsim0 ?_
  refine SeqOK.mono (fun st' hst => ?_) l _ (hmid s0 hs0 I.bare ρ w (fun e a w' => e = .normal ∧ wpListIn (FR none) 0 P ops (Exit.then (wpL (FR none) 0 P r (bodyPostM (FR none) 0 P fn RR)) (bodyPostM (FR none) 0 P fn RR)) [o] a w') fun s1 hs1 a1 w1 hsim1 => ⟨rfl, ?_⟩)
  · exact fun a' w' hx => (hst _ KW.nil a' w' hx).2
  obtain ⟨I1, ρ1, p1, p2, p3, p4, ⟨ms, hms, p5⟩, p6, p7⟩ := hsim1
  have hms : a1.defers = ms := by rw [hms]; exact List.append_nil ms
  obtain ⟨g, av, bv, hev, hgood, hrest⟩ := hbody s1 hs1
  have hevr := evalO_rep p7.1 p4 x
  rw [hev] at hevr
  obtain ⟨xs, ys, hval, hxr, hyr⟩ : ∃ xs ys : Array Value, a1.eval x = .func (.func g) xs ys ∧ RepL w1 I1 (ρ ++ ρ1) av xs.toList ∧ RepL w1 I1 (ρ ++ ρ1) bv ys.toList := by
    generalize a1.eval x = cv at hevr
    cases hevr with
    | fn _ _ _ _ xs ys q1 q2 q3 q4 => exact ⟨xs, ys, rfl, RepL.mk (by simpa using q1) fun j e v he hv => q3 j e v he (by simpa using hv), RepL.mk (by simpa using q2) fun j e v he hv => q4 j e v he (by simpa using hv)⟩
  have har := evalL_rep p7.1 p4 cl.args.toList
  -- the call is deferred
  obtain ⟨d, hd⟩ : ∃ d : Deferred, d = { target := .fn (.func g) ys, args := xs ++ cl.args.map a1.eval } := ⟨_, rfl⟩
  have hwant : Region.wanted o (yielded ops a1.tmps) = true := by simp [Region.wanted, hgd]
  unfold wpListIn
  rw [if_pos hwant]
  refine ⟨fun _ _ => trivial, ?_⟩
  have hrun : (o.semAt (FR none).round a1.eval).run P w1 = .ok (.defer d) w1 := by
    show (o.semAt none a1.eval).run P w1 = _
    rw [Oper.semAt_none]
    simp [execOp, hop, resolve, hcl, hval, Deferred.ofValue, hd]
  rw [hrun, Oper.uponIn_defer, hdst]
  show wpL (FR none) 0 P r (bodyPostM (FR none) 0 P fn RR) { a1 with defers := d :: a1.defers } w1
  -- the code behind
  obtain ⟨J0, hJ0⟩ : ∃ J0 : Imm, J0 = ⟨I1.k, I1.j, I1.sub, I1.P, d :: a1.defers, true⟩ := ⟨_, rfl⟩
  have hJ1 : Imm.le J0 I1 := by subst hJ0; exact ⟨fun _ h => h, fun _ h => h, fun _ h => .inl h, rfl⟩
  have hJ2 : Imm.le I1 J0 := by subst hJ0; exact ⟨fun _ h => h, fun _ h => h, fun _ h => .inl h, rfl⟩
  refine hrest J0 (ρ ++ ρ1) w1 (bodyPostM (FR none) 0 P fn RR) p3.len (fun s2 hD a2 w2 hsim2 => ?_) (fun pv s2 hD => ⟨fun _ a2 w2 pv' hsim2 => ?_, fun hT => by subst hJ0; cases hT⟩) _ (KW.list hre fun c hcr _ => ndD_spec hnd hf hb hsp c hcr) _ w1
    ⟨I1, [], hJ1, p2, by simpa using p3, by simpa using p4, ⟨[], by subst hJ0; rfl, trivial⟩, Keep.refl J0 w1, p7⟩
  · obtain ⟨I2, ρ2, q1, q2, q3, q4, ⟨ms2, hms2, q5⟩, q6, q7⟩ := hsim2
    have hms2 : a2.defers = ms2 ++ (d :: ms) := by rw [hms2, hJ0, hms]
    have key : LeavesInM (FR none) 0 P fn a2.tmps RR a2.defers .returning w2 := by
      rw [hms2]
      refine marks_leaveT q5 fun w3 ho => ?_
      obtain ⟨J, j1, j2, j3, j4, j5, j6, j7⟩ := release q1 q2 q3 q5 q7 ho
      have hkJ : Keep I1 w1 w3 := (q6.mono hJ2.k).trans (j5.mono fun b hb => j1.k b (hJ2.k b hb))
      have up : ∀ e v, Rep w1 I1 (ρ ++ ρ1) e v → Rep w3 J ((ρ ++ ρ1) ++ ρ2) e v := fun e v hr => ((hr.keep hkJ).imm fun b hb => j1.j b (hJ2.j b hb)).ext ρ2
      have hargs : RepL w3 J ((ρ ++ ρ1) ++ ρ2) (av ++ (evalL G s1.t cl.args.toList ++ bv)) (xs ++ cl.args.map a1.eval ++ ys).toList := by
        have := (hxr.map up).app ((har.map up).app (hyr.map up))
        simpa using this
      have hcall := hD J ((ρ ++ ρ1) ++ ρ2) w3 (xs ++ cl.args.map a1.eval ++ ys) j3 j4 hargs j6
      refine ⟨by simp, .inr ⟨fun hh => by simp [FR, Fence.wide] at hh, .func g, ys, g, xs ++ cl.args.map a1.eval ++ ys, by rw [hd], ?_, fun _ _ => trivial, ?_⟩⟩
      · rw [hd]; simp [invoke, goodF_call hgood]
      · refine hcall.mono fun e u' w4 hh => ?_
        obtain ⟨rfl, cv, h', J', ρ3, rfl, ⟨v, hv, hR⟩, k1, k2, k3, k4⟩ := hh
        show LeavesInM (FR none) 0 P fn a2.tmps RR ms .returning w4
        have hle1 : Imm.le I1 J' := hJ2.trans (j1.trans k1)
        have hk14 : Keep I1 w1 w4 := hkJ.trans (k4.mono fun b hb => j1.k b (hJ2.k b hb))
        have hmk : Marks I.bare J' w4 ms := p5.keep hk14 hle1
        refine marks_leave hmk fun w5 ho5 => ?_
        have hg4 : GlobP P w4 J' G := j6.keep k4 k1
        obtain ⟨K, m1, m2, m3, m4, m5, m6, m7⟩ := release (p1.trans hle1) k2 k3 hmk hg4 ho5
        have hrep4 : RepL w4 J' (((ρ ++ ρ1) ++ ρ2) ++ ρ3) s2.t a2.tmps.toList := (q4.map j7).map fun e v hr => ((hr.keep k4).imm k1.j).ext ρ3
        obtain ⟨cv', hcv, hrep⟩ := retE_sound (P := P) (fn := fn) m4 (hrep4.map m7) hrs hv
        rw [hRR]
        refine ⟨cv', hcv, v, cv', h', K, ρ1 ++ (ρ2 ++ ρ3), rfl, hR, m1.unbare, m3, by simpa using m4, by simpa using hrep, ?_⟩
        exact (p6.unbare.trans (hk14.mono fun b hb => p1.k b hb)).trans (m5.mono fun b hb => m1.k b hb)
    exact ⟨key, key⟩
  · obtain ⟨I2, ρ2, q1, q2, q3, q4, ⟨ms2, hms2, q5⟩, q6, q7, q8⟩ := hsim2
    have hms2 : a2.defers = ms2 ++ (d :: ms) := by rw [hms2, hJ0, hms]
    have key : LeavesInM (FR none) 0 P fn a2.tmps RR a2.defers (.panicking [{ v := pv', recovered := false }]) w2 := by
      rw [hms2]
      refine marks_leaveTP q5 fun w3 ho => ?_
      obtain ⟨J, j1, j2, j3, j4, j5, j6, j7⟩ := release q1 q2 q3 q5 q7 ho
      have hkJ : Keep I1 w1 w3 := (q6.mono hJ2.k).trans (j5.mono fun b hb => j1.k b (hJ2.k b hb))
      have up : ∀ e v, Rep w1 I1 (ρ ++ ρ1) e v → Rep w3 J ((ρ ++ ρ1) ++ ρ2) e v := fun e v hr => ((hr.keep hkJ).imm fun b hb => j1.j b (hJ2.j b hb)).ext ρ2
      have hargs : RepL w3 J ((ρ ++ ρ1) ++ ρ2) (av ++ (evalL G s1.t cl.args.toList ++ bv)) (xs ++ cl.args.map a1.eval ++ ys).toList := by
        have := (hxr.map up).app ((har.map up).app (hyr.map up))
        simpa using this
      have hcall := hD J ((ρ ++ ρ1) ++ ρ2) w3 (xs ++ cl.args.map a1.eval ++ ys) pv' j3 j4 hargs (j7 _ _ q8) j6
      refine ⟨by simp, .inr ⟨fun hh => by simp [FR, Fence.wide] at hh, .func g, ys, g, xs ++ cl.args.map a1.eval ++ ys, by rw [hd], ?_, fun _ _ => trivial, ?_⟩⟩
      · rw [hd]; simp [invoke, goodF_call hgood]
      · refine hcall.mono fun e u' w4 hh => ?_
        obtain ⟨rfl, cv, h', J', ρ3, rfl, ⟨v, hv, hR⟩, k1, k2, k3, k4⟩ := hh
        show LeavesInM (FR none) 0 P fn a2.tmps RR ms .returning w4
        have hle1 : Imm.le I1 J' := hJ2.trans (j1.trans k1)
        have hk14 : Keep I1 w1 w4 := hkJ.trans (k4.mono fun b hb => j1.k b (hJ2.k b hb))
        have hmk : Marks I.bare J' w4 ms := p5.keep hk14 hle1
        refine marks_leave hmk fun w5 ho5 => ?_
        have hg4 : GlobP P w4 J' G := j6.keep k4 k1
        obtain ⟨K, m1, m2, m3, m4, m5, m6, m7⟩ := release (p1.trans hle1) k2 k3 hmk hg4 ho5
        have hrep4 : RepL w4 J' (((ρ ++ ρ1) ++ ρ2) ++ ρ3) s2.t a2.tmps.toList := (q4.map j7).map fun e v hr => ((hr.keep k4).imm k1.j).ext ρ3
        obtain ⟨cv', hcv, hrep⟩ := retE_sound (P := P) (fn := fn) m4 (hrep4.map m7) hrs hv
        rw [hRR]
        refine ⟨cv', hcv, v, cv', h', K, ρ1 ++ (ρ2 ++ ρ3), rfl, hR, m1.unbare, m3, by simpa using m4, by simpa using hrep, ?_⟩
        exact (p6.unbare.trans (hk14.mono fun b hb => p1.k b hb)).trans (m5.mono fun b hb => m1.k b hb)
    exact key
end
end Go.Proofs.YtpgeonghlabnhaaGreatDoor.Em
