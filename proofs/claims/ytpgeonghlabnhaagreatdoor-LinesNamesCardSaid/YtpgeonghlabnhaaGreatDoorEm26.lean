/- Em26: loops over functions: a round's contract out of its code; the loop out of the iterator's contract. No conditions beyond those written. -/
import Derived.Test.YtpgeonghlabnhaaGreatDoorEm21
import Derived.Test.YtpgeonghlabnhaaGreatDoorEm19
import Derived.RangeFuncIn
set_option linter.unusedVariables false
set_option linter.unusedSimpArgs false
namespace Go.Proofs.YtpgeonghlabnhaaGreatDoor.Em
open Go
/-- How a piece of code is left: none: at its end; some none: by ret; some (some id): by an exit. -/
abbrev PD := Option (Option Nat)
def QX (how : PD) (Q : Exit → Act → World → Prop) (a : Act) (w : World) : Prop :=
  match how with
  | none => Q .normal a w
  | some none => Q .ret a w
  | some (some id) => Q (.exit id) a w
def setPs : List EV → List Nat → List EV → List EV
  | t, p :: ps, a :: as => setPs (setT t p a) ps as
  | t, _, _ => t
section
variable {P : Program} {G : List (List EV)}
theorem setPs_rep {w : World} {I : Imm} {ρ : Ren} : ∀ {ps : List Nat} {as t : List EV} {vs us : List Value}, RepL w I ρ as vs → RepL w I ρ t us →
    RepL w I ρ (setPs t ps as) ((ps.zip vs).foldl (fun us (p : Nat × Value) => us.set p.1 p.2) us)
  | [], as, t, vs, us, ha, ht => by cases as <;> simpa [setPs] using ht
  | p :: ps, [], t, vs, us, ha, ht => by
    cases vs with
    | nil => simpa [setPs] using ht
    | cons v vs => exact ha.elim
  | p :: ps, a :: as, t, vs, us, ha, ht => by
    cases vs with
    | nil => exact ha.elim
    | cons v vs => simpa [setPs] using setPs_rep (ps := ps) ha.2 (setT_rep ha.1 p ht)
theorem foldl_tmps : ∀ (l : List (Nat × Value)) (tmps : Array Value), (l.foldl (fun tmps (t, a) => tmps.setIfInBounds t a) tmps).toList = l.foldl (fun us (p : Nat × Value) => us.set p.1 p.2) tmps.toList
  | [], _ => rfl
  | (p, v) :: l, tmps => by simp [foldl_tmps l]
/-- A loop's record is turned. -/
theorem lp_put {I : Imm} {w : World} {ρ : Ren} {h : EH} {id l : Nat} {r r' : Loop} {t : List EV} {ps : List Nat} {asg body : EC} {st st' : Nat} {pd pd' : PD} (hs : HSim I w ρ h) (hg : getH h id = .lp t ps asg body st pd)
    (hρ : ρ[id]? = some (l, 0)) (hr : w.heap[l]? = some (.loop r)) (h1 : r'.tmps = r.tmps) (h2 : r'.params = r.params) (h3 : r'.assign = r.assign) (h4 : r'.body = r.body) (h5 : LSt r' st' pd') :
    Keep I w (w.putObj l (.loop r')) ∧ HSim I (w.putObj l (.loop r')) ρ (setH h id (.lp t ps asg body st' pd')) := by
  have hlive := hs.live id
  rw [hg] at hlive
  obtain ⟨b, r0, k1, k2, k3, k4, k5, k6, k7, k8⟩ := hlive
  rw [hρ] at k1; cases k1
  rw [hr] at k3; cases k3
  have hlt : l < w.heap.size := (Array.getElem?_eq_some_iff.1 hr).1
  have hne : ∀ b', b' ≠ l → (w.putObj l (.loop r')).heap[b']? = w.heap[b']? := fun b' hb => World.putObj_heap_other hb
  have hk : Keep I w (w.putObj l (.loop r')) := ⟨rfl, rfl, rfl, by simp, fun b' hb => hne b' fun e => k2 (e ▸ hb), fun b' cs e fz hb => ⟨cs, fz, by
    rw [hne b' fun e' => by rw [e', hr] at hb; cases hb]; exact hb, rfl⟩⟩
  refine ⟨hk, hs.write hk (by rw [hg]; simp) hρ hne _ ?_⟩
  exact ⟨l, r', hρ, k2, World.putObj_heap_same hlt, by rw [h1]; exact k4.map fun _ _ x => x.keep hk, by rw [h2]; exact k5, by rw [h3]; exact k6, by rw [h4]; exact k7, h5⟩
/-- **A round's contract.** -/
theorem TriY_of {id : Nat} {as : List EV} {h : EH} {t0 t1 t2 : List EV} {ps ps1 ps2 : List Nat} {asg body a1 b1 a2 b2 : EC} {pd pd1 pd2 how : PD} {st2 : Nat} {s1 s2 : St} (hg : getH h id = .lp t0 ps asg body 0 pd) (hl : as.length = ps.length)
    (h1 : ∀ (ro : Option Nat) (I0 : Imm) (ρ0 : Ren) (w0 : World) (Q : Exit → Act → World → Prop), ro.isSome = true → (∀ a w, SimX P G I0 ρ0 w0 s1 a w → Q .normal a w) → OKs P G ro I0 ρ0 w0 Q [.c asg] ⟨setPs t0 ps as, h⟩)
    (hg1 : getH s1.h id = .lp t1 ps1 a1 b1 0 pd1)
    (h2 : ∀ (ro : Option Nat) (I0 : Imm) (ρ0 : Ren) (w0 : World) (Q : Exit → Act → World → Prop), ro.isSome = true → (∀ a w, SimX P G I0 ρ0 w0 s2 a w → QX how Q a w) → OKs P G ro I0 ρ0 w0 Q [.c body] ⟨s1.t, setH s1.h id (.lp t1 ps1 a1 b1 1 pd1)⟩)
    (hg2 : getH s2.h id = .lp t2 ps2 a2 b2 st2 pd2) :
    TriY P G id as h fun v h' => v = .lit (.bool how.isNone) ∧ h' = setH s2.h id (.lp t2 ps2 a2 b2 (if how.isNone then 0 else 2) how) := by
  refine ⟨⟨_, _, _, _, _, _, hg⟩, fun I ρ w cargs hI hs ha hgl ro l r hρ hr => ?_⟩
  have hlive := hs.live id
  rw [hg] at hlive
  obtain ⟨b, r0, k1, k2, k3, k4, k5, k6, k7, k8⟩ := hlive
  rw [hρ] at k1; cases k1
  rw [hr] at k3; cases k3
  rw [hgl.2] at k6 k7
  have hsz : cargs.size = r.params.size := by
    have e1 : as.length = cargs.size := by simpa using ha.length
    have e2 : r.params.size = ps.length := by rw [← k5]; simp
    omega
  refine ⟨hsz, roundIn_of_wpIn trivial ?_⟩
  have hsim0 : SimX P G I.bare ρ w ⟨setPs t0 ps as, h⟩ { tmps := (r.params.zip cargs).foldl (fun tmps (t, a) => tmps.setIfInBounds t a) r.tmps, defers := [] } w := by
    refine ⟨I, [], Imm.le.bare I, hI, by simpa using hs, ?_, ⟨[], rfl, trivial⟩, Keep.refl I.bare w, hgl⟩
    have : ((r.params.zip cargs).foldl (fun tmps (t, a) => tmps.setIfInBounds t a) r.tmps).toList = (ps.zip cargs.toList).foldl (fun us (p : Nat × Value) => us.set p.1 p.2) r.tmps.toList := by
      rw [← Array.foldl_toList, foldl_tmps, Array.toList_zip, k5]
    simp only [List.append_nil]
    rw [this]
    exact setPs_rep ha k4
  refine h1 (some l) I.bare ρ w _ rfl (fun a₁ w₁ hs1 => ?_) _ (KW.c k6 (fun h => by cases h) KW.nil) _ w hsim0
  -- the record is busy
  obtain ⟨I1, ρ1, q1, q2, q3, q4, q5, q6, q7⟩ := hs1
  have hl1 := q3.live id
  rw [hg1] at hl1
  obtain ⟨b, r1, m1, m2, m3, m4, m5, m6, m7, m8⟩ := hl1
  rw [getElem?_app hρ] at m1; cases m1
  obtain ⟨m9, m10⟩ := m8
  refine ⟨_, run_beginRound m3 m9, ?_⟩
  obtain ⟨hk1, hw1⟩ := lp_put (r' := { r1 with state := .busy }) (st' := 1) (pd' := pd1) q3 hg1 (getElem?_app hρ) m3 rfl rfl rfl rfl ⟨rfl, m10⟩
  have hsim1 : SimX P G I.bare ρ w ⟨s1.t, setH s1.h id (.lp t1 ps1 a1 b1 1 pd1)⟩ a₁ (w₁.putObj l (.loop { r1 with state := .busy })) :=
    ⟨I1, ρ1, q1, fun b hb => by simpa using q2 b hb, hw1, q4.map fun _ _ x => x.keep hk1, q5.keep hk1 (Imm.le.refl I1), q6.trans (hk1.mono q1.k), q7.keep hk1 (Imm.le.refl I1)⟩
  refine h2 (some l) I.bare ρ w _ rfl (fun a₂ w₂ hs2 => ?_) _ (KW.c k7 (fun h => by cases h) KW.nil) _ _ hsim1
  obtain ⟨I2, ρ2, p1, p2, p3, p4, p5, p6, p7⟩ := hs2
  have hl2 := p3.live id
  rw [hg2] at hl2
  obtain ⟨b, r2, n1, n2, n3, n4, n5, n6, n7, n8⟩ := hl2
  rw [getElem?_app hρ] at n1; cases n1
  have fin : ∀ (jump : Option Code), jump = how.map (fun | none => Code.ret | some id => Code.exit id) → ∃ v w', (Instr.endRound l jump).run P w₂ = .ok v w' ∧
      ∃ v' cv h' I' ρ1, Ending.returned v = .returned cv ∧ (v' = .lit (.bool how.isNone) ∧ h' = setH s2.h id (.lp t2 ps2 a2 b2 (if how.isNone then 0 else 2) how)) ∧ Imm.le I I' ∧ (∀ b, I' b → b < w'.heap.size) ∧ HSim I' w' (ρ ++ ρ1) h' ∧ Rep w' I' (ρ ++ ρ1) v' cv ∧ Keep I w w' := by
    intro jump hj
    have hjn : jump.isNone = how.isNone := by rw [hj]; cases how <;> rfl
    obtain ⟨hk2, hw2⟩ := lp_put (r' := { r2 with state := if jump.isNone then .ready else .done, pending := jump }) (st' := if how.isNone then 0 else 2) (pd' := how) p3 hg2 (getElem?_app hρ) n3 rfl rfl rfl rfl ⟨by
      rw [hjn]; cases how <;> rfl, hj⟩
    exact ⟨_, _, run_endRound jump n3, .lit (.bool how.isNone), .bool how.isNone, _, I2, ρ2, by rw [hjn], ⟨rfl, rfl⟩, p1.unbare, fun b hb => by simpa using p2 b hb, hw2, .lit _ _, p6.unbare.trans (hk2.mono p1.k)⟩
  cases how with
  | none => exact fin none rfl
  | some o => cases o with
    | none => exact fin (some .ret) rfl
    | some e => exact fin (some (.exit e)) rfl
/-- **A loop over a function**, outside every round. -/
theorem rf_sound {I0 : Imm} {ρ0 : Ren} {w0 : World} {x : Operand} {ps : Array Tmp} {a c : Code} {ea ec : EC} {gf : FuncId} {av bv t : List EV} {h : EH} {act : Act} {w : World} {Φ : Exit → Act → World → Prop} {R : EV → EH → Prop}
    (hs : SimX P G I0 ρ0 w0 ⟨t, h⟩ act w) (ha : compC P a = some ea) (hc : compC P c = some ec) (hx : evalO G t x = .fn (.func gf) av bv) (hgood : goodF P gf = true)
    (htri : Tri P G gf (av ++ (.yl (sizeH h) :: bv)) (pushH h (.lp t ps.toList ea ec 0 none)) R)
    (hR : ∀ v h', R v h' → ∃ t' ps' ea' ec' st pd, getH h' (sizeH h) = .lp t' ps' ea' ec' st pd ∧ st ≠ 1 ∧ ∀ act' w', SimX P G I0 ρ0 w0 ⟨t, setH h' (sizeH h) .dead⟩ act' w' → QX pd Φ act' w') :
    (Code.rangeFunc x ps a c).wpIn (FR none) 0 P Φ act w := by
  obtain ⟨I, ρ1, h1, h2, h3, h4, h5, h6, h7⟩ := hs
  have hev := evalO_rep h7.1 h4 x
  rw [hx] at hev
  obtain ⟨xs, ys, hval, hxl, hyl, hxr, hyr⟩ : ∃ xs ys : Array Value, act.eval x = .func (.func gf) xs ys ∧ av.length = xs.size ∧ bv.length = ys.size ∧
      (∀ (j : Nat) (e : EV) (v : Value), av[j]? = some e → xs[j]? = some v → Rep w I (ρ0 ++ ρ1) e v) ∧ (∀ (j : Nat) (e : EV) (v : Value), bv[j]? = some e → ys[j]? = some v → Rep w I (ρ0 ++ ρ1) e v) := by
    generalize act.eval x = cv at hev
    cases hev with
    | fn _ _ _ _ xs ys q1 q2 q3 q4 => exact ⟨xs, ys, rfl, q1, q2, q3, q4⟩
  refine wpIn_rangeFunc fun fn _ => ?_
  obtain ⟨rec, hrec⟩ : ∃ rec : Loop, rec = { state := .ready, pending := none, fn := fn, tmps := act.tmps, params := ps, assign := a, body := c, defers := w.heap.size } := ⟨_, rfl⟩
  obtain ⟨wD, hwD⟩ : ∃ wD, wD = w.alloc (.deferred (some [])) := ⟨_, rfl⟩
  obtain ⟨W1, hW1⟩ : ∃ W1, W1 = wD.alloc (.loop rec) := ⟨_, rfl⟩
  have hszD : wD.heap.size = w.heap.size + 1 := by rw [hwD]; simp
  let I1 : Imm := ⟨fun b => I.k b ∨ b = w.heap.size, I.j, fun b hb => .inl (I.sub b hb), I.P, I.D, I.T⟩
  have hle1 : Imm.le I I1 := ⟨fun b hb => .inl hb, fun b hb => hb, fun b hb => .inl hb, rfl⟩
  have hb1 : ∀ b, I1 b → b < wD.heap.size := fun b hb => by
    rcases hb with hb | hb
    · have := h2 b hb; omega
    · omega
  have hkD : Keep I w wD := by rw [hwD]; exact Keep.alloc w _ h2
  have hk1D : Keep I1 wD W1 := by rw [hW1]; exact Keep.alloc wD _ hb1
  have hkW : Keep I w W1 := hkD.trans (hk1D.mono hle1.k)
  have hsD : HSim I1 wD (ρ0 ++ ρ1) h := by
    refine HSim.reI (I := I) (J := I1) (h3.keep hkD fun k b o hd hr => ?_) (fun _ hb => hb) (fun k b o hd hr hj => ?_) rfl
    · obtain ⟨b', o2, k1, _, k3⟩ := OS.lt (h3.live k) hd
      rw [hr] at k1; cases k1
      rw [hwD]; exact heap_alloc_lt w _ k3
    · obtain ⟨b', o2, k1, k2, k3⟩ := OS.lt (h3.live k) hd
      rw [hr] at k1; cases k1
      rcases hj with hj | hj
      · exact k2 hj
      · omega
  have hsW : HSim I1 W1 ((ρ0 ++ ρ1) ++ [(wD.heap.size, 0)]) (pushH h (.lp t ps.toList ea ec 0 none)) := by
    rw [hW1]
    refine hsD.alloc hb1 _ _ ⟨wD.heap.size, rec, ren_last hsD _, fun hb => absurd (hb1 _ hb) (Nat.lt_irrefl _), heap_alloc_at wD _, ?_, by rw [hrec], by rw [hrec]; show compC I.P a = _; rw [h7.2]; exact ha, by rw [hrec]; show compC I.P c = _; rw [h7.2]; exact hc, by rw [hrec]; exact ⟨rfl, rfl⟩⟩
    have e1 : rec.tmps = act.tmps := by rw [hrec]
    rw [e1, ← hW1]
    exact h4.map fun _ _ q => ((q.keep hkW).imm (J := I1) hle1.j).ext _
  have up : ∀ e v, Rep w I (ρ0 ++ ρ1) e v → Rep W1 I1 ((ρ0 ++ ρ1) ++ [(wD.heap.size, 0)]) e v := fun e v q => ((q.keep hkW).imm (J := I1) hle1.j).ext _
  obtain ⟨y, hy⟩ : ∃ y : Value, y = .func (.yield wD.heap.size) #[] #[] := ⟨_, rfl⟩
  have hargs : RepL W1 I1 ((ρ0 ++ ρ1) ++ [(wD.heap.size, 0)]) (av ++ (.yl (sizeH h) :: bv)) (xs ++ #[y] ++ ys).toList := by
    have q1 : RepL W1 I1 ((ρ0 ++ ρ1) ++ [(wD.heap.size, 0)]) av xs.toList := RepL.mk (by simpa using hxl) fun j e v he hv => up e v (hxr j e v he (by simpa using hv))
    have q2 : RepL W1 I1 ((ρ0 ++ ρ1) ++ [(wD.heap.size, 0)]) bv ys.toList := RepL.mk (by simpa using hyl) fun j e v he hv => up e v (hyr j e v he (by simpa using hv))
    have q3 : RepL W1 I1 ((ρ0 ++ ρ1) ++ [(wD.heap.size, 0)]) [.yl (sizeH h)] [y] := ⟨by rw [hy]; exact .yl _ _ _ (ren_last hsD _), trivial⟩
    have := q1.app (q3.app q2)
    simpa using this
  have hbW : ∀ b, I1 b → b < W1.heap.size := fun b hb => Nat.lt_of_lt_of_le (hb1 b hb) hk1D.size
  refine ⟨wD.heap.size, [{ target := .collected w.heap.size, args := #[] }], W1, { target := .fn (.func gf) ys, args := xs ++ #[y] }, W1, gf, xs ++ #[y] ++ ys, W1, ?_, ?_, fun _ _ => trivial, ?_, fun hh => by simp [FR, Fence.wide] at hh, ?_⟩
  · have := run_enterLoop_outer (P := P) (w := w) fn act.tmps ps a c
    rw [hW1, hrec, hszD, hwD]
    exact this
  · show (Deferred.ofValue (act.eval x) (#[Operand.const (.func (.yield wD.heap.size) #[] #[])].map act.eval)).run P W1 = _
    rw [hval]
    simp [Deferred.ofValue, hy, Act.eval]
  · simp [invoke, goodF_call hgood]
  · refine calls_FR ((htri I1 _ W1 _ hbW hsW hargs (h7.keep hkW hle1)).mono fun e w' hh => ?_)
    obtain ⟨v, cv, h', I', ρ2, e1, hRv, q1, q2, q3, q4, q5⟩ := hh
    subst e1
    obtain ⟨t', ps', ea', ec', st, pd, hg, hst, hfin⟩ := hR v h' hRv
    have hlive := q3.live (sizeH h)
    rw [hg] at hlive
    obtain ⟨b, r', m1, m2, m3, m4, m5, m6, m7, m8, m9⟩ := hlive
    have hρid : (((ρ0 ++ ρ1) ++ [(wD.heap.size, 0)]) ++ ρ2)[sizeH h]? = some (wD.heap.size, 0) := getElem?_app (ren_last hsD _)
    rw [hρid] at m1; cases m1
    have hnb : r'.state ≠ .busy := by
      rw [m8]
      rcases st with _ | _ | st
      · simp
      · exact absurd rfl hst
      · simp
    have hne : ∀ b', b' ≠ wD.heap.size → (w'.putObj wD.heap.size (.loop { r' with state := .exhausted })).heap[b']? = w'.heap[b']? := fun b' hb => World.putObj_heap_other hb
    have hk4 : Keep I' w' (w'.putObj wD.heap.size (.loop { r' with state := .exhausted })) := ⟨rfl, rfl, rfl, by simp, fun b' hb => hne b' fun e => m2 (e ▸ hb), fun b' cs e fz hb => ⟨cs, fz, (hne b' fun e' => by rw [e', m3] at hb; cases hb).trans hb, rfl⟩⟩
    have hIk : ∀ b, I.k b → I'.k b := fun b hb => q1.k b (.inl hb)
    have hkAll : Keep I w (w'.putObj wD.heap.size (.loop { r' with state := .exhausted })) := (hkW.trans (q5.mono hle1.k)).trans (hk4.mono hIk)
    have hsF : HSim I' (w'.putObj wD.heap.size (.loop { r' with state := .exhausted })) (((ρ0 ++ ρ1) ++ [(wD.heap.size, 0)]) ++ ρ2) (setH h' (sizeH h) .dead) := by
      refine (q3.kill (sizeH h)).keep hk4 fun k b o hd hr => hne b fun e => ?_
      subst e
      have hkn : k ≠ sizeH h := fun e => by
        subst e
        rw [getH_set_same _ _ _ (getH_lt (by rw [hg]; simp))] at hd
        exact hd rfl
      rw [getH_set_ne _ _ _ _ hkn] at hd
      exact hkn (q3.inj k (sizeH h) _ _ _ hd (by rw [hg]; simp) hr hρid)
    refine ⟨r'.pending, _, run_endLoop m3 hnb, ?_⟩
    have hsim : SimX P G I0 ρ0 w0 ⟨t, setH h' (sizeH h) .dead⟩ { act with defers := [{ target := .collected w.heap.size, args := #[] }] ++ act.defers } (w'.putObj wD.heap.size (.loop { r' with state := .exhausted })) := by
      refine ⟨I', ρ1 ++ ([(wD.heap.size, 0)] ++ ρ2), h1.trans (hle1.trans q1), fun b hb => by simpa using q2 b hb, ?_, ?_, ?_, h6.trans (hkAll.mono h1.k), h7.keep hkAll (hle1.trans q1)⟩
      · rw [← List.append_assoc, ← List.append_assoc]; exact hsF
      · rw [← List.append_assoc, ← List.append_assoc]
        exact h4.map fun e v q => (((up e v q).keep q5).imm q1.j |>.keep hk4).ext ρ2
      · obtain ⟨ms, hms, hm5⟩ := h5
        refine ⟨{ target := .collected w.heap.size, args := #[] } :: ms, by rw [hms]; rfl, ⟨w.heap.size, rfl, q1.k _ (.inr rfl), fun hj => ?_, fun hj => ?_, ?_, fun d hd e => ?_⟩, hm5.keep hkAll (hle1.trans q1)⟩
        · rcases q1.new _ hj with hj | hj
          · exact absurd (h2 _ (I.sub _ hj)) (Nat.lt_irrefl _)
          · exact hj (.inr rfl)
        · exact absurd (h2 _ (h1.k _ hj)) (Nat.lt_irrefl _)
        · rw [hne _ (by omega), q5.same _ (.inr rfl), hk1D.same _ (.inr rfl), hwD]
          exact heap_alloc_at w _
        · obtain ⟨b', k1, k2, _⟩ := hm5.mem d hd
          rw [k1] at e; cases e
          exact absurd (h2 _ k2) (Nat.lt_irrefl _)
    have := hfin _ _ hsim
    rw [m9] at this ⊢
    cases pd with
    | none => exact this
    | some o => cases o with
      | none => exact wpIn_ret this
      | some e => exact wpIn_exit this
end
end Go.Proofs.YtpgeonghlabnhaaGreatDoor.Em
