/- Em54: closed runs that give up. No conditions beyond those written. -/
import Derived.Test.YtpgeonghlabnhaaGreatDoorEm32
import Derived.Test.YtpgeonghlabnhaaGreatDoorEm51
set_option linter.unusedVariables false
set_option linter.unusedSimpArgs false
namespace Go.Proofs.YtpgeonghlabnhaaGreatDoor.Em
open Go
section
variable (A : Ar) (G : List (List EV)) (F : Tab) (pf : List Nat) (m : Nat)
/-- A run of closed code until it gives up: with what, and where. pf: the functions that give up on the way. -/
noncomputable def exPStep (ih : List KI → List EV → EH → Option (EV × St)) (k : List KI) (t : List EV) (h : EH) : Option (EV × St) :=
  match k with
  | .c ec :: k => match ec with
    | .skip => ih k t h
    | .ops l => ih (.ops l :: k) t h
    | .seq a b => ih (.c a :: .c b :: k) t h
    | .cond x a b => match evalO G t x with
      | .lit (.bool true) => ih (.c a :: k) t h
      | .lit (.bool false) => ih (.c b :: k) t h
      | .sb v => match v with
        | true => ih (.c a :: k) (litB t x true) h
        | false => ih (.c b :: k) (litB t x false) h
      | _ => none
    | .block id c => ih (.c c :: .blk id :: k) t h
    | .exit id => match unwindK id k with
      | some k' => ih k' t h
      | none => none
    | _ => none
  | .ops [] :: k => ih k t h
  | .ops (o :: l) :: k =>
    let go (t : List EV) : Option (EV × St) := exSR A (fun v h => ih (.ops l :: k) (putT t o.dst v) h) (fun f args =>
      match Nat.beq f roundF with
      | true => match args with
        | [.top, v] => some (v, ⟨t, h⟩)
        | _ => none
      | false => match memI f pf with
        | true => match F.f f with
          | some fc => match ih [.c fc.body] (padT args fc.ntmps) h with
            | some (v, s) => some (v, ⟨t, s.h⟩)
            | none => none
          | none => none
        | false => match F.o f with
          | some tb => match orcF tb (getH h) args with
            | some v => ih (.ops l :: k) (putT t o.dst v) h
            | none => none
          | none => match exFn G F (exec A G F m) h f args with
            | some (v, h) => ih (.ops l :: k) (putT t o.dst v) h
            | none => none) (stepI A G t h o.i)
    match o.guard with
    | none => go t
    | some (g, want) => match getT t g with
      | .lit (.bool b) => match (b == want) with
        | true => go t
        | false => ih (.ops l :: k) (putT t o.dst undefE) h
      | .lit (.tuple _) => ih (.ops l :: k) (putT t o.dst undefE) h
      | .sb b => match (b == want) with
        | true => go (setT t g (.lit (.bool b)))
        | false => ih (.ops l :: k) (putT (setT t g (.lit (.bool b))) o.dst undefE) h
      | _ => none
  | .blk _ :: k => ih k t h
  | _ => none
noncomputable def exP (n : Nat) : List KI → List EV → EH → Option (EV × St) := Nat.rec (fun _ _ _ => none) (fun _ ih => exPStep A G F pf m ih) n
/-- A call that gives up and whose deferred function takes it up. -/
noncomputable def exDP (n g : Nat) (df : DF) (rf : RF) (h : EH) (args : List EV) : Option (EV × EH) :=
  match exec A G F m false (mapC df.pre) (padT args df.ntmps) h with
  | some (s0, none) => match exec A G F m false [.ops df.ops] s0.t s0.h with
    | some (s1, none) => match evalO G s1.t df.tgt with
      | .fn (.func g') av bv => match Nat.beq g' g with
        | true => match rf.dst with
          | some d => match exP A G F pf m n (mapC df.rest) s1.t s1.h with
            | some (pv, s2) => match exec A G F m false (.ops rf.ops :: mapC rf.rest) (putT (padT (av ++ (evalL G s1.t df.args ++ bv)) rf.ntmps) d pv) s2.h with
              | some (_, some (some _)) => none
              | some (s3, _) => match retE rf.rs s3.t s3.h with
                | some _ => match retE df.rs s2.t s3.h with
                  | some v => some (v, s3.h)
                  | none => none
                | none => none
              | none => none
            | none => none
          | none => none
        | false => none
      | _ => none
    | _ => none
  | _ => none
end
section
variable {P : Program} {G : List (List EV)}
theorem exP_sound (hd : DrawSound P G) {F : Tab} (hF : F.OK P G) {pf : List Nat} {m : Nat} : ∀ (n : Nat) (k : List KI) (t : List EV) (h : EH) (v : EV) (s : St), goodK k → exP stdA G F pf m n k t h = some (v, s) →
    ∀ (I0 : Imm) (ρ0 : Ren) (w0 : World) (Q : Exit → Act → World → Prop), PanK P G I0 ρ0 w0 Q v s → OKK P G none I0 ρ0 w0 Q k ⟨t, h⟩ := by
  intro n
  induction n with
  | zero => intro k t h v s _ he; cases he
  | succ n ih =>
    intro k t h v s hk he I0 ρ0 w0 Q hp
    have he : exPStep stdA G F pf m (exP stdA G F pf m n) k t h = some (v, s) := he
    have r1 : OK P G none I0 ρ0 w0 Q (fun _ => False) (run stdA G 1 k ⟨t, h⟩) → OKK P G none I0 ρ0 w0 Q k ⟨t, h⟩ := run_sound hd (fun st hf => hf.elim) 1 k ⟨t, h⟩ hk
    cases k with
    | nil => cases he
    | cons x k =>
      cases x with
      | c ec =>
        have hnk : noOps k := hk
        cases ec with
        | skip => refine r1 ?_; simp only [run, OK]; exact ih k t h v s hnk.good he I0 ρ0 w0 Q hp
        | ops l => refine r1 ?_; simp only [run, OK]; exact ih (.ops l :: k) t h v s hnk he I0 ρ0 w0 Q hp
        | seq a b => refine r1 ?_; simp only [run, OK]; exact ih (.c a :: .c b :: k) t h v s hnk he I0 ρ0 w0 Q hp
        | cond x a b =>
          refine r1 ?_
          simp only [exPStep] at he
          simp only [run]
          split at he
          · rename_i hx; simp only [hx, OK]; exact ih (.c a :: k) t h v s hnk he I0 ρ0 w0 Q hp
          · rename_i hx; simp only [hx, OK]; exact ih (.c b :: k) t h v s hnk he I0 ρ0 w0 Q hp
          · rename_i b' hx
            simp only [hx, OK]
            cases b' with
            | true => exact ⟨fun _ => ih (.c a :: k) _ h v s hnk he I0 ρ0 w0 Q hp, fun hf => by cases hf⟩
            | false => exact ⟨fun hf => (by cases hf), fun _ => ih (.c b :: k) _ h v s hnk he I0 ρ0 w0 Q hp⟩
          · cases he
        | block id c => refine r1 ?_; simp only [run, OK]; exact ih (.c c :: .blk id :: k) t h v s hnk he I0 ρ0 w0 Q hp
        | exit id =>
          simp only [exPStep] at he
          split at he
          · rename_i k' hu
            refine r1 ?_
            simp only [run, hu, OK]
            exact ih k' t h v s (unwind_good hnk hu).good he I0 ρ0 w0 Q hp
          · cases he
        | _ => cases he
      | ops l =>
        have hnk : noOps k := hk
        cases l with
        | nil => refine r1 ?_; simp only [run, OK]; exact ih k t h v s hnk.good he I0 ρ0 w0 Q hp
        | cons o l =>
          show SeqOK P G (PanK P G I0 ρ0 w0 Q) (o :: l) ⟨t, h⟩ fun st' => OKs P G none I0 ρ0 w0 Q k st'
          simp only [exPStep] at he
          have nx : ∀ t h, exP stdA G F pf m n (.ops l :: k) t h = some (v, s) → SeqOK P G (PanK P G I0 ρ0 w0 Q) l ⟨t, h⟩ fun st' => OKs P G none I0 ρ0 w0 Q k st' := fun t h hh => ih (.ops l :: k) t h v s hnk hh I0 ρ0 w0 Q hp
          have go : ∀ t, exSR stdA (fun v h => exP stdA G F pf m n (.ops l :: k) (putT t o.dst v) h) (fun f args =>
              match Nat.beq f roundF with
              | true => match args with
                | [.top, v] => some (v, ⟨t, h⟩)
                | _ => none
              | false => match memI f pf with
                | true => match F.f f with
                  | some fc => match exP stdA G F pf m n [.c fc.body] (padT args fc.ntmps) h with
                    | some (v, s) => some (v, ⟨t, s.h⟩)
                    | none => none
                  | none => none
                | false => match F.o f with
                  | some tb => match orcF tb (getH h) args with
                    | some v => exP stdA G F pf m n (.ops l :: k) (putT t o.dst v) h
                    | none => none
                  | none => match exFn G F (exec stdA G F m) h f args with
                    | some (v, h) => exP stdA G F pf m n (.ops l :: k) (putT t o.dst v) h
                    | none => none) (stepI stdA G t h o.i) = some (v, s) →
              SROK (fun v h' => SeqOK P G (PanK P G I0 ρ0 w0 Q) l ⟨putT t o.dst v, h'⟩ fun st' => OKs P G none I0 ρ0 w0 Q k st')
                (fun f args => CallOK P G (fun v h' => PanK P G I0 ρ0 w0 Q v ⟨t, h'⟩) f args h fun v h' => SeqOK P G (PanK P G I0 ρ0 w0 Q) l ⟨putT t o.dst v, h'⟩ fun st' => OKs P G none I0 ρ0 w0 Q k st') (stepI stdA G t h o.i) := by
            intro t hh
            refine exSR_sound (fun v h' hv => nx _ _ hv) (fun f args hf => ?_) hh
            split at hf
            · rename_i hfr
              have hfr := Nat.eq_of_beq_eq_true hfr
              subst hfr
              split at hf
              · cases hf; exact .inr (.inr ⟨_, rfl, rfl, hp⟩)
              · cases hf
            · split at hf
              · split at hf
                · rename_i fc hfc
                  split at hf
                  · rename_i v1 s1 hx
                    rw [Option.some.injEq, Prod.mk.injEq] at hf
                    obtain ⟨e1, e2⟩ := hf
                    subst e1; subst e2
                    have hc := hF.f f fc hfc
                    refine .inl ⟨goodF_of hc, TriX.mono (S := fun v' h' => v' = v1 ∧ h' = s1.h) (TriX_of hc fun I1 ρ1 w1 Q1 hρ hQ hE => ?_) (fun _ _ x => x) fun v' h' hv => by obtain ⟨rfl, rfl⟩ := hv; exact hp⟩
                    exact ih [.c fc.body] _ h v1 s1 trivial hx I1 ρ1 w1 Q1 (hE v1 s1 ⟨rfl, rfl⟩)
                  · cases hf
                · cases hf
              · split at hf
                · rename_i tb htb
                  split at hf
                  · rename_i v1 hv1
                    obtain ⟨hgood, htri⟩ := orcF_sound hF htb hv1
                    exact .inl ⟨hgood, (htri.mono fun v' h' hv => by obtain ⟨rfl, rfl⟩ := hv; exact nx _ _ hf).x⟩
                  · cases hf
                · split at hf
                  · rename_i v1 h1 hexe
                    obtain ⟨hgood, htri⟩ := exFn_sound hF (fun rd k t h s' how hk he => exec_sound hd hF m rd k t h s' how hk he) hexe
                    exact .inl ⟨hgood, (htri.mono fun v' h' hv => by obtain ⟨rfl, rfl⟩ := hv; exact nx _ _ hf).x⟩
                  · cases hf
          simp only [SeqOK]
          split at he
          · rename_i hg
            simp only [hg]
            exact go t he
          · rename_i g want hg
            simp only [hg]
            split at he
            · rename_i b hb
              simp only [hb]
              split at he
              · rename_i hbw; rw [if_pos hbw]; exact go t he
              · rename_i hbw
                rw [if_neg (by simp [hbw])]
                exact nx _ _ he
            · rename_i vs hb
              simp only [hb]
              exact nx _ _ he
            · rename_i b hb
              simp only [hb]
              have use : (if b == want then SROK (fun v h' => SeqOK P G (PanK P G I0 ρ0 w0 Q) l ⟨putT (setT t g (.lit (.bool b))) o.dst v, h'⟩ fun st' => OKs P G none I0 ρ0 w0 Q k st')
                  (fun f args => CallOK P G (fun v h' => PanK P G I0 ρ0 w0 Q v ⟨setT t g (.lit (.bool b)), h'⟩) f args h fun v h' => SeqOK P G (PanK P G I0 ρ0 w0 Q) l ⟨putT (setT t g (.lit (.bool b))) o.dst v, h'⟩ fun st' => OKs P G none I0 ρ0 w0 Q k st') (stepI stdA G (setT t g (.lit (.bool b))) h o.i)
                else SeqOK P G (PanK P G I0 ρ0 w0 Q) l ⟨putT (setT t g (.lit (.bool b))) o.dst undefE, h⟩ fun st' => OKs P G none I0 ρ0 w0 Q k st') := by
                split at he
                · rename_i hbw; rw [if_pos hbw]; exact go _ he
                · rename_i hbw
                  rw [if_neg (by simp [hbw])]
                  exact nx _ _ he
              exact ⟨fun hbt => by subst hbt; exact use, fun hbf => by subst hbf; exact use⟩
            · cases he
      | blk id =>
        have hnk : noOps k := hk
        refine r1 ?_
        simp only [run, OK]
        exact ih k t h v s hnk.good he I0 ρ0 w0 Q hp
      | mark R => cases he
      | lp c => cases he
theorem exDP_sound (hd : DrawSound P G) {F : Tab} (hF : F.OK P G) {pf : List Nat} {m n g f : Nat} {df : DF} {rf : RF} {h h' : EH} {args : List EV} {v : EV} (hc : compDF P f = some df) (hnd : ndD P f = true) (hr : compRF P g = some rf)
    (he : exDP stdA G F pf m n g df rf h args = some (v, h')) : Tri P G f args h fun v1 h1 => v1 = v ∧ h1 = h' := by
  unfold exDP at he
  generalize hx0 : exec stdA G F m false (mapC df.pre) (padT args df.ntmps) h = r0 at he
  split at he
  rotate_left
  · cases he
  rename_i s0
  generalize hx1 : exec stdA G F m false [.ops df.ops] s0.t s0.h = r1 at he
  split at he
  rotate_left
  · cases he
  rename_i s1
  split at he
  rotate_left
  · cases he
  rename_i g' av bv hev
  split at he
  rotate_left
  · cases he
  rename_i hg
  have hg := Nat.eq_of_beq_eq_true hg
  subst hg
  split at he
  rotate_left
  · cases he
  rename_i d hdst
  split at he
  rotate_left
  · cases he
  rename_i pv s2 hx2
  generalize hx3 : exec stdA G F m false (.ops rf.ops :: mapC rf.rest) _ s2.h = r3 at he
  split at he
  · cases he
  rotate_left
  · cases he
  rename_i _ s3 how3 hno3
  split at he
  rotate_left
  · cases he
  rename_i v3 hv3
  split at he
  rotate_left
  · cases he
  rename_i v4 hv4
  cases he
  rw [mapC_eq] at hx0 hx2 hx3
  have ih := fun rd k t h s' how hk he => exec_sound (P := P) hd hF m rd k t h s' how hk he
  refine Tri_ofDP (F1 := fun s => s = s0) (F2 := fun s => s = s1) hc hnd (fun I1 ρ1 w1 Q1 hρ1 hQ1 => ?_) (fun s hs I1 ρ1 w1 Q1 hQ1 => ?_) (fun s hs => ⟨g', av, bv, by rw [hs]; exact hev, goodF_ofR hr, fun I1 ρ1 w1 Q1 hρ1 hQ1 hP1 => ?_⟩)
  · have := ih false (df.pre.map .c) _ h s0 none (noOps_mapC _).good hx0 none I1 ρ1 w1 Q1 (fun _ => rfl) fun a' w' hs' => hQ1 s0 rfl a' w' hs'
    rwa [(noOps_mapC _).okk] at this
  · subst hs
    exact ih false [.ops df.ops] _ _ s1 none trivial hx1 none I1 ρ1 w1 Q1 (fun _ => rfl) fun a' w' hs' => hQ1 s1 rfl a' w' hs'
  · subst hs
    have := exP_sound hd hF n (df.rest.map .c) s.t s.h pv s2 (noOps_mapC _).good hx2 I1 ρ1 w1 Q1 (hP1 pv s2 ?_)
    · rwa [(noOps_mapC _).okk] at this
    · refine TriDP_of hr hdst fun I2 ρ2 w2 Q2 hρ2 hQ2 => ?_
      exact ih false (.ops rf.ops :: rf.rest.map .c) _ _ s3 how3 (noOps_mapC _) hx3 none I2 ρ2 w2 Q2 (fun _ => rfl) fun a' w' hs' => QX_of (fun e he => hno3 e (by rw [he])) (hQ2 s3 ⟨⟨v3, hv3⟩, v, hv4, rfl, rfl⟩ a' w' hs')
/-- Its value names no memory. -/
theorem Tri.closedDP (hd : DrawSound P G) {F : Tab} (hF : F.OK P G) {pf : List Nat} {m n g f : Nat} {df : DF} {rf : RF} {args : List EV} {v : EV} (hc : compDF P f = some df) (hnd : ndD P f = true) (hr : compRF P g = some rf)
    (he : (match exDP stdA G F pf m n g df rf [] args with | some (v, _) => some v | none => none) = some v) (hv : clE v = true) : Tri P G f args [] fun v1 h1 => v1 = v ∧ h1 = [] := by
  split at he
  · rename_i v1 h1 hx
    cases he
    refine Tri.mv (R := fun v' h' => v' = v ∧ h' = h1) (exDP_sound hd hF hc hnd hr hx) fun v' h' hv' => ⟨[], [], rfl, ⟨by simp, by simp, by simp⟩, ?_, rfl⟩
    rw [hv'.1]; exact mvE_cl _ _ _ hv
  · cases he
end
end Go.Proofs.YtpgeonghlabnhaaGreatDoor.Em
