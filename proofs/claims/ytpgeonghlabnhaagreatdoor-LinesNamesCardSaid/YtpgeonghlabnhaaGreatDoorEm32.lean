/- Em32: closed runs anew: calls, control, the whole run; sound against Em22's run. No conditions beyond those written. -/
import Derived.Test.YtpgeonghlabnhaaGreatDoorEm31
set_option linter.unusedVariables false
set_option linter.unusedSimpArgs false
namespace Go.Proofs.YtpgeonghlabnhaaGreatDoor.Em
open Go
structure XR where
  t : List EV
  n : Nat
  l : EH
  how : PD
abbrev XI := Bool → List KI → List EV → Nat → EH → Option XR
section
variable (G : List (List EV)) (F : Tab)
/-- What a function gives, handed on. -/
noncomputable def fnX (ih : XI) (n : Nat) (l : EH) (f : FuncId) (args : List EV) (k : EV → Nat → EH → Option XR) : Option XR :=
  match F.f f with
  | some fc => fS args fun args => fS (padT args fc.ntmps) fun t => match ih false [.c fc.body] t n l with
    | some ⟨t1, n1, l1, how⟩ => match how with
      | some (some _) => none
      | _ => match retE fc.rs t1 l1.reverse with
        | some v => gE v fun v => k v n1 l1
        | none => none
    | none => none
  | none => match F.d f with
    | none => none
    | some df => fS args fun args => fS (padT args df.ntmps) fun t => match ih false (mapC df.pre) t n l with
      | some ⟨t0, n0, l0, none⟩ => match ih false [.ops df.ops] t0 n0 l0 with
        | some ⟨t1, n1, l1, none⟩ => match evalO G t1 df.tgt with
          | .fn (.func g) av bv => match F.r g with
            | some rf => fS (appL av (appL (evalL G t1 df.args) bv)) fun dargs => match ih false (mapC df.rest) t1 n1 l1 with
              | some ⟨t2, n2, l2, how2⟩ => match how2 with
                | some (some _) => none
                | _ => fS (match rf.dst with | some d => putT (padT dargs rf.ntmps) d (.lit .nilIface) | none => padT dargs rf.ntmps) fun t3 => match ih false (.ops rf.ops :: mapC rf.rest) t3 n2 l2 with
                  | some ⟨t4, n4, l4, how4⟩ => match how4 with
                    | some (some _) => none
                    | _ => match retE rf.rs t4 l4.reverse with
                      | some _ => match retE df.rs t2 l4.reverse with
                        | some v => gE v fun v => k v n4 l4
                        | none => none
                      | none => none
                  | none => none
              | none => none
            | none => none
          | _ => none
        | _ => none
      | _ => none
/-- A call of a closed run, or a round. -/
noncomputable def callX (ih : XI) (n : Nat) (l : EH) (f : FuncId) (args : List EV) (k : EV → Nat → EH → Option XR) : Option XR :=
  match Nat.beq f roundF with
  | true => match args with
    | .yl id :: as => match gX n l id with
      | .lp t0 ps asg body 0 _ => match Nat.beq as.length ps.length with
        | true => fS (setPs t0 ps as) fun t => match ih true [.c asg] t n l with
          | some ⟨t1, n1, l1, none⟩ => match gX n1 l1 id with
            | .lp t1' ps1 a1 b1 0 pd1 => appX (.set id (.lp t1' ps1 a1 b1 1 pd1)) n1 l1 fun n1 l1 => match ih true [.c body] t1 n1 l1 with
              | some ⟨t2, n2, l2, how⟩ => match gX n2 l2 id with
                | .lp t2' ps2 a2 b2 _ _ => match how with
                  | none => appX (.set id (.lp t2' ps2 a2 b2 0 none)) n2 l2 fun n2 l2 => k (.lit (.bool true)) n2 l2
                  | some x => appX (.set id (.lp t2' ps2 a2 b2 2 (some x))) n2 l2 fun n2 l2 => k (.lit (.bool false)) n2 l2
                | _ => none
              | none => none
            | _ => none
          | _ => none
        | false => none
      | _ => none
    | _ => none
  | false => match F.o f with
    | some tb => match orcF tb (gX n l) args with
      | some v => gE v fun v => k v n l
      | none => none
    | none => fnX G F ih n l f args k
end
section
variable {G : List (List EV)} {F : Tab}
/-- the one run goes over to the other -/
def IHX (ihX : XI) (ih : Bool → List KI → List EV → EH → Option (St × PD)) : Prop :=
  ∀ rd k t n l r, n = l.length → ihX rd k t n l = some r → ih rd k t l.reverse = some (⟨r.t, r.l.reverse⟩, r.how) ∧ r.n = r.l.length
theorem fnX_imp {ihX : XI} {ih : Bool → List KI → List EV → EH → Option (St × PD)} (hi : IHX ihX ih) {n : Nat} {l : EH} (hn : n = l.length) {f : FuncId} {args : List EV} {k : EV → Nat → EH → Option XR} {r : XR}
    (he : fnX G F ihX n l f args k = some r) : ∃ v n' l', exFn G F ih l.reverse f args = some (v, l'.reverse) ∧ n' = l'.length ∧ k v n' l' = some r := by
  have fin : ∀ {rs : List ER} {t : List EV} {n1 : Nat} {l1 : EH}, (match retE rs t l1.reverse with | some v => gE v fun v => k v n1 l1 | none => none) = some r →
      ∃ v, retE rs t l1.reverse = some v ∧ k v n1 l1 = some r := by
    intro rs t n1 l1 h
    split at h
    · rename_i v hv
      rw [gE_eq] at h
      exact ⟨v, hv, h⟩
    · cases h
  unfold fnX at he
  unfold exFn
  cases hfc : F.f f with
  | some fc =>
    rw [hfc] at he
    simp only [fS_eq, fL_eq] at he ⊢
    cases h1 : ihX false [.c fc.body] (padT args fc.ntmps) n l with
    | none => rw [h1] at he; cases he
    | some s1 =>
      obtain ⟨t1, n1, l1, how⟩ := s1
      obtain ⟨q1, q2⟩ := hi _ _ _ _ _ _ hn h1
      rw [h1] at he
      rw [q1]
      rcases how with _ | _ | e
      · obtain ⟨v, hv, hk⟩ := fin he
        exact ⟨v, n1, l1, by simp only [hv], q2, hk⟩
      · obtain ⟨v, hv, hk⟩ := fin he
        exact ⟨v, n1, l1, by simp only [hv], q2, hk⟩
      · cases he
  | none =>
    rw [hfc] at he
    simp only at he ⊢
    cases hdf : F.d f with
    | none => rw [hdf] at he; cases he
    | some df =>
      rw [hdf] at he
      simp only [fS_eq, fL_eq] at he ⊢
      cases h0 : ihX false (mapC df.pre) (padT args df.ntmps) n l with
      | none => rw [h0] at he; cases he
      | some s0 =>
        obtain ⟨t0, n0, l0, how0⟩ := s0
        obtain ⟨q0, e0⟩ := hi _ _ _ _ _ _ hn h0
        rw [h0] at he
        cases how0 with
        | some x => cases he
        | none =>
          rw [q0]
          simp only at he ⊢
          cases h1 : ihX false [.ops df.ops] t0 n0 l0 with
          | none => rw [h1] at he; cases he
          | some s1 =>
            obtain ⟨t1, n1, l1, how1⟩ := s1
            obtain ⟨q1, e1⟩ := hi _ _ _ _ _ _ e0 h1
            rw [h1] at he
            cases how1 with
            | some x => cases he
            | none =>
              rw [q1]
              simp only at he ⊢
              split at he
              · rename_i g av bv hev
                rw [hev]
                simp only
                cases hrf : F.r g with
                | none => rw [hrf] at he; cases he
                | some rf =>
                  rw [hrf] at he
                  simp only at he ⊢
                  cases h2 : ihX false (mapC df.rest) t1 n1 l1 with
                  | none => rw [h2] at he; cases he
                  | some s2 =>
                    obtain ⟨t2, n2, l2, how2⟩ := s2
                    obtain ⟨q2, e2⟩ := hi _ _ _ _ _ _ e1 h2
                    rw [h2] at he
                    rw [q2]
                    have last : (match ihX false (.ops rf.ops :: mapC rf.rest) (match rf.dst with | some d => putT (padT (appL av (appL (evalL G t1 df.args) bv)) rf.ntmps) d (.lit .nilIface) | none => padT (appL av (appL (evalL G t1 df.args) bv)) rf.ntmps) n2 l2 with
                        | some ⟨t4, n4, l4, how4⟩ => match how4 with
                          | some (some _) => none
                          | _ => match retE rf.rs t4 l4.reverse with
                            | some _ => match retE df.rs t2 l4.reverse with
                              | some v => gE v fun v => k v n4 l4
                              | none => none
                            | none => none
                        | none => none) = some r → ∃ v n' l', (match ih false (.ops rf.ops :: mapC rf.rest) (match rf.dst with | some d => putT (padT (appL av (appL (evalL G t1 df.args) bv)) rf.ntmps) d (.lit .nilIface) | none => padT (appL av (appL (evalL G t1 df.args) bv)) rf.ntmps) l2.reverse with
                        | some (_, some (some _)) => none
                        | some (s3, _) => match retE rf.rs s3.t s3.h with
                          | some _ => match retE df.rs t2 s3.h with
                            | some v => some (v, s3.h)
                            | none => none
                          | none => none
                        | none => none) = some (v, l'.reverse) ∧ n' = l'.length ∧ k v n' l' = some r := by
                      intro he
                      cases h4 : ihX false (.ops rf.ops :: mapC rf.rest) (match rf.dst with | some d => putT (padT (appL av (appL (evalL G t1 df.args) bv)) rf.ntmps) d (.lit .nilIface) | none => padT (appL av (appL (evalL G t1 df.args) bv)) rf.ntmps) n2 l2 with
                      | none => rw [h4] at he; cases he
                      | some s4 =>
                        obtain ⟨t4, n4, l4, how4⟩ := s4
                        obtain ⟨q4, e4⟩ := hi _ _ _ _ _ _ e2 h4
                        rw [h4] at he
                        rw [q4]
                        have fin2 : (match retE rf.rs t4 l4.reverse with
                            | some _ => match retE df.rs t2 l4.reverse with
                              | some v => gE v fun v => k v n4 l4
                              | none => none
                            | none => none) = some r → ∃ u v, retE rf.rs t4 l4.reverse = some u ∧ retE df.rs t2 l4.reverse = some v ∧ k v n4 l4 = some r := by
                          intro h
                          split at h
                          · rename_i u hu
                            obtain ⟨v, hv, hk⟩ := fin h
                            exact ⟨u, v, hu, hv, hk⟩
                          · cases h
                        rcases how4 with _ | _ | e
                        · obtain ⟨u, v, hu, hv, hk⟩ := fin2 he
                          exact ⟨v, n4, l4, by simp only [hu, hv], e4, hk⟩
                        · obtain ⟨u, v, hu, hv, hk⟩ := fin2 he
                          exact ⟨v, n4, l4, by simp only [hu, hv], e4, hk⟩
                        · cases he
                    rcases how2 with _ | _ | e
                    · exact last he
                    · exact last he
                    · cases he
              · cases he
theorem callX_imp {γ : Type} {Q : Option (St × PD) → Prop} {ihX : XI} {ih : Bool → List KI → List EV → EH → Option (St × PD)} (hi : IHX ihX ih) {n : Nat} {l : EH} (hn : n = l.length) {f : FuncId} {args : List EV}
    {k : EV → Nat → EH → Option XR} {K : EV → EH → Option (St × PD)} {r : XR} (hk : ∀ v n' l', n' = l'.length → k v n' l' = some r → Q (K v l'.reverse))
    (he : callX G F ihX n l f args k = some r) : Q (exCall G F ih l.reverse K f args) := by
  unfold callX at he
  unfold exCall
  split at he
  · rename_i hb
    rw [hb]
    simp only
    split at he
    · rename_i id as
      simp only
      rw [gX_eq hn] at he
      split at he
      · rename_i t0 ps asg body pd0 hg0
        rw [hg0]
        simp only
        split at he
        · rename_i hlen
          rw [hlen]
          simp only [fPs_eq]
          rw [fS_eq] at he
          split at he
          · rename_i t1 n1 l1 h1
            obtain ⟨q1, e1⟩ := hi _ _ _ _ _ _ hn h1
            rw [q1]
            simp only
            rw [gX_eq e1] at he
            split at he
            · rename_i t1' ps1 a1 b1 pd1 hg1
              rw [hg1]
              simp only
              obtain ⟨n1', l1', e1', r1', a1'⟩ := appX_eq (β := XR) e1 (.set id (.lp t1' ps1 a1 b1 1 pd1))
              rw [a1'] at he
              split at he
              · rename_i t2 n2 l2 how h2
                obtain ⟨q2, e2⟩ := hi _ _ _ _ _ _ e1' h2
                rw [r1'] at q2
                simp only [Eff.app] at q2
                rw [q2]
                simp only
                rw [gX_eq e2] at he
                split at he
                · rename_i t2' ps2 a2 b2 st2 pd2 hg2
                  rw [hg2]
                  simp only
                  split at he
                  · obtain ⟨n3, l3, e3, r3, a3⟩ := appX_eq (β := XR) e2 (.set id (.lp t2' ps2 a2 b2 0 none))
                    rw [a3] at he
                    have := hk _ _ _ e3 he
                    rw [r3] at this
                    exact this
                  · rename_i x
                    obtain ⟨n3, l3, e3, r3, a3⟩ := appX_eq (β := XR) e2 (.set id (.lp t2' ps2 a2 b2 2 (some x)))
                    rw [a3] at he
                    have := hk _ _ _ e3 he
                    rw [r3] at this
                    exact this
                · cases he
              · cases he
            · cases he
          · cases he
        · cases he
      · cases he
    · cases he
  · rename_i hb
    rw [hb]
    simp only
    cases ho : F.o f with
    | some tb =>
      rw [ho] at he
      simp only at he ⊢
      have hgx : gX n l = getH l.reverse := funext (gX_eq hn)
      rw [hgx] at he
      cases hv : orcF tb (getH l.reverse) args with
      | none => rw [hv] at he; cases he
      | some v =>
        rw [hv] at he
        simp only at he ⊢
        rw [gE_eq] at he
        exact hk v n l hn he
    | none =>
      rw [ho] at he
      simp only at he ⊢
      obtain ⟨v, n', l', h1, h2, h3⟩ := fnX_imp hi hn he
      rw [h1]
      exact hk v n' l' h2 h3
end
/-! control -/
noncomputable def rfX (ih : XI) (G : List (List EV)) (F : Tab) (x : Operand) (ps : List Nat) (asg body : EC) (k : List KI) (t : List EV) (n : Nat) (l : EH) : Option XR :=
  evalK x G t fun v => match v with
    | .fn (.func f) a b => match Nat.beq f roundF with
      | true => none
      | false => fnX G F ih (Nat.succ n) (.lp t ps asg body 0 none :: l) f (appL a (.yl n :: b)) fun _ n1 l1 => match gX n1 l1 n with
        | .lp _ _ _ _ st pd => match Nat.beq st 1 with
          | true => none
          | false => appX (.set n .dead) n1 l1 fun n2 l2 => match pd with
            | none => ih false k t n2 l2
            | some none => some ⟨t, n2, l2, some none⟩
            | some (some e) => match unwindK e k with
              | some k' => ih false k' t n2 l2
              | none => some ⟨t, n2, l2, some (some e)⟩
        | _ => none
    | _ => none
noncomputable def condX (ih : XI) (rd : Bool) (x : Operand) (a b : EC) (k : List KI) (t : List EV) (n : Nat) (l : EH) (v : EV) : Option XR :=
  match v with
  | .lit (.bool true) => ih rd (.c a :: k) t n l
  | .lit (.bool false) => ih rd (.c b :: k) t n l
  | .sb true => (match x with | .tmp i => setK t i (.lit (.bool true)) fun t => ih rd (.c a :: k) t n l | _ => ih rd (.c a :: k) t n l)
  | .sb false => (match x with | .tmp i => setK t i (.lit (.bool false)) fun t => ih rd (.c b :: k) t n l | _ => ih rd (.c b :: k) t n l)
  | _ => none
noncomputable def ecX : EC → XI → List (List EV) → Tab → Bool → List KI → List EV → Nat → EH → Option XR :=
  @EC.rec (fun _ => XI → List (List EV) → Tab → Bool → List KI → List EV → Nat → EH → Option XR)
    (fun ih _ _ rd k t n l => ih rd k t n l)
    (fun ops ih _ _ rd k t n l => ih rd (.ops ops :: k) t n l)
    (fun a b _ _ ih _ _ rd k t n l => ih rd (.c a :: .c b :: k) t n l)
    (fun x a b _ _ ih G _ rd k t n l => evalK x G t fun v => condX ih rd x a b k t n l v)
    (fun id c _ ih _ _ rd k t n l => ih rd (.c c :: .blk id :: k) t n l)
    (fun c _ ih _ _ rd k t n l => ih rd (.c c :: .lp c :: k) t n l)
    (fun id ih _ _ rd k t n l => match unwindK id k with | some k' => ih rd k' t n l | none => some ⟨t, n, l, some (some id)⟩)
    (fun ih _ _ rd k t n l => some ⟨t, n, l, some none⟩)
    (fun x ps asg body _ _ ih G F rd k t n l => match rd with | true => none | false => rfX ih G F x ps asg body k t n l)
    (fun _ _ _ _ _ _ _ _ _ => none)
/-- an operation, and on -/
noncomputable def goX (ih : XI) (G : List (List EV)) (F : Tab) (rd : Bool) (k : List KI) (dst : Option Nat) (i : EI) (t : List EV) (n : Nat) (l : EH) : Option XR :=
  stepC i G t n l (fun v e => putK t dst v fun t => appX e n l fun n l => ih rd k t n l) (fun f args => callX G F ih n l f args fun v n l => putK t dst v fun t => ih rd k t n l)
noncomputable def gdX (ih : XI) (G : List (List EV)) (F : Tab) (rd : Bool) (k : List KI) (dst : Option Nat) (i : EI) (g : Nat) (want : Bool) (t : List EV) (n : Nat) (l : EH) (gv : EV) : Option XR :=
  match gv with
  | .lit (.bool b) => match (b == want) with
    | true => goX ih G F rd k dst i t n l
    | false => putK t dst undefE fun t => ih rd k t n l
  | .lit (.tuple _) => putK t dst undefE fun t => ih rd k t n l
  | .sb b => match (b == want) with
    | true => setK t g (.lit (.bool b)) fun t => goX ih G F rd k dst i t n l
    | false => setK t g (.lit (.bool b)) fun t => putK t dst undefE fun t => ih rd k t n l
  | _ => none
noncomputable def opX : EOp → XI → List (List EV) → Tab → Bool → List KI → List EV → Nat → EH → Option XR :=
  @EOp.rec (fun _ => XI → List (List EV) → Tab → Bool → List KI → List EV → Nat → EH → Option XR)
    (fun dst i guard ih G F rd k t n l => @Option.rec (Nat × Bool) (fun _ => Option XR) (goX ih G F rd k dst i t n l)
      (fun p => getK t p.1 fun gv => gdX ih G F rd k dst i p.1 p.2 t n l gv) guard)
noncomputable def opsX : List EOp → XI → List (List EV) → Tab → Bool → List KI → List EV → Nat → EH → Option XR :=
  @List.rec EOp (fun _ => XI → List (List EV) → Tab → Bool → List KI → List EV → Nat → EH → Option XR)
    (fun ih _ _ rd k t n l => ih rd k t n l)
    (fun o os _ ih G F rd k t n l => opX o ih G F rd (.ops os :: k) t n l)
noncomputable def kiX : KI → XI → List (List EV) → Tab → Bool → List KI → List EV → Nat → EH → Option XR :=
  @KI.rec (fun _ => XI → List (List EV) → Tab → Bool → List KI → List EV → Nat → EH → Option XR)
    (fun ec => ecX ec) (fun ops => opsX ops) (fun _ ih _ _ rd k t n l => ih rd k t n l) (fun _ _ _ _ _ _ _ _ _ => none) (fun c ih _ _ rd k t n l => ih rd (.c c :: .lp c :: k) t n l)
noncomputable def stX (G : List (List EV)) (F : Tab) (ih : XI) (rd : Bool) (k : List KI) (t : List EV) (n : Nat) (l : EH) : Option XR :=
  @List.rec KI (fun _ => Option XR) (some ⟨t, n, l, none⟩) (fun x k _ => kiX x ih G F rd k t n l) k
noncomputable def execX (G : List (List EV)) (F : Tab) (n : Nat) : XI := @Nat.rec (fun _ => XI) (fun _ _ _ _ _ => none) (fun _ ih => stX G F ih) n
section
variable {G : List (List EV)} {F : Tab}
theorem litB_tmp (t : List EV) (i : Nat) (b : Bool) : litB t (.tmp i) b = setT t i (.lit (.bool b)) := rfl
theorem go_imp {ihX : XI} {ih : Bool → List KI → List EV → EH → Option (St × PD)} (hi : IHX ihX ih) {rd : Bool} {k : List KI} {dst : Option Nat} {i : EI} {t : List EV} {n : Nat} {l : EH} {r : XR} (hn : n = l.length)
    (he : goX ihX G F rd k dst i t n l = some r) :
    exSR kA (fun v h => ih rd k (putT t dst v) h) (exCall G F ih l.reverse fun v h => ih rd k (putT t dst v) h) (stepI kA G t l.reverse i) = some (⟨r.t, r.l.reverse⟩, r.how) ∧ r.n = r.l.length := by
  unfold goX at he
  refine stepC_imp (Q := fun o => o = some ((⟨r.t, r.l.reverse⟩ : St), r.how) ∧ r.n = r.l.length) hn (fun v e h1 => ?_) (fun f args h1 => ?_) i he
  · rw [putK_eq] at h1
    obtain ⟨n', l', e1, e2, e3⟩ := appX_eq (β := XR) hn e
    rw [e3] at h1
    have := hi _ _ _ _ _ _ e1 h1
    rwa [e2] at this
  · refine callX_imp (γ := Unit) (Q := fun o => o = some ((⟨r.t, r.l.reverse⟩ : St), r.how) ∧ r.n = r.l.length) hi hn (fun v n' l' e1 h2 => ?_) h1
    rw [putK_eq] at h2
    exact hi _ _ _ _ _ _ e1 h2
theorem step_imp {ihX : XI} {ih : Bool → List KI → List EV → EH → Option (St × PD)} (hi : IHX ihX ih) : IHX (stX G F ihX) (exStep kA G F ih) := by
  intro rd k t n l r hn he
  cases k with
  | nil => cases he; exact ⟨rfl, hn⟩
  | cons x k =>
    have he : kiX x ihX G F rd k t n l = some r := he
    cases x with
    | c ec =>
      have he : ecX ec ihX G F rd k t n l = some r := he
      cases ec with
      | skip => exact hi _ _ _ _ _ _ hn he
      | ops os => exact hi _ _ _ _ _ _ hn he
      | seq a b => exact hi _ _ _ _ _ _ hn he
      | cond x a b =>
        have he : (evalK x G t fun v => condX ihX rd x a b k t n l v) = some r := he
        rw [evalK_eq] at he
        unfold condX at he
        simp only [exStep]
        split at he
        · rename_i h1; rw [h1]; exact hi _ _ _ _ _ _ hn he
        · rename_i h1; rw [h1]; exact hi _ _ _ _ _ _ hn he
        · rename_i h1
          rw [h1]
          simp only
          cases x with
          | tmp i => simp only [setK_eq] at he; rw [litB_tmp]; exact hi _ _ _ _ _ _ hn he
          | _ => exact hi _ _ _ _ _ _ hn he
        · rename_i h1
          rw [h1]
          simp only
          cases x with
          | tmp i => simp only [setK_eq] at he; rw [litB_tmp]; exact hi _ _ _ _ _ _ hn he
          | _ => exact hi _ _ _ _ _ _ hn he
        · cases he
      | block id c => exact hi _ _ _ _ _ _ hn he
      | loop c => exact hi _ _ _ _ _ _ hn he
      | exit id =>
        have he : (match unwindK id k with | some k' => ihX rd k' t n l | none => some ⟨t, n, l, some (some id)⟩) = some r := he
        simp only [exStep]
        split at he
        · rename_i k' h1; rw [h1]; exact hi _ _ _ _ _ _ hn he
        · rename_i h1; rw [h1]; cases he; exact ⟨rfl, hn⟩
      | ret => cases he; exact ⟨rfl, hn⟩
      | rf x ps asg body =>
        cases rd with
        | true => cases he
        | false =>
          have he : rfX ihX G F x ps asg body k t n l = some r := he
          simp only [exStep]
          unfold rfX at he
          rw [evalK_eq] at he
          split at he
          · rename_i f a b h1
            rw [h1]
            simp only
            split at he
            · cases he
            · rename_i hb
              rw [hb]
              simp only
              obtain ⟨v, n1, l1, q1, q2, q3⟩ := fnX_imp hi (by simp [hn]) he
              rw [List.reverse_cons, ← pushH_app] at q1
              have hs : sizeH l.reverse = n := by rw [sizeH_len]; simp [hn]
              rw [hs, q1]
              simp only
              rw [gX_eq q2] at q3
              split at q3
              · rename_i t5 ps5 a5 b5 st pd hg
                rw [hg]
                simp only
                split at q3
                · cases q3
                · rename_i hst
                  rw [hst]
                  simp only [fH_eq]
                  obtain ⟨n2, l2, e2, r2, a2⟩ := appX_eq (β := XR) q2 (.set n .dead)
                  rw [a2] at q3
                  have r2 : l2.reverse = setH l1.reverse n .dead := r2
                  rw [← r2]
                  split at q3
                  · exact hi _ _ _ _ _ _ e2 q3
                  · cases q3; exact ⟨rfl, e2⟩
                  · rename_i e
                    simp only
                    split at q3
                    · rename_i k' hu
                      rw [hu]
                      exact hi _ _ _ _ _ _ e2 q3
                    · rename_i hu
                      rw [hu]
                      cases q3; exact ⟨rfl, e2⟩
              · cases q3
          · cases he
      | any t => cases he
    | ops os =>
      have he : opsX os ihX G F rd k t n l = some r := he
      cases os with
      | nil => exact hi _ _ _ _ _ _ hn he
      | cons o os =>
        obtain ⟨dst, i, guard⟩ := o
        have he : (@Option.rec (Nat × Bool) (fun _ => Option XR) (goX ihX G F rd (.ops os :: k) dst i t n l)
          (fun p => getK t p.1 fun gv => gdX ihX G F rd (.ops os :: k) dst i p.1 p.2 t n l gv) guard) = some r := he
        have nx : ∀ (t : List EV), (fun (v : EV) (h : EH) => fE v fun v => fPut t dst v fun t => match isX i with
            | true => fH h fun h => ih rd (.ops os :: k) t h
            | false => ih rd (.ops os :: k) t h) = fun v h => ih rd (.ops os :: k) (putT t dst v) h := by
          intro t
          funext v h
          rw [fE_eq, fPut_eq]
          cases isX i with
          | true => simp only [fH_eq]
          | false => rfl
        simp only [exStep]
        cases guard with
        | none =>
          have := go_imp hi hn he
          rw [← nx t] at this
          exact this
        | some p =>
          obtain ⟨g, want⟩ := p
          have he : (getK t g fun gv => gdX ihX G F rd (.ops os :: k) dst i g want t n l gv) = some r := he
          rw [getK_eq] at he
          unfold gdX at he
          simp only
          split at he
          · rename_i b h1
            rw [h1]
            simp only
            split at he
            · rename_i hw
              rw [hw]
              have := go_imp hi hn he
              rw [← nx t] at this
              exact this
            · rename_i hw
              rw [hw]
              rw [putK_eq] at he
              simp only [fPut_eq]
              exact hi _ _ _ _ _ _ hn he
          · rename_i h1
            rw [h1]
            rw [putK_eq] at he
            simp only [fPut_eq]
            exact hi _ _ _ _ _ _ hn he
          · rename_i b h1
            rw [h1]
            simp only
            split at he
            · rename_i hw
              rw [hw]
              rw [setK_eq] at he
              simp only [fSet_eq]
              have := go_imp hi hn he
              rw [← nx] at this
              exact this
            · rename_i hw
              rw [hw]
              rw [setK_eq, putK_eq] at he
              simp only [fSet_eq, fPut_eq]
              exact hi _ _ _ _ _ _ hn he
          · cases he
    | blk id => exact hi _ _ _ _ _ _ hn he
    | mark R => cases he
    | lp c => exact hi _ _ _ _ _ _ hn he
theorem execX_imp (G : List (List EV)) (F : Tab) : ∀ n : Nat, IHX (execX G F n) (exec kA G F n)
  | 0 => fun _ _ _ _ _ _ _ he => by cases he
  | n + 1 => step_imp (execX_imp G F n)
/-- a closed run's value -/
noncomputable def valX (G : List (List EV)) (T : Tab) (n f : Nat) (args : List EV) : Option EV :=
  match fnX G T (execX G T n) 0 [] f args (fun v n l => some ⟨[v], n, l, none⟩) with
  | some ⟨v :: _, _, _, _⟩ => some v
  | _ => none
theorem valX_exec {G : List (List EV)} {T : Tab} {n f : Nat} {args : List EV} {v : EV} (he : valX G T n f args = some v) : execV G T n f args [] = some v := by
  unfold valX at he
  split at he
  · rename_i v1 ts n1 l1 how h1
    cases he
    obtain ⟨v', n', l', q1, q2, q3⟩ := fnX_imp (execX_imp G T n) (l := []) rfl h1
    cases q3
    unfold execV
    simp only [List.reverse_nil] at q1
    rw [q1]
  · cases he
end
end Go.Proofs.YtpgeonghlabnhaaGreatDoor.Em
