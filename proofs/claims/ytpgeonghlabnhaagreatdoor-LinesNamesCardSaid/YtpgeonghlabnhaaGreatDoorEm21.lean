/- Em21: contracts of functions: out of their code; with memory that they don't reach; with what comes back renumbered. No conditions beyond those written. -/
import Derived.Test.YtpgeonghlabnhaaGreatDoorEm20
import Derived.RangeFuncLeaves
import Derived.RangeFuncRecord
set_option linter.unusedVariables false
set_option linter.unusedSimpArgs false
namespace Go.Proofs.YtpgeonghlabnhaaGreatDoor.Em
open Go
inductive ER where
  | tmp (t : Nat)
  | cell (a : Nat) (agg : Bool) (n : Nat)
structure FC where
  ntmps : Nat
  rs : List ER
  body : EC
def compR (P : Program) : List ResultVar → Option (List ER)
  | [] => some []
  | .tmp t :: l => match compR P l with | some r => some (.tmp t :: r) | none => none
  | .cell a t :: l => match aggP P t, szP P t, compR P l with
    | some true, some n, some r => some (.cell a true n :: r)
    | some false, _, some r => some (.cell a false 1 :: r)
    | _, _, _ => none
def compF (P : Program) (f : FuncId) : Option FC :=
  match P.funcs[f]? with
  | none => none
  | some fn => match fn.body with
    | none => none
    | some c => if fn.name != "runtime.NumGoroutine" && !Nat.beq f roundF then match compC P c, compR P fn.results.toList with
      | some ec, some rs => some ⟨fn.ntmps, rs, ec⟩
      | _, _ => none
      else none
def resE (t : List EV) (h : EH) : List ER → Option (List EV)
  | [] => some []
  | .tmp i :: l => match resE t h l with
    | some r => some (getT t i :: r)
    | none => none
  | .cell a agg n :: l => match getT t a with
    | .ptr id off => match getH h id with
      | .blk c => match rd c off n with
        | some cs => match mkV agg cs, resE t h l with
          | some v, some r => some (v :: r)
          | _, _ => none
        | none => none
      | _ => none
    | _ => none
def retE (rs : List ER) (t : List EV) (h : EH) : Option EV :=
  match resE t h rs with
  | some [v] => some v
  | some l => some (.tup l)
  | none => none
def padN : Nat → List EV
  | 0 => []
  | n + 1 => undefE :: padN n
def padT : List EV → Nat → List EV
  | [], n => padN n
  | x :: l, n => x :: padT l (Nat.pred n)
theorem padN_eq : ∀ n : Nat, padN n = List.replicate n undefE
  | 0 => rfl
  | n + 1 => by simp [padN, padN_eq n, List.replicate_succ]
theorem padT_eq : ∀ (l : List EV) (n : Nat), padT l n = l ++ List.replicate (n - l.length) undefE
  | [], n => by simp [padT, padN_eq]
  | x :: l, n => by
    simp only [padT, padT_eq l, List.cons_append, List.length_cons, Nat.pred_eq_sub_one]
    rw [show n - 1 - l.length = n - (l.length + 1) by omega]
def FinR (rs : List ER) (R : EV → EH → Prop) (s : St) : Prop := ∃ v, retE rs s.t s.h = some v ∧ R v s.h
theorem FinR.intro {rs : List ER} {R : EV → EH → Prop} {s : St} {v : EV} (h1 : retE rs s.t s.h = some v) (h2 : R v s.h) : FinR rs R s := ⟨v, h1, h2⟩
section
variable {P : Program} {G : List (List EV)}
theorem goodF_of {f : FuncId} {fc : FC} (hc : compF P f = some fc) : goodF P f = true := by
  unfold compF at hc
  unfold goodF
  split at hc
  · cases hc
  · rename_i fn hf
    rw [hf]
    split at hc
    · cases hc
    · rename_i c hb
      split at hc
      · rename_i hn; simp only [Bool.and_eq_true] at hn; simp [hb, hn.1]; simpa using hn.2
      · cases hc
def resV (tmps : Array Value) : ResultVar → Sem Value
  | .tmp t => pure (tmps.getD t undef)
  | .cell a t => do loadVar t (← asAddr (tmps.getD a undef))
theorem results_eq (fn : Func) (tmps : Array Value) : results fn tmps = (do let vs ← fn.results.mapM (resV tmps); pure (if h : vs.size = 1 then vs[0] else .tuple vs)) := by
  have : (fun x : ResultVar => (match x with
      | .tmp t => pure (tmps.getD t undef)
      | .cell a t => (do loadVar t (← asAddr (tmps.getD a undef))) : Sem Value)) = resV tmps := by
    funext x; cases x <;> rfl
  rw [← this]; rfl
theorem resE_sound {I : Imm} {w : World} {ρ : Ren} {t : List EV} {h : EH} {tmps : Array Value} (hs : HSim I w ρ h) (ht : RepL w I ρ t tmps.toList) :
    ∀ (src : List ResultVar) (rs : List ER) (r : List EV), compR P src = some rs → resE t h rs = some r → ∃ vs : List Value,
      (src.mapM (resV tmps)).run P w = .ok vs w ∧ RepL w I ρ r vs
  | [], rs, r, hc, hr => by
    simp [compR] at hc; subst hc
    simp [resE] at hr; subst hr
    exact ⟨[], by simp, trivial⟩
  | .tmp i :: l, rs, r, hc, hr => by
    simp only [compR] at hc
    cases hl : compR P l with
    | none => simp [hl] at hc
    | some rs' =>
      simp [hl] at hc; subst hc
      simp only [resE] at hr
      cases hr' : resE t h rs' with
      | none => simp [hr'] at hr
      | some r' =>
        simp [hr'] at hr; subst hr
        obtain ⟨vs, h1, h2⟩ := resE_sound hs ht l rs' r' hl hr'
        refine ⟨tmps.getD i undef :: vs, ?_, ?_, h2⟩
        · simp only [List.mapM_cons, Sem.run_bind]
          simp [h1, resV, Result.andThen, Sem.run_bind]
        · have := getT_rep ht i
          simpa [Array.getD_eq_getD_getElem?, List.getD_eq_getElem?_getD] using this
  | .cell a ty :: l, rs, r, hc, hr => by
    simp only [compR] at hc
    have key : ∀ agg n rs', aggP P ty = some agg → (agg = true → szP P ty = some n) → compR P l = some rs' → rs = .cell a agg n :: rs' → ∃ vs : List Value,
        ((.cell a ty :: l).mapM (resV tmps)).run P w = .ok vs w ∧ RepL w I ρ r vs := by
      intro agg n rs' ha hsz hl he
      subst he
      simp only [resE] at hr
      cases hg : getT t a with
      | ptr id off =>
        simp only [hg] at hr
        cases hb : getH h id with
        | blk c =>
          simp only [hb] at hr
          cases hrd : rd c off n with
          | none => simp [hrd] at hr
          | some cs =>
            simp only [hrd] at hr
            cases hmk : mkV agg cs with
            | none => simp [hmk] at hr
            | some e =>
              cases hr' : resE t h rs' with
              | none => simp [hmk, hr'] at hr
              | some r' =>
                simp [hmk, hr'] at hr; subst hr
                obtain ⟨vs, h1, h2⟩ := resE_sound hs ht l rs' r' hl hr'
                have hrep := getT_rep ht a
                rw [hg] at hrep
                have hv : ∃ b o, tmps.toList.getD a undef = .pointer (some ⟨b, o + off, none⟩) ∧ ρ[id]? = some (b, o) := by
                  generalize tmps.toList.getD a undef = u at hrep
                  cases hrep with
                  | ptr _ _ _ b o hx => exact ⟨b, o, rfl, hx⟩
                obtain ⟨b, o, hv, hρ⟩ := hv
                have hv' : tmps.getD a undef = .pointer (some ⟨b, o + off, none⟩) := by
                  simpa [Array.getD_eq_getD_getElem?, List.getD_eq_getElem?_getD] using hv
                obtain ⟨b', o', hr1, hcell⟩ := blk_cell hs hb
                rw [hρ] at hr1; cases hr1
                obtain ⟨hlen, htk⟩ := rd_spec c off n cs hrd
                obtain ⟨u, hu, hrep2⟩ := loadVar_run (P := P) (b := b) (o := o + off) ha hsz hlen hmk (fun j y hy => by
                  obtain ⟨u, hu, _, hrp⟩ := hcell (off + j) y (take_drop_get htk hy)
                  exact ⟨u, by rw [Nat.add_assoc]; exact hu, hrp⟩)
                refine ⟨u :: vs, ?_, hrep2, h2⟩
                have hx : (resV tmps (.cell a ty)).run P w = .ok u w := by
                  simp [resV, hv', asAddr, hu]
                simp only [List.mapM_cons, Sem.run_bind, hx]
                simp [h1, Result.andThen, Sem.run_bind]
        | dead => simp [hb] at hr
        | emap es => simp [hb] at hr
        | lp _ _ _ _ _ _ => simp [hb] at hr
        | row _ => simp [hb] at hr
        | itr _ _ => simp [hb] at hr
      | _ => simp [hg] at hr
    split at hc
    · rename_i n r' h1 h2 h3; cases hc; exact key true n r' h1 (fun _ => h2) h3 rfl
    · rename_i r' h1 h2; cases hc; exact key false 1 r' h1 (fun hf => by cases hf) h2 rfl
    · cases hc
theorem retE_sound {I : Imm} {w : World} {ρ : Ren} {t : List EV} {h : EH} {tmps : Array Value} {fn : Func} {rs : List ER} {v : EV} (hs : HSim I w ρ h) (ht : RepL w I ρ t tmps.toList)
    (hc : compR P fn.results.toList = some rs) (hr : retE rs t h = some v) : ∃ cv, (results fn tmps).run P w = .ok cv w ∧ Rep w I ρ v cv := by
  unfold retE at hr
  cases hre : resE t h rs with
  | none => simp [hre] at hr
  | some r =>
    obtain ⟨vs, h1, h2⟩ := resE_sound (P := P) hs ht _ _ _ hc hre
    have hrun : (results fn tmps).run P w = .ok (if h : vs.toArray.size = 1 then vs.toArray[0] else .tuple vs.toArray) w := by
      rw [results_eq, Array.mapM_eq_mapM_toList]
      simp only [map_eq_pure_bind, bind_assoc, pure_bind]
      rw [Sem.run_bind, h1]
      simp [Result.andThen]
    refine ⟨_, hrun, ?_⟩
    clear hrun h1
    rw [hre] at hr
    match r, vs, h2, hr with
    | [], [], h2, hr => simp at hr; subst hr; exact tup_of_list (by simpa using h2)
    | [x], [u], h2, hr => simp at hr; subst hr; exact h2.1
    | x :: y :: r, u :: u' :: vs, h2, hr =>
      simp at hr; subst hr
      rw [dif_neg (by simp)]
      exact tup_of_list (by simpa using h2)
/-- The same but for the marks' blocks. -/
def Off (w w' : World) (l : List Deferred) : Prop :=
  w'.os = w.os ∧ w'.tape = w.tape ∧ w'.output = w.output ∧ w'.heap.size = w.heap.size ∧ ∀ b, (∀ d ∈ l, d.target ≠ .collected b) → w'.heap[b]? = w.heap[b]?
theorem Off.keep {I0 I' I : Imm} {w w' : World} {l : List Deferred} (h : Off w w' l) (hm : Marks I0 I' w l) (hI : ∀ b, I.k b → ∀ d ∈ l, d.target ≠ .collected b) : Keep I w w' :=
  ⟨h.1, h.2.1, h.2.2.1, by rw [h.2.2.2.1]; exact Nat.le_refl _, fun b hb => h.2.2.2.2 b (hI b hb), fun b cs e fz hb => ⟨cs, fz, (h.2.2.2.2 b (fun d hd he => by
      obtain ⟨b', m1, _, _, _, m5⟩ := hm.mem d hd
      rw [m1] at he; cases he
      rw [hb] at m5; cases m5)).trans hb, rfl⟩⟩
/-- A function leaves: the marks among its deferred calls come to nothing. -/
theorem marks_leave {F : Fence} {n : Nat} {fn : Func} {tmps : Array Value} {R : Ending → World → Prop} {I0 I : Imm} : ∀ {l : List Deferred} {w : World}, Marks I0 I w l →
    (∀ w', Off w w' l → ∃ v, (results fn tmps).run P w' = .ok v w' ∧ R (.returned v) w') → LeavesInM F n P fn tmps R l .returning w
  | [], w, _, h => h w ⟨rfl, rfl, rfl, rfl, fun _ _ => rfl⟩
  | d :: l, w, ⟨⟨b, h1, h2, h3, h4, h5, h6⟩, h7⟩, h => by
    have hne : ∀ c, c ≠ b → (w.putObj b (.deferred none)).heap[c]? = w.heap[c]? := fun c hc => World.putObj_heap_other hc
    have hm : ∀ {l' : List Deferred}, (∀ d' ∈ l', d'.target ≠ .collected b) → Marks I0 I w l' → Marks I0 I (w.putObj b (.deferred none)) l' := by
      intro l'
      induction l' with
      | nil => intro _ _; trivial
      | cons x l' ih =>
        rintro hx ⟨⟨c, k1, k2, k3, k4, k5, k6⟩, k7⟩
        exact ⟨⟨c, k1, k2, k3, k4, by rw [hne c fun e => hx x (by simp) (by rw [k1, e])]; exact k5, k6⟩, ih (fun y hy => hx y (by simp [hy])) k7⟩
    refine ⟨by simp, .inl ⟨b, _, h1, run_takeDeferred h5, marks_leave (hm h6 h7) fun w' ho => h w' ⟨ho.1, ho.2.1, ho.2.2.1, by rw [ho.2.2.2.1]; simp, fun c hc => ?_⟩⟩⟩
    rw [ho.2.2.2.2 c fun x hx => hc x (by simp [hx]), hne c fun e => hc d (by simp) (by rw [h1, e])]
/-- Likewise where it gives up. -/
theorem marks_leaveP {F : Fence} {n : Nat} {fn : Func} {tmps : Array Value} {R : Ending → World → Prop} {I0 I : Imm} {ch : List PanicEntry} : ∀ {l : List Deferred} {w : World}, Marks I0 I w l →
    (∀ w', Off w w' l → R (.panicked ch) w') → LeavesInM F n P fn tmps R l (.panicking ch) w
  | [], w, _, h => h w ⟨rfl, rfl, rfl, rfl, fun _ _ => rfl⟩
  | d :: l, w, ⟨⟨b, h1, h2, h3, h4, h5, h6⟩, h7⟩, h => by
    have hne : ∀ c, c ≠ b → (w.putObj b (.deferred none)).heap[c]? = w.heap[c]? := fun c hc => World.putObj_heap_other hc
    have hm : ∀ {l' : List Deferred}, (∀ d' ∈ l', d'.target ≠ .collected b) → Marks I0 I w l' → Marks I0 I (w.putObj b (.deferred none)) l' := by
      intro l'
      induction l' with
      | nil => intro _ _; trivial
      | cons x l' ih =>
        rintro hx ⟨⟨c, k1, k2, k3, k4, k5, k6⟩, k7⟩
        exact ⟨⟨c, k1, k2, k3, k4, by rw [hne c fun e => hx x (by simp) (by rw [k1, e])]; exact k5, k6⟩, ih (fun y hy => hx y (by simp [hy])) k7⟩
    refine ⟨by simp, .inl ⟨b, _, h1, run_takeDeferred h5, marks_leaveP (hm h6 h7) fun w' ho => h w' ⟨ho.1, ho.2.1, ho.2.2.1, by rw [ho.2.2.2.1]; simp, fun c hc => ?_⟩⟩⟩
    rw [ho.2.2.2.2 c fun x hx => hc x (by simp [hx]), hne c fun e => hc d (by simp) (by rw [h1, e])]
/-- What is to hold where a function's code gives up. -/
def EndsP (P : Program) (G : List (List EV)) (I0 : Imm) (ρ0 : Ren) (w0 : World) (Q : Exit → Act → World → Prop) (S : EV → EH → Prop) : Prop :=
  ∀ v st, S v st.h → PanK P G I0 ρ0 w0 Q v st
/-- **A function's contract, out of its code; it may give up.** -/
theorem TriX_of {f : FuncId} {fc : FC} {args : List EV} {h : EH} {R S : EV → EH → Prop} (hc : compF P f = some fc)
    (hrun : ∀ (I0 : Imm) (ρ0 : Ren) (w0 : World) (Q : Exit → Act → World → Prop), ρ0.length = sizeH h → EndsQ P G I0 ρ0 w0 Q (FinR fc.rs R) → EndsP P G I0 ρ0 w0 Q S → OKs P G none I0 ρ0 w0 Q [.c fc.body] ⟨padT args fc.ntmps, h⟩) :
    TriX P G f args h R S := by
  intro I ρ w cargs hI hs ha hg
  unfold compF at hc
  split at hc
  · cases hc
  · rename_i fn hf
    split at hc
    · cases hc
    · rename_i c hb
      split at hc
      · split at hc
        · rename_i ec rs hec hrs
          cases hc
          refine (callsIn_wide (n := 0)).1 (show CallsIn (FR none) 0 P f _ w _ from callsIn_of_wp_marks hf hb trivial ?_ rfl)
          have hQ : EndsQ P G I.bare ρ w (bodyPostM (FR none) 0 P fn fun e w' => ∃ v cv h' I' ρ1, ((e = .returned cv ∧ R v h') ∨ (e = .panicked [{ v := cv, recovered := false }] ∧ S v h')) ∧ Imm.le I I' ∧ (∀ b, I' b → b < w'.heap.size) ∧ HSim I' w' (ρ ++ ρ1) h' ∧ Rep w' I' (ρ ++ ρ1) v cv ∧ Keep I w w') (FinR rs R) := by
            intro st ⟨v, hv, hR⟩ a w' hx
            obtain ⟨I', ρ1, q1, q2, q3, q4, ⟨ms, hms, q5⟩, q6, q7⟩ := hx
            have hms : a.defers = ms := by rw [hms]; exact List.append_nil ms
            have key := marks_leave (F := FR none) (n := 0) (P := P) (fn := fn) (tmps := a.tmps) (R := fun e w' => ∃ v cv h' I' ρ1, ((e = .returned cv ∧ R v h') ∨ (e = .panicked [{ v := cv, recovered := false }] ∧ S v h')) ∧ Imm.le I I' ∧ (∀ b, I' b → b < w'.heap.size) ∧ HSim I' w' (ρ ++ ρ1) h' ∧ Rep w' I' (ρ ++ ρ1) v cv ∧ Keep I w w') q5 fun w2 ho => by
              obtain ⟨J, j1, j2, j3, j4, j5, j6, _⟩ := q5.base q1
              have hk := ho.keep (I := J) q5 j6
              have hsJ : HSim J w' (ρ ++ ρ1) st.h := q3.reI j5 (fun k b o hd hr => by
                obtain ⟨b2, o2, k1, k2, _⟩ := OS.lt (q3.live k) hd
                rw [hr] at k1; cases k1
                exact fun hj => k2 (j2.k _ hj)) j2.P.symm
              have hs2 : HSim J w2 (ρ ++ ρ1) st.h := hsJ.keep hk fun k b o hd hr => by
                obtain ⟨b2, o2, k1, k2, _⟩ := OS.lt (q3.live k) hd
                rw [hr] at k1; cases k1
                exact ho.2.2.2.2 b fun d hd2 e => by
                  obtain ⟨b', m1, m2, _⟩ := q5.mem d hd2
                  rw [m1] at e; cases e; exact k2 m2
              obtain ⟨cv, hcv, hrep⟩ := retE_sound (P := P) (fn := fn) hs2 (q4.map fun _ _ x => (x.imm j5).keep hk) hrs hv
              exact ⟨cv, hcv, v, cv, st.h, J, ρ1, .inl ⟨rfl, hR⟩, j1.unbare, fun b hb => by rw [ho.2.2.2.1]; exact q2 b (j2.k b hb), hs2, hrep, q6.unbare.trans (hk.mono j1.k)⟩
            rw [← hms] at key
            exact ⟨key, key⟩
          have hS : EndsP P G I.bare ρ w (bodyPostM (FR none) 0 P fn fun e w' => ∃ v cv h' I' ρ1, ((e = .returned cv ∧ R v h') ∨ (e = .panicked [{ v := cv, recovered := false }] ∧ S v h')) ∧ Imm.le I I' ∧ (∀ b, I' b → b < w'.heap.size) ∧ HSim I' w' (ρ ++ ρ1) h' ∧ Rep w' I' (ρ ++ ρ1) v cv ∧ Keep I w w') S := by
            intro v st hS
            have key : ∀ t, PanQ P G I.bare ρ w (bodyPostM (FR none) 0 P fn fun e w' => ∃ v cv h' I' ρ1, ((e = .returned cv ∧ R v h') ∨ (e = .panicked [{ v := cv, recovered := false }] ∧ S v h')) ∧ Imm.le I I' ∧ (∀ b, I' b → b < w'.heap.size) ∧ HSim I' w' (ρ ++ ρ1) h' ∧ Rep w' I' (ρ ++ ρ1) v cv ∧ Keep I w w') v ⟨t, st.h⟩ := by
              intro t a w' v' hx
              obtain ⟨I', ρ1, q1, q2, q3, q4, ⟨ms, hms, q5⟩, q6, q7, q8⟩ := hx
              have hms : a.defers = ms := by rw [hms]; exact List.append_nil ms
              show LeavesInM (FR none) 0 P fn a.tmps _ a.defers (.panicking [{ v := v', recovered := false }]) w'
              rw [hms]
              refine marks_leaveP q5 fun w2 ho => ?_
              obtain ⟨J, j1, j2, j3, j4, j5, j6, _⟩ := q5.base q1
              have hk := ho.keep (I := J) q5 j6
              have hsJ : HSim J w' (ρ ++ ρ1) st.h := q3.reI j5 (fun k b o hd hr => by
                obtain ⟨b2, o2, k1, k2, _⟩ := OS.lt (q3.live k) hd
                rw [hr] at k1; cases k1
                exact fun hj => k2 (j2.k _ hj)) j2.P.symm
              have hs2 : HSim J w2 (ρ ++ ρ1) st.h := hsJ.keep hk fun k b o hd hr => by
                obtain ⟨b2, o2, k1, k2, _⟩ := OS.lt (q3.live k) hd
                rw [hr] at k1; cases k1
                exact ho.2.2.2.2 b fun d hd2 e => by
                  obtain ⟨b', m1, m2, _⟩ := q5.mem d hd2
                  rw [m1] at e; cases e; exact k2 m2
              exact ⟨v, v', st.h, J, ρ1, .inr ⟨rfl, hS⟩, j1.unbare, fun b hb => by rw [ho.2.2.2.1]; exact q2 b (j2.k b hb), hs2, (q8.imm j5).keep hk, q6.unbare.trans (hk.mono j1.k)⟩
            exact ⟨fun hT => (by cases hT), fun _ t => key t⟩
          have := hrun I.bare ρ w _ hs.len hQ hS
          refine (this _ (KW.c hec (fun h => by cases h) KW.nil) _ w ⟨I, [], Imm.le.bare I, hI, by simpa using hs, ?_, ⟨[], rfl, trivial⟩, Keep.refl I.bare w, hg⟩)
          simp only [List.append_nil]
          rw [padT_eq]
          have hl : args.length = cargs.size := by simpa using ha.length
          have : (cargs ++ Array.replicate (fn.ntmps - cargs.size) undef).toList = cargs.toList ++ List.replicate (fn.ntmps - cargs.size) undef := by simp
          rw [this, hl]
          refine ha.app (RepL.mk (by simp) fun j x v hx hv => ?_)
          simp only [List.getElem?_replicate] at hx hv
          split at hx
          · rename_i hlt
            rw [if_pos hlt] at hv
            cases hx; cases hv; exact .lit _ _
          · cases hx
        · cases hc
      · cases hc
/-- **A function's contract, out of its code.** -/
theorem Tri_of {f : FuncId} {fc : FC} {args : List EV} {h : EH} {R : EV → EH → Prop} (hc : compF P f = some fc)
    (hrun : ∀ (I0 : Imm) (ρ0 : Ren) (w0 : World) (Q : Exit → Act → World → Prop), ρ0.length = sizeH h → EndsQ P G I0 ρ0 w0 Q (FinR fc.rs R) → OKs P G none I0 ρ0 w0 Q [.c fc.body] ⟨padT args fc.ntmps, h⟩) :
    Tri P G f args h R :=
  (TriX_of (S := fun _ _ => False) hc fun I0 ρ0 w0 Q h1 h2 _ => hrun I0 ρ0 w0 Q h1 h2).tri fun _ _ h => h
/-- What comes back, renumbered and frozen. -/
theorem TriG.mv {f : FuncId} {args : List EV} {h : EH} {R R' : Bool → EV → EH → Prop} (t : TriG P G f args h R)
    (k : ∀ b v h', R b v h' → ∃ σ fr, σ.take (sizeH h) = List.range (sizeH h) ∧ okMv σ fr h' ∧ R' b (mvE (mvG σ fr) (mvZ fr h') v) (mvH σ fr h' σ)) : TriG P G f args h R' :=
  fun I ρ w cargs a b c d => (t I ρ w cargs a b c d).mono fun e w' ⟨bb, v, cv, h', I', ρ1, q1, q2, q3, q4, q5, q6, q7⟩ => by
    obtain ⟨σ, fr, k1, k2, k3⟩ := k bb v h' q2
    obtain ⟨J, j1, j2, j3, j4, j5⟩ := mv_sim q5 q4 k2
    have hl : ρ.length = sizeH h := b.len
    have hren : renOf (ρ ++ ρ1) σ = ρ ++ renOf (ρ ++ ρ1) (σ.drop ρ.length) := by
      have : σ = List.range ρ.length ++ σ.drop ρ.length := by rw [hl, ← k1]; exact (List.take_append_drop _ _).symm
      conv => lhs; rw [this]
      simp only [renOf, List.map_append]
      congr 1
      apply List.ext_getElem?
      intro i
      by_cases hi : i < ρ.length
      · simp [hi, List.getElem?_append_left hi]
      · simp [hi]
    exact ⟨bb, _, cv, _, J, _, q1, k3, q3.trans j1, j2, by rw [← hren]; exact j4, by rw [← hren]; exact j5 _ _ q6, q7⟩
theorem Tri.mv {f : FuncId} {args : List EV} {h : EH} {R R' : EV → EH → Prop} (t : Tri P G f args h R)
    (k : ∀ v h', R v h' → ∃ σ fr, σ.take (sizeH h) = List.range (sizeH h) ∧ okMv σ fr h' ∧ R' (mvE (mvG σ fr) (mvZ fr h') v) (mvH σ fr h' σ)) : Tri P G f args h R' :=
  ((t.g.mv (R' := fun b v h' => b = true ∧ R' v h') fun b v h' ⟨e, hr⟩ => let ⟨σ, fr, k1, k2, k3⟩ := k v h' hr; ⟨σ, fr, k1, k2, e, k3⟩).tri fun _ _ x => by cases x.1).mono fun _ _ x => x.2
theorem TriX.mv {f : FuncId} {args : List EV} {h : EH} {R R' S S' : EV → EH → Prop} (t : TriX P G f args h R S)
    (k : ∀ v h', R v h' → ∃ σ fr, σ.take (sizeH h) = List.range (sizeH h) ∧ okMv σ fr h' ∧ R' (mvE (mvG σ fr) (mvZ fr h') v) (mvH σ fr h' σ))
    (g : ∀ v h', S v h' → ∃ σ fr, σ.take (sizeH h) = List.range (sizeH h) ∧ okMv σ fr h' ∧ S' (mvE (mvG σ fr) (mvZ fr h') v) (mvH σ fr h' σ)) : TriX P G f args h R' S' :=
  ((t.g.mv (R' := fun b v h' => (b = true ∧ R' v h') ∨ (b = false ∧ S' v h')) fun b v h' hx => by
    rcases hx with ⟨e, hr⟩ | ⟨e, hr⟩
    · obtain ⟨σ, fr, k1, k2, k3⟩ := k v h' hr; exact ⟨σ, fr, k1, k2, .inl ⟨e, k3⟩⟩
    · obtain ⟨σ, fr, k1, k2, k3⟩ := g v h' hr; exact ⟨σ, fr, k1, k2, .inr ⟨e, k3⟩⟩).x).mono (fun _ _ x => (x.resolve_right fun y => by cases y.1).2) fun _ _ x => (x.resolve_left fun y => by cases y.1).2
theorem mvL_repM {w : World} {J I : Imm} {ρ ρ' : Ren} {g z} : ∀ {t : List EV} {us : List Value}, (∀ e v, e ∈ t → Rep w I ρ e v → Rep w J ρ' (mvE g z e) v) → RepL w I ρ t us → RepL w J ρ' (mvL g z t) us
  | [], [], _, _ => by simp [mvL, RepL]
  | _ :: _, _ :: _, h, hr => by simp only [mvL]; exact ⟨h _ _ (by simp) hr.1, mvL_repM (fun e v he => h e v (by simp [he])) hr.2⟩
/-- a caller's memory behind a call -/
def appH (g : Nat → Option Nat) (h : EH) : EH → EH
  | [] => h
  | o :: l => appH g (pushH h (mvO g (fun _ => none) o)) l
theorem appH_size (g) : ∀ (l : EH) (h : EH), sizeH (appH g h l) = sizeH h + sizeH l
  | [], h => by simp [appH, sizeH]
  | o :: l, h => by simp [appH, appH_size g l, sizeH_push, sizeH]; omega
theorem appH_get (g) : ∀ (l : EH) (h : EH) (i : Nat), getH (appH g h l) i = if i < sizeH h then getH h i else mvO g (fun _ => none) (getH l (i - sizeH h))
  | [], h, i => by
    simp only [appH, getH, mvO]
    split
    · rfl
    · exact getH_ge h i (by omega)
  | o :: l, h, i => by
    rw [appH, appH_get g l, sizeH_push]
    rcases Nat.lt_trichotomy i (sizeH h) with hlt | heq | hgt
    · rw [if_pos (by omega), if_pos hlt, getH_push_lt h _ i hlt]
    · subst heq; rw [if_pos (by omega), if_neg (by omega), getH_push_at]; simp [getH]
    · rw [if_neg (by omega), if_neg (by omega)]
      obtain ⟨k, hk⟩ : ∃ k, i - sizeH h = k + 1 := ⟨i - sizeH h - 1, by omega⟩
      rw [hk, show i - (sizeH h + 1) = k by omega]; rfl
def niO : EO → Bool
  | .dead => true
  | .blk c => niL c
  | .emap es => es.all fun p => niE p.1 && niE p.2
  | .lp t _ _ _ _ _ => niL t
  | .row _ | .itr _ _ => true
def niH : EH → Bool
  | [] => true
  | o :: l => niO o && niH l
theorem niH_get : ∀ {h : EH}, niH h = true → ∀ id, niO (getH h id) = true
  | [], _, _ => rfl
  | o :: l, h, 0 => by simp [niH] at h; exact h.1
  | o :: l, h, id + 1 => by simp [niH] at h; exact niH_get h.2 id
def shG (n : Nat) (i : Nat) : Option Nat := some (n + i)
/-- **A call that reaches none of its caller's memory but what is frozen for it (fr), for the time of the call where nothing handed in comes back.** -/
theorem TriG.frame {f : FuncId} {args : List EV} {h : EH} {R : Bool → EV → EH → Prop} (fr : List Nat) (hfr : ∀ id ∈ fr, ∃ c, getH h id = .blk c ∧ clL c = true)
    (t : TriG P G f (mvL (mvG [] fr) (mvZ fr h) args) [] R) (hni : fr = [] ∨ ∀ b v h', R b v h' → niE v = true ∧ niH h' = true) :
    TriG P G f args h fun b v h' => ∃ v0 h0, R b v0 h0 ∧ v = mvE (shG (sizeH h)) (fun _ => none) v0 ∧ h' = appH (shG (sizeH h)) h h0 := by
  intro I ρ w cargs hI hs ha hg
  obtain ⟨J, j1, j2, j3, j4, j5⟩ := mv_sim (σ := []) hs hI ⟨by simp, by simp, hfr⟩
  let L : Nat → Prop := fun b => ∃ id o, ρ[id]? = some (b, o) ∧ getH h id ≠ .dead
  have hL : ∀ b, L b → ¬ I b ∧ b < w.heap.size := fun b ⟨id, o, hr, hd⟩ => by
    obtain ⟨b', o', h1, h2, h3⟩ := OS.lt (hs.live id) hd
    rw [hr] at h1; cases h1
    exact ⟨h2, h3⟩
  let I1 : Imm := ⟨fun b => I b ∨ L b, J.j, fun b hb => by
    rcases j3 b (J.sub b hb) with h1 | ⟨id, _, o, hr, hd⟩
    · exact .inl h1
    · exact .inr ⟨id, o, hr, hd⟩, I.P, I.D, I.T⟩
  have hI1 : ∀ b, I1 b → b < w.heap.size := fun b hb => hb.elim (hI b) fun hl => (hL b hl).2
  have hs1 : HSim I1 w [] [] := ⟨rfl, fun id => trivial, fun i j b o o' hi => absurd rfl hi⟩
  have ha1 : RepL w I1 [] (mvL (mvG [] fr) (mvZ fr h) args) cargs.toList := mvL_rep (J := I1) (ρ' := []) (fun e v hr => Rep.imm (I := J) (J := I1) (j5 e v hr) fun _ hb => hb) ha
  refine (t I1 [] w cargs hI1 hs1 ha1 ⟨fun g c hg' ρ => (hg.1 g c hg' ρ).imm j1.j, hg.2⟩).mono fun e w' ⟨bb, v, cv, h', I', ρ1, q1, q2, q3, q4, q5, q6, q7⟩ => ?_
  simp only [List.nil_append] at q5 q6
  have hkeep : Keep I w w' := q7.mono fun b hb => .inl hb
  -- what is kept behind the call
  have fin : ∀ I2 : Imm, Imm.le I I2 → (∀ b, I2 b → b < w'.heap.size) → (∀ b, ¬ I' b → ¬ I2 b) → (∀ b, L b → ¬ I2 b) →
      (∀ e v, ((∃ id, ∃ c, (getH h' id = .blk c ∨ ∃ ps asg body st pd, getH h' id = .lp c ps asg body st pd) ∧ e ∈ c) ∨ (∃ id es, getH h' id = .emap es ∧ ∃ p ∈ es, e = p.1 ∨ e = p.2) ∨ R bb e h') → Rep w' I' ρ1 e v → Rep w' I2 ρ1 e v) →
      ∃ b v cv h' I' ρ1, e = endE b cv ∧ (∃ v0 h0, R b v0 h0 ∧ v = mvE (shG (sizeH h)) (fun _ => none) v0 ∧ h' = appH (shG (sizeH h)) h h0) ∧ Imm.le I I' ∧ (∀ b, I' b → b < w'.heap.size) ∧ HSim I' w' (ρ ++ ρ1) h' ∧
        Rep w' I' (ρ ++ ρ1) v cv ∧ Keep I w w' := by
    intro I2 hle hsz h2 h3 h4
    have back : ∀ e v, Rep w' I2 ρ1 e v → Rep w' I2 (ρ ++ ρ1) (mvE (shG (sizeH h)) (fun _ => none) e) v := fun e v hr =>
      mv_rep (fun b hb => hb) (fun id i x hg hx => by
        cases hg
        rw [List.getElem?_append_right (by rw [hs.len]; omega), hs.len, Nat.add_sub_cancel_left]; exact hx) (fun id c b o hgn => by cases hgn) hr
    refine ⟨bb, _, cv, _, I2, ρ1, q1, ⟨v, h', q2, rfl, rfl⟩, hle, hsz, ⟨?_, fun id => ?_, fun i j b o o' hi hj h1 h2' => ?_⟩, back _ _ (h4 _ _ (.inr (.inr q2)) q6), hkeep⟩
    · simp [appH_size, hs.len, q5.len]
    · rw [appH_get]
      split
      · rename_i hlt
        have hos := hs.live id
        cases hk : getH h id with
        | dead => trivial
        | blk c =>
          rw [hk] at hos
          obtain ⟨b, o, cs, e, fz, k1, k2, k3, k4, k5, k6⟩ := hos
          have hLb : L b := ⟨id, o, k1, by rw [hk]; simp⟩
          refine ⟨b, o, cs, e, fz, getElem?_app k1, h3 b hLb, by rw [q7.same b (.inr hLb)]; exact k3, k4, k5, fun j x hx => ?_⟩
          obtain ⟨u, p1, p2, p3⟩ := k6 j x hx
          exact ⟨u, p1, p2, ((p3.keep hkeep).imm hle.j).ext ρ1⟩
        | emap es =>
          rw [hk] at hos
          obtain ⟨b, o, ents, cl, k1, k2, k3, k4, k5⟩ := hos
          have hLb : L b := ⟨id, o, k1, by rw [hk]; simp⟩
          refine ⟨b, o, ents, cl, getElem?_app k1, h3 b hLb, by rw [q7.same b (.inr hLb)]; exact k3, k4, fun j x hx => ?_⟩
          obtain ⟨u, p1, p2, p3⟩ := k5 j x hx
          exact ⟨u, p1, ((p2.keep hkeep).imm hle.j).ext ρ1, ((p3.keep hkeep).imm hle.j).ext ρ1⟩
        | lp t ps asg body st pd =>
          rw [hk] at hos
          obtain ⟨b, r, k1, k2, k3, k4, k5, k6, k7, k8⟩ := hos
          have hLb : L b := ⟨id, 0, k1, by rw [hk]; simp⟩
          exact ⟨b, r, getElem?_app k1, h3 b hLb, by rw [q7.same b (.inr hLb)]; exact k3, k4.map fun _ _ x => ((x.keep hkeep).imm hle.j).ext ρ1, k5, by rw [hle.P]; exact k6, by rw [hle.P]; exact k7, k8⟩
        | row s0 =>
          rw [hk] at hos
          obtain ⟨b, o, cs, e, fz, k1, k2, k3, k4, k5, k6⟩ := hos
          have hLb : L b := ⟨id, o, k1, by rw [hk]; simp⟩
          exact ⟨b, o, cs, e, fz, getElem?_app k1, h3 b hLb, by rw [q7.same b (.inr hLb)]; exact k3, by rw [hle.P]; exact k4, by rw [hle.P]; exact k5, k6⟩
        | itr s0 p =>
          rw [hk] at hos
          obtain ⟨b, k1, k2, k3⟩ := hos
          have hLb : L b := ⟨id, 0, k1, by rw [hk]; simp⟩
          exact ⟨b, getElem?_app k1, h3 b hLb, by rw [q7.same b (.inr hLb)]; exact k3⟩
      · rename_i hge
        have hos := q5.live (id - sizeH h)
        have hr : ∀ x, ρ1[id - sizeH h]? = some x → (ρ ++ ρ1)[id]? = some x := fun x hx => by
          rw [List.getElem?_append_right (by rw [hs.len]; omega), hs.len]; exact hx
        cases hk : getH h' (id - sizeH h) with
        | dead => trivial
        | blk c =>
          rw [hk] at hos
          obtain ⟨b, o, cs, e, fz, k1, k2, k3, k4, k5, k6⟩ := hos
          refine ⟨b, o, cs, e, fz, hr _ k1, h2 b k2, k3, k4, by rw [mvL_length]; exact k5, fun j x hx => ?_⟩
          rw [mvL_get] at hx
          obtain ⟨x0, hx0, rfl⟩ := Option.map_eq_some_iff.1 hx
          obtain ⟨u, p1, p2, p3⟩ := k6 j x0 hx0
          exact ⟨u, p1, p2, back _ _ (h4 _ _ (.inl ⟨_, c, .inl hk, List.mem_of_getElem? hx0⟩) p3)⟩
        | emap es =>
          rw [hk] at hos
          obtain ⟨b, o, ents, cl, k1, k2, k3, k4, k5⟩ := hos
          refine ⟨b, o, ents, cl, hr _ k1, h2 b k2, k3, by rw [mvM_length]; exact k4, fun j x hx => ?_⟩
          rw [mvM_get] at hx
          obtain ⟨x0, hx0, rfl⟩ := Option.map_eq_some_iff.1 hx
          obtain ⟨u, p1, p2, p3⟩ := k5 j x0 hx0
          exact ⟨u, p1, back _ _ (h4 _ _ (.inr (.inl ⟨_, es, hk, x0, List.mem_of_getElem? hx0, .inl rfl⟩)) p2), back _ _ (h4 _ _ (.inr (.inl ⟨_, es, hk, x0, List.mem_of_getElem? hx0, .inr rfl⟩)) p3)⟩
        | lp t ps asg body st pd =>
          rw [hk] at hos
          obtain ⟨b, r, k1, k2, k3, k4, k5, k6, k7, k8⟩ := hos
          have hPP : I2.P = I'.P := by rw [hle.P, q3.P]
          exact ⟨b, r, hr _ k1, h2 b k2, k3, mvL_repM (fun e u he x => back _ _ (h4 e u (.inl ⟨_, t, .inr ⟨_, _, _, _, _, hk⟩, he⟩) x)) k4, k5, by rw [hPP]; exact k6, by rw [hPP]; exact k7, k8⟩
        | row s0 =>
          rw [hk] at hos
          obtain ⟨b, o, cs, e, fz, k1, k2, k3, k4, k5, k6⟩ := hos
          have hPP : I2.P = I'.P := by rw [hle.P, q3.P]
          exact ⟨b, o, cs, e, fz, hr _ k1, h2 b k2, k3, by rw [hPP]; exact k4, by rw [hPP]; exact k5, k6⟩
        | itr s0 p =>
          rw [hk] at hos
          obtain ⟨b, k1, k2, k3⟩ := hos
          exact ⟨b, hr _ k1, h2 b k2, k3⟩
    · -- apart
      have old : ∀ k b o, k < sizeH h → getH (appH (shG (sizeH h)) h h') k ≠ .dead → (ρ ++ ρ1)[k]? = some (b, o) → ρ[k]? = some (b, o) ∧ getH h k ≠ .dead := fun k b o hk hd hr => by
        rw [appH_get, if_pos hk] at hd
        rw [List.getElem?_append_left (by rw [hs.len]; exact hk)] at hr
        exact ⟨hr, hd⟩
      have new : ∀ k b o, ¬ k < sizeH h → getH (appH (shG (sizeH h)) h h') k ≠ .dead → (ρ ++ ρ1)[k]? = some (b, o) → ρ1[k - sizeH h]? = some (b, o) ∧ getH h' (k - sizeH h) ≠ .dead ∧ ¬ L b := fun k b o hk hd hr => by
        rw [appH_get, if_neg hk] at hd
        rw [List.getElem?_append_right (by rw [hs.len]; omega), hs.len] at hr
        have hd' : getH h' (k - sizeH h) ≠ .dead := fun he => by rw [he] at hd; exact hd rfl
        obtain ⟨b', o', p1, p2, _⟩ := OS.lt (q5.live _) hd'
        rw [hr] at p1; cases p1
        exact ⟨hr, hd', fun hl => p2 (q3.k b (.inr hl))⟩
      by_cases hil : i < sizeH h <;> by_cases hjl : j < sizeH h
      · obtain ⟨a1, a2⟩ := old i b o hil hi h1
        obtain ⟨b1, b2⟩ := old j b o' hjl hj h2'
        exact hs.inj i j b o o' a2 b2 a1 b1
      · obtain ⟨a1, a2⟩ := old i b o hil hi h1
        obtain ⟨b1, b2, b3⟩ := new j b o' hjl hj h2'
        exact absurd ⟨i, o, a1, a2⟩ b3
      · obtain ⟨a1, a2, a3⟩ := new i b o hil hi h1
        obtain ⟨b1, b2⟩ := old j b o' hjl hj h2'
        exact absurd ⟨j, o', b1, b2⟩ a3
      · obtain ⟨a1, a2, _⟩ := new i b o hil hi h1
        obtain ⟨b1, b2, _⟩ := new j b o' hjl hj h2'
        have := q5.inj _ _ b o o' a2 b2 a1 b1
        omega
  have hJ : ∀ b, J.j b → fr = [] → I.j b := fun b hb he => by
    rcases j1.new b hb with h1 | h1
    · exact h1
    · rcases j3 b (J.sub b hb) with h2 | ⟨id, hid, _⟩
      · exact absurd h2 h1
      · rw [he] at hid; cases hid
  rcases hni with hfr0 | hni
  · -- nothing is frozen for the time of the call
    have hjnew : ∀ b, I'.j b → I.j b ∨ ¬ I1.k b := fun b hb => (q3.new b hb).imp (fun h1 => hJ b h1 hfr0) id
    let I2 : Imm := ⟨fun b => I b ∨ (I' b ∧ ¬ L b), I'.j, fun b hb => by
      rcases hjnew b hb with h1 | h1
      · exact .inl (I.sub b h1)
      · exact .inr ⟨I'.sub b hb, fun hl => h1 (.inr hl)⟩, I.P, I.D, I.T⟩
    refine fin I2 ⟨fun b hb => .inl hb, fun b hb => q3.j b (j1.j b hb), fun b hb => ?_, rfl⟩ (fun b hb => ?_) (fun b hb hb2 => ?_) (fun b hb hb2 => ?_) (fun e v _ hr => hr.imm fun b hb => hb)
    · rcases hjnew b hb with h1 | h1
      · exact .inl h1
      · exact .inr fun hk => h1 (.inl hk)
    · rcases hb with hb | hb
      · exact Nat.lt_of_lt_of_le (hI b hb) hkeep.size
      · exact q4 b hb.1
    · rcases hb2 with hb2 | hb2
      · exact hb (q3.k b (.inl hb2))
      · exact hb hb2.1
    · rcases hb2 with hb2 | hb2
      · exact (hL b hb).1 hb2
      · exact hb2.2 hb
  · obtain ⟨n1, n2⟩ := hni bb v h' q2
    refine fin I (Imm.le.refl I) (fun b hb => Nat.lt_of_lt_of_le (hI b hb) hkeep.size) (fun b hb hb2 => hb (q3.k b (.inl hb2))) (fun b hb => (hL b hb).1) (fun e u he hr => niE_rep I hr ?_)
    rcases he with ⟨id, c, hk | ⟨ps, asg, body, st, pd, hk⟩, hm⟩ | ⟨id, es, hk, p, hp, he⟩ | he
    · have := niH_get n2 id
      rw [hk] at this
      obtain ⟨j, hj⟩ := List.getElem?_of_mem hm
      exact niL_get this j e hj
    · have := niH_get n2 id
      rw [hk] at this
      obtain ⟨j, hj⟩ := List.getElem?_of_mem hm
      exact niL_get this j e hj
    · have := niH_get n2 id
      rw [hk] at this
      simp only [niO, List.all_eq_true, Bool.and_eq_true] at this
      rcases he with rfl | rfl
      · exact (this p hp).1
      · exact (this p hp).2
    · exact (hni bb e h' he).1
theorem Tri.frame {f : FuncId} {args : List EV} {h : EH} {R : EV → EH → Prop} (fr : List Nat) (hfr : ∀ id ∈ fr, ∃ c, getH h id = .blk c ∧ clL c = true)
    (t : Tri P G f (mvL (mvG [] fr) (mvZ fr h) args) [] R) (hni : fr = [] ∨ ∀ v h', R v h' → niE v = true ∧ niH h' = true) :
    Tri P G f args h fun v h' => ∃ v0 h0, R v0 h0 ∧ v = mvE (shG (sizeH h)) (fun _ => none) v0 ∧ h' = appH (shG (sizeH h)) h h0 :=
  ((t.g.frame fr hfr (hni.imp id fun k b v h' x => k v h' x.2)).tri fun _ _ ⟨_, _, x, _⟩ => by cases x.1).mono fun _ _ ⟨v0, h0, x, y⟩ => ⟨v0, h0, x.2, y⟩
theorem TriX.frame {f : FuncId} {args : List EV} {h : EH} {R S : EV → EH → Prop} (fr : List Nat) (hfr : ∀ id ∈ fr, ∃ c, getH h id = .blk c ∧ clL c = true)
    (t : TriX P G f (mvL (mvG [] fr) (mvZ fr h) args) [] R S) (hni : fr = [] ∨ (∀ v h', R v h' → niE v = true ∧ niH h' = true) ∧ ∀ v h', S v h' → niE v = true ∧ niH h' = true) :
    TriX P G f args h (fun v h' => ∃ v0 h0, R v0 h0 ∧ v = mvE (shG (sizeH h)) (fun _ => none) v0 ∧ h' = appH (shG (sizeH h)) h h0)
      fun v h' => ∃ v0 h0, S v0 h0 ∧ v = mvE (shG (sizeH h)) (fun _ => none) v0 ∧ h' = appH (shG (sizeH h)) h h0 :=
  (t.g.frame fr hfr (hni.imp id fun k b v h' x => x.elim (fun y => k.1 v h' y.2) fun y => k.2 v h' y.2)).x.mono (fun _ _ ⟨v0, h0, x, y⟩ => ⟨v0, h0, (x.resolve_right fun z => by cases z.1).2, y⟩)
    fun _ _ ⟨v0, h0, x, y⟩ => ⟨v0, h0, (x.resolve_left fun z => by cases z.1).2, y⟩
end
end Go.Proofs.YtpgeonghlabnhaaGreatDoor.Em
