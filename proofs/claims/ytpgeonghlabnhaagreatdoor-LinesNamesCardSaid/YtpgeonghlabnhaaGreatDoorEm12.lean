/- Em12: one operation of the model stands for one instruction; the calls of functions. No conditions beyond those written. -/
import Derived.Test.YtpgeonghlabnhaaGreatDoorEm51
import Derived.KernelRfl
import Derived.Laws.Externs
import Derived.RangeFuncRecord
set_option linter.unusedVariables false
set_option linter.unusedSimpArgs false
namespace Go.Proofs.YtpgeonghlabnhaaGreatDoor.Em
open Go
section
variable {I : Imm} {w : World} {ρ : Ren} {h : EH} {post : EV → EH → Prop} {pc : FuncId → List EV → Prop} {P : Program}
theorem goodF_call {f : FuncId} (hf : goodF P f = true) (args : Array Value) : (callFunc f args).run P w = .ok (.enter f args) w := by
  unfold goodF at hf
  cases hfn : P.funcs[f]? with
  | none => simp [hfn] at hf
  | some fn =>
    simp [hfn] at hf
    have hb : fn.body.isNone = false := by cases hbb : fn.body <;> simp_all
    have hb' : ¬ fn.body = none := by cases hbb : fn.body <;> simp_all
    simp [callFunc, hfn, hf.1.2, hb']
theorem goodF_round : goodF P roundF = false := by
  unfold goodF
  split <;> simp
theorem appL_eq : ∀ (a b : List EV), appL a b = a ++ b
  | [], _ => rfl
  | _ :: a, b => by simp [appL, appL_eq a b]
theorem callv_sound {x : EV} {u : Value} {args : List EV} {us : Array Value} (hx : Rep w I ρ x u) (ha : RepL w I ρ args us.toList)
    (hgood : ∀ f a, pc f a → goodF P f = true ∨ f = roundF) (ok : SROK post pc (callvE x args)) :
    Res I w ρ post pc ((do let d ← Deferred.ofValue u us; invoke d.target d.args : Sem Next).run P w) := by
  unfold callvE at ok
  split at ok
  · rename_i f a b
    split at ok
    · exact ok.elim
    rename_i hnr
    have hnr' : f ≠ roundF := fun e => hnr (by rw [e]; exact Nat.beq_refl _)
    cases hx with
    | fn _ _ _ _ xs ys h1 h2 h3 h4 =>
      have hg := (hgood f _ ok).resolve_right hnr'
      have hxs : RepL w I ρ a xs.toList := RepL.mk (by simpa using h1) fun j e v he hv => h3 j e v he (by simpa using hv)
      have hys : RepL w I ρ b ys.toList := RepL.mk (by simpa using h2) fun j e v he hv => h4 j e v he (by simpa using hv)
      refine .inr (.inl ⟨f, _, xs ++ us ++ ys, ?_, hnr', ok, ?_⟩)
      · simp [Deferred.ofValue, invoke, goodF_call hg]
      · rw [appL_eq, appL_eq]
        have := hxs.app (ha.app hys)
        simpa [List.append_assoc] using this
  · refine .inr (.inr (.inl ⟨_, args, u, us, hx, ha, ok, fun l r hu hl hsz => ?_⟩))
    subst hu
    simp [Deferred.ofValue, invoke, run_yield hl hsz]
  · exact ok.elim
theorem candsP_spec {name : String} {t : TypeId} {f : FuncId} : ∀ (l : List Nat), candOf t (candsP P name l) = some f →
    ∃ i m, P.info? t = some i ∧ i.methods.find? (·.name == name) = some m ∧ m.path = #[] ∧
      ((m.func = some (f, true) ∧ ∃ e, P.underlying t = some (.pointer e)) ∨ (m.func = some (f, false) ∧ ∃ d, P.underlying t = some d ∧ ∀ e, d ≠ .pointer e))
  | [], hc => by simp [candsP, candOf] at hc
  | u :: l, hc => by
    simp only [candsP] at hc
    split at hc
    · rename_i i hi
      split at hc
      · rename_i m hm
        have path : m.path.toList = [] → m.path = #[] := fun hp => by apply Array.ext'; simpa using hp
        split at hc
        · rename_i f' e hp hf he
          simp only [candOf] at hc
          split at hc
          · rename_i heq
            cases hc
            have : u = t := by simpa using heq
            subst this
            exact ⟨i, m, hi, hm, path hp, .inl ⟨hf, e, he⟩⟩
          · exact candsP_spec l hc
        · exact candsP_spec l hc
        · rename_i f' d hnp hp hf hd
          simp only [candOf] at hc
          split at hc
          · rename_i heq
            cases hc
            have : u = t := by simpa using heq
            subst this
            exact ⟨i, m, hi, hm, path hp, .inr ⟨hf, d, hd, fun e he => by subst he; exact hnp e rfl⟩⟩
          · exact candsP_spec l hc
        · exact candsP_spec l hc
      · exact candsP_spec l hc
    · exact candsP_spec l hc
theorem candOf_filter {t : TypeId} {f : FuncId} {g : FuncId → Bool} : ∀ (l : List (TypeId × FuncId)), candOf t (l.filter fun p => g p.2) = some f → g f = true
  | [], hc => by simp [candOf] at hc
  | (u, f') :: l, hc => by
    simp only [List.filter_cons] at hc
    split at hc
    · rename_i hg
      simp only [candOf] at hc
      split at hc
      · cases hc; exact hg
      · exact candOf_filter l hc
    · exact candOf_filter l hc
theorem method_run {name : String} {t : TypeId} {f : FuncId} {v : Value} {l : List Nat} (hc : candOf t (candsP P name l) = some f) (n : Nat) : (method (n + 1) t v name).run P w = .ok (f, v) w := by
  obtain ⟨i, m, hi, hm, hp, hd⟩ := candsP_spec l hc
  rcases hd with ⟨hf, e, hu⟩ | ⟨hf, d, hu, hnp⟩
  · simp [method, typeInfo, hi, hm, hp, follow, hf, receiverAt, run_underlying hu, Place.get]
  · cases d <;> first
      | (exact absurd rfl (hnp _))
      | simp [method, typeInfo, hi, hm, hp, follow, hf, receiverAt, run_underlying hu, Place.get]
theorem candOf_sub {t : TypeId} {f : FuncId} {g : FuncId → Bool} : ∀ (l : List (TypeId × FuncId)), (l.map (·.1)).Nodup → candOf t (l.filter fun p => g p.2) = some f → candOf t l = some f
  | [], _, hc => by simp [candOf] at hc
  | (u, f') :: l, hn, hc => by
    simp only [List.map_cons, List.nodup_cons] at hn
    simp only [List.filter_cons] at hc
    have memb : ∀ (l : List (TypeId × FuncId)), candOf t l = some f → t ∈ l.map (·.1) := by
      intro l
      induction l with
      | nil => intro hc; simp [candOf] at hc
      | cons p l ih =>
        intro hc
        simp only [candOf] at hc
        split at hc
        · rename_i he
          have : p.1 = t := by simpa using he
          simp [this]
        · simp [ih hc]
    split at hc
    · simp only [candOf] at hc ⊢
      split at hc
      · rename_i he; simp [he]; exact Option.some.inj hc
      · rename_i he; simp [he]; exact candOf_sub l hn.2 hc
    · have hl := candOf_sub l hn.2 hc
      have hne : u ≠ t := fun e => hn.1 (e ▸ memb l hl)
      simp only [candOf]
      rw [if_neg (by simpa using hne)]
      exact hl
theorem candsP_nodup {name : String} : ∀ (l : List Nat), l.Nodup → ((candsP P name l).map (·.1)).Nodup ∧ ∀ u ∈ (candsP P name l).map (·.1), u ∈ l
  | [], _ => by simp [candsP]
  | t :: l, hn => by
    simp only [List.nodup_cons] at hn
    obtain ⟨h1, h2⟩ := candsP_nodup (name := name) l hn.2
    have add : ∀ f : FuncId, (((t, f) :: candsP P name l).map (·.1)).Nodup ∧ ∀ u ∈ ((t, f) :: candsP P name l).map (·.1), u ∈ t :: l := by
      intro f
      refine ⟨?_, ?_⟩
      · simp only [List.map_cons, List.nodup_cons]
        exact ⟨fun hm => hn.1 (h2 t hm), h1⟩
      · intro u hu
        simp only [List.map_cons, List.mem_cons] at hu ⊢
        rcases hu with rfl | hu
        · exact .inl rfl
        · exact .inr (h2 u hu)
    have keep : ((candsP P name l).map (·.1)).Nodup ∧ ∀ u ∈ (candsP P name l).map (·.1), u ∈ t :: l := ⟨h1, fun u hu => by simp [h2 u hu]⟩
    simp only [candsP]
    split
    · split
      · split
        · exact add _
        · exact keep
        · exact add _
        · exact keep
      · exact keep
    · exact keep
theorem invoke_sound {x : EV} {u : Value} {name : String} {args : List EV} {us : Array Value} (hx : Rep w I ρ x u) (ha : RepL w I ρ args us.toList)
    (ok : SROK post pc (invokeE x ((candsP P name (List.range P.types.size)).filter fun p => goodF P p.2) args)) :
    Res I w ρ post pc ((invoke (.fn (.method name) #[]) (#[u] ++ us)).run P w) := by
  unfold invokeE at ok
  split at ok
  · rename_i ty v
    split at ok
    · rename_i f hf
      cases hx with
      | iface _ _ _ v' hv =>
        have hgood := candOf_filter _ hf
        have hc := candOf_sub _ (candsP_nodup (P := P) (name := name) _ List.nodup_range).1 hf
        refine .inr (.inl ⟨f, _, #[v'] ++ us, ?_, (fun e => by rw [e, goodF_round] at hgood; cases hgood), ok, ?_⟩)
        · have hm : ∀ n, (method (n + Made.depth) ty v' name).run P w = .ok (f, v') w := by
            intro n
            have : ∃ m, n + Made.depth = m + 1 := ⟨n + Made.depth - 1, by have : 0 < Made.depth := by decide
                                                                          omega⟩
            obtain ⟨m, hm⟩ := this
            rw [hm]; exact method_run hc m
          have h0 : (#[Value.iface ty v'] ++ us)[0]? = some (.iface ty v') := by simp [Array.getElem?_append]
          simp [invoke, h0, callMethod, hm, goodF_call hgood]
        · simp only [Array.toList_append]
          exact ⟨hv, ha⟩
    · exact ok.elim
  · exact ok.elim
theorem exec_v {S : Sem Value} : ((do Pure.pure (Next.value (← S))) : Sem Next).run P w = (S.run P w).andThen fun a w' => .ok (.value a) w' := Sem.run_bind P w S _
theorem optMap_list {α β : Type} (f : α → β) (o : Option α) : (o.map f) = match o with | some x => some (f x) | none => none := by cases o <;> rfl
theorem find_noEsc {fn : Func} (hn : fn.name = "internal/abi.NoEscape") : Extern.find fn = some Extern.AbiNoEscape.same := by
  have h1 : Extern.allGenericRows.lookup "internal/abi.NoEscape" = none := by kernel_rfl
  have h2 : Extern.allTypedRows.lookup "internal/abi.NoEscape" = none := by kernel_rfl
  have h3 : Extern.allRows.lookup "internal/abi.NoEscape" = some Extern.AbiNoEscape.same := by kernel_rfl
  unfold Extern.find
  simp only [hn, h1, h2, h3]
  rfl
/-- One operation. -/
theorem step_sound {o : Oper} {ei : EI} {a : Act} {t : List EV} {G : List (List EV)} (hc : compOp P o.op = some ei) (hg : Glob w I G) (ht : RepL w I ρ t a.tmps.toList)
    (hs : HSim I w ρ h) (hI : ∀ b, I b → b < w.heap.size) (hP : I.P = P) (hpc : ∀ f args, pc f args → goodF P f = true ∨ f = roundF) (ok : SROK post pc (stepI stdA G t h ei)) :
    Res I w ρ post pc ((execOp a.eval o).run P w) := by
  obtain ⟨dst, op, type, pos, after, guard⟩ := o
  have ev := fun x => evalO_rep (w := w) (I := I) (ρ := ρ) hg ht x
  have evl := fun l => evalL_rep (w := w) (I := I) (ρ := ρ) hg ht l
  simp only at hc
  cases op <;> simp only [compOp] at hc
  case move x => cases hc; exact Res.pure hs rfl ok (ev x)
  case assign x => cases hc; exact Res.pure hs rfl ok (ev x)
  case pick c x y =>
    cases hc
    have h1 := ev c
    simp only [stepI, pickE] at ok
    simp only [execOp]
    split at ok
    · rename_i he; rw [he] at h1; generalize a.eval c = cv at h1; cases h1
      exact Res.pure hs (by simp [asBool]) ok (ev x)
    · rename_i he; rw [he] at h1; generalize a.eval c = cv at h1; cases h1
      exact Res.pure hs (by simp [asBool]) ok (ev y)
    · rename_i v he; rw [he] at h1; generalize a.eval c = cv at h1; cases h1
      cases v with
      | true => exact Res.pure hs (by simp [asBool]) (ok.1 rfl) (ev x)
      | false => exact Res.pure hs (by simp [asBool]) (ok.2 rfl) (ev y)
    · exact ok.elim
  case alloc e =>
    cases hz : zeP P e with
    | none => simp [hz] at hc
    | some z =>
      simp only [hz] at hc
      split at hc
      · rename_i hb
        simp only [Bool.and_eq_true] at hb
        split at hc
        · rename_i n hn
          split at hc
          · rename_i hzn
            cases hc
            simpa [execOp] using allocB_sound hz hb.1.2 hb.2 (by simpa using hzn) hs hI ok
          · cases hc
        · cases hc
      · cases hc; simpa [execOp] using alloc_sound hz hs hI ok
  case box e x =>
    split at hc
    · split at hc
      · cases hc; simpa [execOp] using boxB_sound (e := e) (P := P) hs hI (ev x) ok
      · cases hc
    · cases hc; simpa [execOp] using box_sound (e := e) (P := P) hs hI (ev x) ok
  case build ty ps =>
    split at hc
    · rename_i z fs hz hu
      split at hc
      · rename_i places hp
        split at hc
        · rename_i l hl
          cases hc
          simp only [stepI] at ok
          split at ok
          · rename_i c hcc
            obtain ⟨vs, hr, hrl⟩ := buildStruct_sound (P := P) hg ht hz hu hp hl hcc
            exact Res.pure hs (by simp [execOp, hr]) ok (agg_of_list hrl)
          · exact ok.elim
        · cases hc
      · cases hc
    · rename_i z m e hz hu
      split at hc
      · rename_i n hn
        split at hc
        · rename_i l hl
          cases hc
          simp only [stepI] at ok
          split at ok
          · rename_i c hcc
            obtain ⟨vs, hr, hrl⟩ := buildArray_sound (P := P) hg ht hz hu hn hl hcc
            exact Res.pure hs (by simp [execOp, hr]) ok (agg_of_list hrl)
          · exact ok.elim
        · cases hc
      · cases hc
    · cases hc
  case buildSlice ty len ps =>
    split at hc
    · rename_i e hu
      split at hc
      · rename_i n z hn hz
        split at hc
        · cases hc
        · rename_i hlim
          split at hc
          · rename_i l hl
            cases hc
            simp only [stepI] at ok
            split at ok
            · rename_i c hcc
              split at ok
              · rename_i hone
                have hlim' : ¬ (n = 0 ∨ len * n > 2 ^ 24) := by simpa using hlim
                simpa [execOp] using buildSlice_sound (P := P) hg ht hz hu hn hlim' hl hcc hs hI hone ok
              · exact ok.elim
            · exact ok.elim
          · cases hc
      · cases hc
    · cases hc
  case load ty x =>
    split at hc
    · rename_i n ha hsz; cases hc
      exact (by simpa [execOp] using Looks.res (pc := pc) hs (load_sound ha (fun _ => hsz) hs (ev x) ok))
    · rename_i ha; cases hc
      exact (by simpa [execOp] using Looks.res (pc := pc) hs (load_sound ha (fun h => by cases h) hs (ev x) ok))
    · cases hc
  case store ty x v =>
    cases hsz : szP P ty with
    | none => simp [hsz] at hc
    | some n =>
      simp [hsz] at hc; subst hc
      obtain ⟨w', h', hr, hp, hk, hsim⟩ := store_sound hsz hs (ev x) (ev v) ok
      exact .inl ⟨_, undef, h', w', [], .inr ⟨by simp [execOp, hr], rfl⟩, hp, hk, by rw [List.append_nil]; exact hsim, .lit _ _⟩
  case nilCheck x => cases hc; exact nilCheck_sound hs (ev x) ok (x := x) rfl rfl
  case binOp op ty x y yt =>
    split at hc
    · rename_i ms hu
      split at hc
      · rename_i hcc; cases hc
        show Res I w ρ post pc ((do Pure.pure (Next.value (← (do eqGuard op ty x y (a.eval x) (a.eval y); binOp op ty (a.eval x) (a.eval y)))) : Sem Next).run P w)
        rw [exec_v]
        exact Looks.res (pc := pc) hs (bin_sound (P := P) hu (fun _ _ => hcc) (ev x) (ev y) ok)
      · cases hc
        show Res I w ρ post pc ((do Pure.pure (Next.value (← (do eqGuard op ty x y (a.eval x) (a.eval y); binOp op ty (a.eval x) (a.eval y)))) : Sem Next).run P w)
        rw [exec_v]
        exact Looks.res (pc := pc) hs (ieq_sound (P := P) hu (fun t1 => intTs_spec) (ev x) (ev y) ok)
    · rename_i el hu
      split at hc
      · cases hc
        show Res I w ρ post pc ((do Pure.pure (Next.value (← (do eqGuard op ty x y (a.eval x) (a.eval y); binOp op ty (a.eval x) (a.eval y)))) : Sem Next).run P w)
        rw [exec_v]
        exact Looks.res (pc := pc) hs (bin_sound (P := P) hu (fun ms hm => by cases hm) (ev x) (ev y) ok)
      · split at hc
        · rename_i n hsz
          split at hc
          · cases hc
          · rename_i hn
            cases hc
            show Res I w ρ post pc ((do Pure.pure (Next.value (← (do eqGuard op ty x y (a.eval x) (a.eval y); binOp op ty (a.eval x) (a.eval y)))) : Sem Next).run P w)
            rw [exec_v]
            exact Looks.res (pc := pc) hs (peq_sound (P := P) hu hsz hn (ev x) (ev y) ok)
        · cases hc
    · rename_i td hni _; cases hc
      show Res I w ρ post pc ((do Pure.pure (Next.value (← (do eqGuard op ty x y (a.eval x) (a.eval y); binOp op ty (a.eval x) (a.eval y)))) : Sem Next).run P w)
      rw [exec_v]
      exact Looks.res (pc := pc) hs (bin_sound (P := P) (t := ty) rfl (fun ms hm => absurd hm (hni ms)) (ev x) (ev y) ok)
  case unOp op ty x => cases hc; exact (by simpa [execOp] using Looks.res (pc := pc) hs (un_sound (P := P) (ev x) ok))
  case convert s d x =>
    split at hc
    · rename_i k0 k h1 h2; cases hc; exact (by simpa [execOp] using Looks.res (pc := pc) hs (conv_sound h1 h2 (ev x) ok))
    · rename_i h1 h2; cases hc
      simp only [stepI, cstrE] at ok
      have hx := ev x
      split at ok
      · rename_i s0 he
        rw [he] at hx
        simp only [execOp]
        generalize a.eval x = xv at hx ⊢
        cases hx
        exact Res.pure hs (v' := .string s0) (by simp [Go.convert, underlying, h1, h2]) ok (.lit _ _)
      · exact ok.elim
    · rename_i e e' h1 h2
      split at hc
      · rename_i he
        split at hc
        · rename_i heq
          cases hc
          have : s = d := by simpa using heq
          subst this
          simpa [execOp] using strish_sound (e' := e') h1 he hs (ev x) ok
        · cases hc
      · cases hc
    · rename_i e h1 h2
      split at hc
      · rename_i he hsz; cases hc; simpa [execOp] using s2b_sound h1 h2 he hs hI (ev x) ok
      · cases hc
    · rename_i e h1 h2
      split at hc
      · rename_i he hsz; cases hc; exact (by simpa [execOp] using Looks.res (pc := pc) hs (b2s_sound h1 h2 he hs (ev x) ok))
      · cases hc
    · rename_i t1 h1 h2
      split at hc
      · rename_i n hsz
        split at hc
        · cases hc
        · rename_i hn; cases hc; exact (by simpa [execOp] using Looks.res (pc := pc) hs (toU_sound h1 h2 hsz hn hs (ev x) ok))
      · cases hc
    · rename_i u1 h1 h2
      split at hc
      · rename_i n hsz
        split at hc
        · cases hc
        · rename_i hn; cases hc; exact (by simpa [execOp] using Looks.res (pc := pc) hs (fromU_sound h1 h2 hsz hn hs (ev x) ok))
      · cases hc
    · cases hc
  case sliceToArrayPointer ty x =>
    split at hc
    · rename_i n e hu
      split at hc
      · cases hc
      · rename_i hn; cases hc; exact (by simpa [execOp] using Looks.res (pc := pc) hs (s2a_sound hu hn (ev x) ok))
    · cases hc
  case makeInterface ty x =>
    split at hc
    · cases hc
    · rename_i d hni hd; cases hc
      exact (by simpa [execOp] using Looks.res (pc := pc) hs (mkIface_sound hd (fun ms he => hni ms he) (ev x) ok))
    · cases hc
  case makeFunc f x y =>
    cases hc
    exact (by simpa [execOp] using Looks.res (pc := pc) hs (mkFunc_sound (P := P) (us := x.map a.eval) (vs := y.map a.eval) (by simpa using evl x.toList) (by simpa using evl y.toList) ok))
  case makeMap ty r =>
    cases r with
    | none => cases hc; simpa [execOp] using mkMap_sound (P := P) (t := ty) hs hI ok
    | some r => simp at hc
  case makeSlice ty l c =>
    split at hc
    · rename_i e hu
      split at hc
      · rename_i n b z hn hb hz
        split at hc
        · cases hc
        · rename_i hcond
          cases hc
          have hall : z.cells.toList.all Value.oneCell' = true := by
            cases hh : z.cells.toList.all Value.oneCell' with
            | true => rfl
            | false => rw [hh] at hcond; simp at hcond
          have hn0 : n ≠ 0 := by intro e0; simp [e0] at hcond
          have hzs : z.cells.size = n := by
            rcases Nat.decEq z.cells.size n with h1 | h1
            · simp [h1] at hcond
            · exact h1
          have hone : ∀ q ∈ z.cells.toList, q.oneCell' = true := fun q hq => List.all_eq_true.1 hall q hq
          simpa [execOp] using mkSlice_sound hu hn hb hz hzs hn0 hs hI (ev l) (ev c) hone ok
      · cases hc
    · cases hc
  case slice ty x lo hi mx =>
    split at hc
    · rename_i e hu
      split at hc
      · rename_i n hn
        split at hc
        · cases hc
        · rename_i hcond
          cases hc
          simp only [stepI] at ok
          split at ok
          · rename_i l hh m hl hhi hm
            have hmh : m.isSome = true → hh.isSome = true := by
              intro hmm
              cases mx with
              | none => simp [boundE] at hm; subst hm; simp at hmm
              | some mx =>
                cases hi with
                | none => simp at hcond
                | some hi =>
                  simp only [boundE] at hhi
                  split at hhi <;> cases hhi
                  rfl
            exact (by simpa [execOp] using Looks.res (pc := pc) hs (slice_sound hu hn (boundE_rep hg ht hl) (boundE_rep hg ht hhi) (boundE_rep hg ht hm) hmh (ev x) ok))
          · exact ok.elim
      · cases hc
    · rename_i hu
      split at hc
      · cases hc
        simp only [stepI] at ok
        split at ok
        · rename_i l hh hl hhi
          exact (by simpa [execOp] using Looks.res (pc := pc) hs (sliceStr_sound hu (boundE_rep hg ht hl) (boundE_rep hg ht hhi) (ev x) ok))
        · exact ok.elim
      · cases hc
    · cases hc
  case fieldAddr s x f =>
    split at hc
    · rename_i fs hu
      split at hc
      · rename_i fl hf
        split at hc
        · rename_i n hn
          split at hc
          · cases hc
          · rename_i h0; cases hc; exact (by simpa [execOp] using Looks.res (pc := pc) hs (fieldAddr_sound hu hf hn h0 (ev x) ok))
        · cases hc
      · cases hc
    · cases hc
  case field ty x f =>
    split at hc
    · rename_i fs hu
      split at hc
      · rename_i fl hf
        split at hc
        · rename_i n ha hn; cases hc; exact (by simpa [execOp] using Looks.res (pc := pc) hs (field_sound hu hf ha hn (ev x) ok))
        · rename_i ha hn; cases hc; exact (by simpa [execOp] using Looks.res (pc := pc) hs (field_sound hu hf ha hn (ev x) ok))
        · cases hc
      · cases hc
    · cases hc
  case indexAddr ty x i =>
    split at hc
    · rename_i e hu
      split at hc
      · rename_i n hn
        split at hc
        · cases hc
        · rename_i h0; cases hc; exact (by simpa [execOp] using Looks.res (pc := pc) hs (indexAddr_sound hu hn h0 (ev x) (ev i) ok))
      · cases hc
    · rename_i len e hu
      split at hc
      · rename_i n hn
        split at hc
        · cases hc
        · rename_i h0; cases hc; exact (by simpa [execOp] using Looks.res (pc := pc) hs (indexAddrArr_sound hu hn (ev x) (ev i) ok))
      · cases hc
    · cases hc
  case index ty x i =>
    split at hc
    · rename_i len e hu
      split at hc
      · rename_i n ha hn
        split at hc
        · cases hc
        · cases hc; exact (by simpa [execOp] using Looks.res (pc := pc) hs (indexArr_sound hu ha hn (ev x) (ev i) ok))
      · rename_i ha hn; cases hc; exact (by simpa [execOp] using Looks.res (pc := pc) hs (indexArr_sound hu ha hn (ev x) (ev i) ok))
      · cases hc
    · rename_i hu; cases hc; exact (by simpa [execOp] using Looks.res (pc := pc) hs (indexStr_sound hu (ev x) (ev i) ok))
    · cases hc
  case lookup ty x k cok =>
    split at hc
    · rename_i kt e hu
      split at hc
      · rename_i z isA hz ha
        split at hc
        · rename_i ks hks
          split at hc
          · rename_i hcond
            cases hc
            have q1 : isA = true → ∃ cs, z = .agg cs := by
              intro hi; subst hi
              unfold lkOk at hcond
              split at hcond
              · exact ⟨_, rfl⟩
              · simp at hcond
            have q2 : isA = false → z.cells.size = 1 ∧ ∀ cs, z ≠ .agg cs := by
              intro hi; subst hi
              unfold lkOk at hcond
              split at hcond
              · cases hcond
              · rename_i hna; exact ⟨by simpa using hcond, fun cs he => hna cs he⟩
            exact (by simpa [execOp] using Looks.res (pc := pc) hs (lookup_sound hu hks ha hz q1 q2 hs (ev x) (ev k) ok))
          · cases hc
        · cases hc
      · cases hc
    · cases hc
  case mapUpdate ty m k v =>
    split at hc
    · rename_i kt e hu
      split at hc
      · rename_i ks hks
        cases hc
        obtain ⟨w', h', hr, hp, hk, hsim⟩ := mapSet_sound hu hks hs (ev m) (ev k) (ev v) ok
        exact .inl ⟨_, undef, h', w', [], .inr ⟨by simp [execOp, hr], rfl⟩, hp, hk, by rw [List.append_nil]; exact hsim, .lit _ _⟩
      · cases hc
    · cases hc
  case extract x i => cases hc; exact (by simpa [execOp] using Looks.res (pc := pc) hs (extract_sound (P := P) (ev x) ok))
  case call c =>
    obtain ⟨callee, args, argTypes⟩ := c
    have hargs : (args.map a.eval).toList = args.toList.map a.eval := by simp
    simp only at hc
    split at hc
    · rename_i f
      split at hc
      · rename_i hgood; cases hc
        exact .inr (.inl ⟨f, _, args.map a.eval, by simp [execOp, resolve, Act.eval, Deferred.ofValue, invoke, goodF_call hgood], (fun e => by rw [e, goodF_round] at hgood; cases hgood), ok, by rw [hargs]; exact evl args.toList⟩)
      · unfold noEsc at hc
        split at hc
        · rename_i fn hfn
          split at hc
          · rename_i hcond
            simp only [Bool.and_eq_true, beq_iff_eq, Option.isNone_iff_eq_none] at hcond
            split at hc
            · rename_i x hax
              cases hc
              have e1 : args = #[x] := by apply Array.ext'; simpa using hax
              subst e1
              have hng : (fn.name == "runtime.NumGoroutine") = false := by rw [hcond.1.2]; rfl
              have hrun : (callFunc f #[a.eval x]).run P w = .ok (.value (a.eval x)) w := by
                rw [run_callFunc_extern hfn hng (by simp [hcond.1.1]) hcond.2 (find_noEsc hcond.1.2)]
                rfl
              exact Res.pure hs (by simpa [execOp, resolve, Act.eval, Deferred.ofValue, invoke] using hrun) ok (ev x)
            · cases hc
          · cases hc
        · cases hc
    · rename_i x hnf; cases hc
      have := callv_sound (P := P) (us := args.map a.eval) (ev x) (by rw [hargs]; exact evl args.toList) hpc ok
      simpa [execOp, resolve] using this
    · rename_i x name; cases hc
      have := invoke_sound (P := P) (us := args.map a.eval) (ev x) (by rw [hargs]; exact evl args.toList) ok
      simpa [execOp, resolve] using this
    · -- append
      split at hc
      · rename_i x y tx ty' hax hat
        have e1 : args = #[x, y] := by apply Array.ext'; simpa using hax
        have e2 : argTypes = #[tx, ty'] := by apply Array.ext'; simpa using hat
        subst e1; subst e2
        have fin : ∀ (e : TypeId), P.underlying tx = some (.slice e) → ((∃ e', P.underlying ty' = some (.slice e')) ∨ P.underlying ty' = some .string) →
            (match szP P e, byP P e, zeP P e with
              | some n, some b, some z => if n = 0 || b = 0 || z.cells.size ≠ n then none else match P.underlying e with
                | some (.int .u8) => if n = 1 && b = 1 then some (EI.appendB x y) else none
                | _ => some (EI.append n b x y)
              | _, _, _ => none) = some ei → Res I w ρ post pc ((execOp a.eval ⟨dst, .call ⟨.builtin .append, #[x, y], #[tx, ty']⟩, type, pos, after, guard⟩).run P w) := by
          intro e hu1 hu2 hcc
          split at hcc
          · rename_i n b z hn hb hz
            split at hcc
            · cases hcc
            · rename_i hcond
              have hat : AppT P #[tx, ty'] e n b z := by
                refine ⟨⟨tx, rfl, hu1⟩, ⟨ty', rfl, hu2⟩, hn, hb, hz, ?_, ?_, ?_⟩
                · rcases Nat.decEq z.cells.size n with h1 | h1
                  · simp [h1] at hcond
                  · exact h1
                · intro e0; simp [e0] at hcond
                · intro e0; simp [e0] at hcond
              split at hcc
              · rename_i hu8
                split at hcc
                · rename_i hnb
                  cases hcc
                  simp only [Bool.and_eq_true, decide_eq_true_eq] at hnb
                  obtain ⟨rfl, rfl⟩ := hnb
                  have := appendB_sound (ty := type) hat hu8 hP hs hI (ev x) (ev y) ok
                  simpa [execOp, resolve, invoke, builtin] using this
                · cases hcc
              · cases hcc
                have := append_sound (ty := type) hat hs hI (ev x) (ev y) ok
                simpa [execOp, resolve, invoke, builtin] using this
          · cases hcc
        split at hc
        · rename_i e e' h1 h2; exact fin e h1 (.inl ⟨e', h2⟩) hc
        · rename_i e h1 h2; exact fin e h1 (.inr h2) hc
        · cases hc
      · cases hc
    · -- len
      split at hc
      · rename_i x tx hax hat
        have e1 : args = #[x] := by apply Array.ext'; simpa using hax
        have e2 : argTypes = #[tx] := by apply Array.ext'; simpa using hat
        subst e1; subst e2
        have fin : ∀ k, ((k = 0 ∧ P.underlying tx = some .string) ∨ (k = 1 ∧ ∃ e, P.underlying tx = some (.slice e)) ∨ (k = 2 ∧ ∃ m e, P.underlying tx = some (.map m e))) → ei = .len k x →
            Res I w ρ post pc ((execOp a.eval ⟨dst, .call ⟨.builtin .len, #[x], #[tx]⟩, type, pos, after, guard⟩).run P w) := by
          intro k hk he
          subst he
          have := Looks.res (pc := pc) hs (len_sound (P := P) (tys := #[tx]) (ty := type) (t := tx) rfl hk hs (ev x) ok)
          simpa [execOp, resolve, invoke, builtin] using this
        split at hc
        · rename_i hu; cases hc; exact fin 0 (.inl ⟨rfl, hu⟩) rfl
        · rename_i e hu; cases hc; exact fin 1 (.inr (.inl ⟨rfl, e, hu⟩)) rfl
        · rename_i m e hu; cases hc; exact fin 2 (.inr (.inr ⟨rfl, m, e, hu⟩)) rfl
        · cases hc
      · cases hc
    · -- copy
      split at hc
      · rename_i x y tx ty' hax hat
        have e1 : args = #[x, y] := by apply Array.ext'; simpa using hax
        have e2 : argTypes = #[tx, ty'] := by apply Array.ext'; simpa using hat
        subst e1; subst e2
        split at hc
        · rename_i e hu
          split at hc
          · rename_i n hn
            split at hc
            · cases hc
            · cases hc
              have := copy_sound (P := P) (tys := #[tx, ty']) (ty := type) (t := tx) rfl hu hn hs (ev x) (ev y) ok
              simpa [execOp, resolve, invoke, builtin] using this
          · cases hc
        · cases hc
      · cases hc
    · -- min
      split at hc
      · rename_i x l hax
        have e1 : args = (x :: l).toArray := by apply Array.ext'; simpa using hax
        subst e1
        cases hc
        have := Looks.res (pc := pc) hs (minmax_sound (P := P) (mx := false) (tys := argTypes) (ty := type) (ev x) (evl l) ok)
        simpa [execOp, resolve, invoke, builtin] using this
      · cases hc
    · -- max
      split at hc
      · rename_i x l hax
        have e1 : args = (x :: l).toArray := by apply Array.ext'; simpa using hax
        subst e1
        cases hc
        have := Looks.res (pc := pc) hs (minmax_sound (P := P) (mx := true) (tys := argTypes) (ty := type) (ev x) (evl l) ok)
        simpa [execOp, resolve, invoke, builtin] using this
      · cases hc
    · -- where a slice begins
      split at hc
      · rename_i x hax
        have e1 : args = #[x] := by apply Array.ext'; simpa using hax
        subst e1
        cases hc
        have := Looks.res (pc := pc) hs (sdata_sound (P := P) (tys := argTypes) (ty := type) hs (ev x) ok)
        simpa [execOp, resolve, invoke, builtin] using this
      · cases hc
    · -- a string over bytes
      split at hc
      · rename_i x l pt it hax hat
        have e1 : args = #[x, l] := by apply Array.ext'; simpa using hax
        have e2 : argTypes = #[pt, it] := by apply Array.ext'; simpa using hat
        subst e1; subst e2
        split at hc
        · rename_i e hp
          split at hc
          · rename_i he hsz
            cases hc
            have := ustr_sound (P := P) (ty := type) (it := it) hp he hP hs (ev x) (ev l) ok
            simpa [execOp, resolve, invoke, builtin] using this
          · cases hc
        · cases hc
      · cases hc
    · -- clear
      split at hc
      · rename_i x t hax hat
        have e1 : args = #[x] := by apply Array.ext'; simpa using hax
        have e2 : argTypes = #[t] := by apply Array.ext'; simpa using hat
        subst e1; subst e2
        split at hc
        · rename_i e hu
          split at hc
          · rename_i n z hn hz
            split at hc
            · cases hc
            · rename_i hcond
              cases hc
              simp only [Bool.or_eq_true, decide_eq_true_eq, Bool.not_eq_true', not_or, Bool.not_eq_false, List.all_eq_true, ne_eq, Decidable.not_not] at hcond
              have := clr_sound (P := P) (tys := #[t]) (ty := type) (t := t) rfl hu hz hcond.1.2 hcond.2 hs (ev x) ok
              simpa [execOp, resolve, invoke, builtin] using this
          · cases hc
        · cases hc
      · cases hc
    · cases hc
  case panic x =>
    cases hc
    simp only [stepI, panicE] at ok
    have hx := ev x
    split at ok
    · rename_i ty v he
      rw [he] at hx
      refine .inr (.inr (.inr ⟨_, a.eval x, ?_, ok, hx⟩))
      show ((do Pure.pure (Next.value (← Instr.panic (a.eval x)))) : Sem Next).run P w = _
      generalize a.eval x = xv at hx
      cases hx
      simp [Instr.panic, goPanic]
    · exact ok.elim
  case typeAssert x xt ty cok =>
    split at hc
    · cases hc
    · rename_i d hni hd
      split at hc
      · rename_i z isA hz ha
        split at hc
        · rename_i hcond
          cases hc
          have q1 : isA = true → ∃ cs, z = .agg cs := by
            intro hi; subst hi
            unfold lkOk at hcond
            split at hcond
            · exact ⟨_, rfl⟩
            · simp at hcond
          have q2 : isA = false → z.cells.size = 1 ∧ ∀ cs, z ≠ .agg cs := by
            intro hi; subst hi
            unfold lkOk at hcond
            split at hcond
            · cases hcond
            · rename_i hna; exact ⟨by simpa using hcond, fun cs he => hna cs he⟩
          exact (by simpa [execOp] using Looks.res (pc := pc) hs (tassert_sound hd (fun ms he => hni ms he) ha hz q1 q2 (ev x) ok))
        · cases hc
      · cases hc
    · cases hc
  case range ty x =>
    split at hc
    · rename_i hu; cases hc; simpa [execOp] using rngS_sound hu hs hI (ev x) ok
    · cases hc
  case next x s =>
    cases s with
    | true => simp at hc; subst hc; simpa [execOp] using nxtS_sound hs (ev x) ok
    | false => simp at hc
  all_goals (cases hc)
end
end Go.Proofs.YtpgeonghlabnhaaGreatDoor.Em
