/- YtmckingimnhoaaaGreatDoorMh: the texts Ct25, Ct26, brought together. No conditions. -/
import Derived.Test.YtmckingimnhoaaaGreatDoorMg
set_option linter.unusedVariables false
set_option linter.unusedSimpArgs false
namespace Go.Proofs.YtmckingimnhoaaaGreatDoor.Stats
open Go Go.Proofs.YtmckingimnhoaaaGreatDoor Go.Proofs.YtmckingimnhoaaaGreatDoor.Em
-- emaX: s_bat
theorem typeOf_ok (N : Int) (hN1 : 1 ≤ N) (hN3 : N ≤ 3) (T U : Nat) (hrT : Nat.beq T roundF = false) (hrU : Nat.beq U roundF = false) (b : Bool) (g : Nat) (d : List EV) (hd0 : clL d = true) (l : List Fld) (hl : l.length ≤ 140737488351232) (hok : okFs l) (pT pU : Prop) (tT : Fld)
    (hgT : goodF Tryz.prog T = true) (hgU : goodF Tryz.prog U = true)
    (hT : (l.length : Int) = N → (∀ f ∈ l, mayF f) → ∀ (n : Nat) (c : List EV), LP (l.map plF) n c → ∀ h : EH, Tri Tryz.prog gs T [.isl n none c] h fun v h' => IsT pT tT v ∧ h' = h)
    (hU : (l.length : Int) = N → ∀ (n : Nat) (c : List EV), LP (l.map plF) n c → ∀ h : EH, Tri Tryz.prog gs U [.isl n none c] h fun v h' => IsP pU v ∧ h' = h)
    (htT : (l.length : Int) = N → (∀ f ∈ l, mayF f) → okF tT ∧ smallF tT) (h : EH) :
    Tri Tryz.prog gs 8 [rul N T U b g d, .isl l.length none (cellsFs l)] h fun v h' => TypeV (typeX N pT pU tT l) v ∧ h' = h :=
  Tri.litC (φ := TypeV _) (fun v hv => hv.cl) (by
    show (clE (rul N T U b g d) && true) = true
    rw [rul_cl hd0]; rfl) (Tri.up (typeOf_at N hN1 hN3 T U hrT hrU b g d hd0 l hl hok pT pU tT hgT hgU hT hU htT) fun v h' ⟨v', h1, h2⟩ => ⟨v', h1, h2⟩) h
theorem typeOf_none (l : List Fld) (h : EH) : Tri Tryz.prog gs 8 [.agg [.lit (.int .i64 0), .lit .nilFunc, .lit .nilFunc, .lit (.bool false), .lit .nilFunc], .isl l.length none (cellsFs l)] h fun v h' => TypeV (fld0, 1) v ∧ h' = h := by
  generalize l.length = n, cellsFs l = c
  refine Tri.litC (φ := TypeV _) (fun v hv => hv.cl) rfl (Tri.up (R := fun v _ => ∃ v', TypeV (fld0, 1) v' ∧ Up v v') (Tri_of F8_ok fun I0 ρ0 w0 Q hρ hQ => ?_) fun v h' ⟨v', h1, h2⟩ => ⟨v', h1, h2⟩) h
  obtain ⟨A, hA⟩ : ∃ A, A = stdA := ⟨_, rfl⟩
  with_reducible refine runS hA hd hQ 200 ?hk ?_
  case hk => exact trivial
  conv => arg 9; cbv
  try simp only [OK]
  repeat' first | (with_reducible refine OKK.loop ?_) | (with_reducible refine OKK.again ?_) | ((with_reducible refine ⟨fun hbr => ?_, fun hbr => ?_⟩) <;> (try simp (disch := omega) only [hA, OK, emaU, Int.reduceToNat, s_bat, reduceCtorEq] at hbr) <;> (try (with_reducible exfalso; omega))) | ((with_reducible refine runK hA hd hQ 200 ?hk ?_); (case hk => exact trivial); (conv => arg 9; cbv); (try simp only [OK])) | ((with_reducible refine need_of ?hn ?_); (case hn => ((simp (disch := omega) only [hA, OK, emaU, Int.reduceToNat, s_bat]) <;> omega))) | fail
  all_goals first
    | exact FinR.ty0 rfl rfl
    | (exfalso; simp_all; done)
    | trace_state
theorem typeX_R {op N : Int} {pT pU : Prop} {tT : Fld} {l : List Fld} (hN : argsN op = N) (hS : (l.length : Int) = N → (pT → ∀ u : Bool, (u = true ↔ pU) → endR (l.getD 0 fld0).nm (typeS op (l.map plF)) = endR (l.getD 0 fld0).nm (some (u, tT))) ∧ (¬ pT → typeS op (l.map plF) = none)) :
    typeX N pT pU tT l = typeR op l := by
  classical
  by_cases h : N = 0 ∨ (l.length : Int) ≠ N
  · rw [typeX_arg h, typeR, if_pos (by rw [hN]; exact h)]
  by_cases hb : ∃ f ∈ l, ¬ mayF f
  · rw [typeX_bad h hb]; unfold typeR; rw [if_neg (by rw [hN]; exact h), if_pos hb]
  have hall : ∀ f ∈ l, mayF f := fun f hf => Classical.byContradiction fun hn => hb ⟨f, hf, hn⟩
  have hl : (l.length : Int) = N := by omega
  rw [typeR_end (by rw [hN]; exact h) hall]
  obtain ⟨s1, s2⟩ := hS hl
  by_cases hp : pT
  · obtain ⟨u, hu⟩ : ∃ u : Bool, u = true ↔ pU := ⟨decide pU, by simp⟩
    rw [s1 hp u hu]
    by_cases hm : mayF (named (l.getD 0 fld0).nm (u, tT))
    · rw [typeX_yes h hall hp hu hm, endR_yes hm]
    · rw [typeX_not h hall hp hu hm, endR_not hm]
  · rw [typeX_no h hall hp, s2 hp]; rfl
theorem nul_any1 {l : List PF} (h : l.length = 1) {u : Bool} (hu : u = true ↔ ∃ p ∈ l, p.nul = true) : u = (l.getD 0 pf0).nul := by
  match l, h with
  | [p], _ => simp at hu ⊢; cases u <;> simp_all
theorem nul_any2 {l : List PF} (h : l.length = 2) {u : Bool} (hu : u = true ↔ ∃ p ∈ l, p.nul = true) : u = ((l.getD 0 pf0).nul || (l.getD 1 pf0).nul) := by
  match l, h with
  | [p, q], _ => simp at hu ⊢; cases u <;> simp_all
theorem nul_any3 {l : List PF} (h : l.length = 3) {u : Bool} (hu : u = true ↔ ∃ p ∈ l.drop 1, p.nul = true) : u = ((l.getD 1 pf0).nul || (l.getD 2 pf0).nul) := by
  match l, h with
  | [p, q, r], _ => simp at hu ⊢; cases u <;> simp_all
theorem nul_all2 {l : List PF} {u : Bool} (hu : u = true ↔ (l.getD 0 pf0).nul = true ∧ (l.getD 1 pf0).nul = true) : u = ((l.getD 0 pf0).nul && (l.getD 1 pf0).nul) := by
  revert hu
  generalize (l.getD 0 pf0).nul = a, (l.getD 1 pf0).nul = b
  cases u <;> cases a <;> cases b <;> simp
theorem kind_all1 {l : List PF} (h : l.length = 1) {q : PF → Prop} : (∀ p ∈ l, q p) ↔ q (l.getD 0 pf0) := by
  match l, h with
  | [p], _ => simp
theorem kind_all2 {l : List PF} (h : l.length = 2) {q : PF → Prop} : (∀ p ∈ l, q p) ↔ q (l.getD 0 pf0) ∧ q (l.getD 1 pf0) := by
  match l, h with
  | [p, r], _ => simp
theorem zt_small (k : Int) : smallF (zt k) := by
  show smallF (.mk ⟨#[]⟩ false k 0 0 0 [])
  rw [smallF]; exact ⟨by simp, trivial⟩
theorem neverC_ok (n : Nat) (c : List EV) (h : EH) : Tri Tryz.prog gs 35 [.isl n none c] h fun v h' => IsP False v ∧ h' = h := by
  refine Tri.boolC rfl (Tri_of F35_ok fun I0 ρ0 w0 Q hρ hQ => ?_) h
  obtain ⟨A, hA⟩ : ∃ A, A = stdA := ⟨_, rfl⟩
  with_reducible refine runS hA hd hQ 200 ?hk ?_
  case hk => exact trivial
  conv => arg 9; cbv
  try simp only [OK]
  repeat' first | ((with_reducible refine ⟨fun hbr => ?_, fun hbr => ?_⟩) <;> (try simp (disch := omega) only [hA, OK, emaU, Int.reduceToNat, s_bat, reduceCtorEq] at hbr) <;> (try (with_reducible exfalso; omega))) | ((with_reducible refine runK hA hd hQ 200 ?hk ?_); (case hk => exact trivial); (conv => arg 9; cbv); (try simp only [OK])) | ((with_reducible refine need_of ?hn ?_); (case hn => ((simp (disch := omega) only [hA, OK, emaU, Int.reduceToNat, s_bat]) <;> omega))) | fail
  all_goals (try (with_reducible refine FinR.self ?_; first | refine FinR.bl rfl ?_ | refine FinR.bs rfl ?_ | refine FinR.blh rfl ?_ rfl | refine FinR.bsh rfl ?_ rfl))
  all_goals (try simp (disch := omega) only [hA, OK, emaU, Int.reduceToNat, s_bat, Bool.false_eq_true, true_iff, false_iff, eq_self, iff_true, iff_false])
set_option maxHeartbeats 4000000 in
theorem ruleType_ok (op : Int) (v : EV) (hv : RuleP op v) (l : List Fld) (hl : l.length ≤ 140737488351232) (hok : okFs l) (h : EH) :
    Tri Tryz.prog gs 8 [v, .isl l.length none (cellsFs l)] h fun v h' => TypeV (typeR op l) v ∧ h' = h := by
  have hP : (∀ f ∈ l, mayF f) → ∀ p ∈ l.map plF, okPF p := fun hall p hp => by
    obtain ⟨f, hf, rfl⟩ := List.mem_map.1 hp
    exact (plF_ok (okFs_mem hok hf) (hall f hf)).1
  have hG : (∀ f ∈ l, mayF f) → ∀ j, okF ((l.map plF).getD j pf0).g ∧ smallF ((l.map plF).getD j pf0).g := fun hall j => by
    by_cases hj : j < (l.map plF).length
    · have := hP hall _ (pf_mem hj)
      exact ⟨this.1, all_small this.2.1⟩
    · rw [List.getD_eq_getElem?_getD, List.getElem?_eq_none (by omega)]
      exact ⟨⟨by decide, r0, r0, r0, r0, by decide, trivial⟩, zt_small 0⟩
  have h2r : i64r 2 := by unfold i64r; omega
  have h6r : i64r 6 := by unfold i64r; omega
  obtain ⟨b, g, d, hd, hv⟩ := hv
  rcases hv with ⟨hop1, hop2, rfl⟩ | ⟨hop, rfl⟩ | ⟨hop, rfl⟩ | ⟨hop1, hop2, rfl⟩ | ⟨hop, rfl⟩ | ⟨hop, rfl⟩ | ⟨hop, rfl⟩ | ⟨hop, rfl⟩ | ⟨hop, rfl⟩ | ⟨hop, rfl⟩ | ⟨hop, rfl⟩ | ⟨hop, rfl⟩ | ⟨hop, rfl⟩
  · have hN : argsN op = 2 := by (unfold argsN; (repeat' split) <;> first | rfl | omega)
    rw [← typeX_R (op := op) (N := 2) (pT := (∀ p ∈ l.map plF, p.g.kind = ((l.map plF).getD 0 pf0).g.kind) ∧ 3 ≤ ((l.map plF).getD 0 pf0).g.kind ∧ ((l.map plF).getD 0 pf0).g.kind ≤ 11) (pU := (∃ p ∈ l.map plF, p.nul = true)) (tT := zt ((l.map plF).getD 0 pf0).g.kind) (l := l) hN (fun hlN => ?_)]
    · exact typeOf_ok 2 (by omega) (by omega) 23 24 rfl rfl b g d hd l hl hok _ _ _ (goodF_of F23_ok) (goodF_of F24_ok) (fun hN hall n c hLP h => numbers_ok _ n c hLP (by have := hLP.1; simp at this; omega) h) (fun hN n c hLP h => oneLets_ok _ n c hLP h) (fun _ hall => ⟨zt_ok (ok_kind (hG hall 0).1), zt_small _⟩) h
    · have hlen : (l.map plF).length = 2 := by simp; omega
      refine ⟨fun hp u hu => ?_, fun hp => ?_⟩
      · unfold typeS; simp only; rw [if_pos (by omega), if_pos (⟨((kind_all2 hlen).1 hp.1).2, hp.2⟩), ← nul_any2 hlen hu]
      · unfold typeS; simp only; rw [if_pos (by omega), if_neg (fun hc => hp ⟨(kind_all2 hlen).2 ⟨rfl, hc.1⟩, hc.2⟩)]
  · have hN : argsN op = 2 := by (unfold argsN; (repeat' split) <;> first | rfl | omega)
    rw [← typeX_R (op := op) (N := 2) (pT := (∀ p ∈ l.map plF, p.g.kind = ((l.map plF).getD 0 pf0).g.kind) ∧ 3 ≤ ((l.map plF).getD 0 pf0).g.kind ∧ ((l.map plF).getD 0 pf0).g.kind ≤ 10) (pU := (∃ p ∈ l.map plF, p.nul = true)) (tT := zt ((l.map plF).getD 0 pf0).g.kind) (l := l) hN (fun hlN => ?_)]
    · exact typeOf_ok 2 (by omega) (by omega) 26 24 rfl rfl b g d hd l hl hok _ _ _ (goodF_of F26_ok) (goodF_of F24_ok) (fun hN hall n c hLP h => wholes_ok _ n c hLP (by have := hLP.1; simp at this; omega) h) (fun hN n c hLP h => oneLets_ok _ n c hLP h) (fun _ hall => ⟨zt_ok (ok_kind (hG hall 0).1), zt_small _⟩) h
    · have hlen : (l.map plF).length = 2 := by simp; omega
      refine ⟨fun hp u hu => ?_, fun hp => ?_⟩
      · unfold typeS; simp only; rw [if_neg (by omega), if_pos (by omega), if_pos (⟨((kind_all2 hlen).1 hp.1).2, hp.2⟩), ← nul_any2 hlen hu]
      · unfold typeS; simp only; rw [if_neg (by omega), if_pos (by omega), if_neg (fun hc => hp ⟨(kind_all2 hlen).2 ⟨rfl, hc.1⟩, hc.2⟩)]
  · have hN : argsN op = 1 := by (unfold argsN; (repeat' split) <;> first | rfl | omega)
    rw [← typeX_R (op := op) (N := 1) (pT := (∀ p ∈ l.map plF, p.g.kind = ((l.map plF).getD 0 pf0).g.kind) ∧ (3 ≤ ((l.map plF).getD 0 pf0).g.kind ∧ ((l.map plF).getD 0 pf0).g.kind ≤ 6 ∨ ((l.map plF).getD 0 pf0).g.kind = 11)) (pU := (∃ p ∈ l.map plF, p.nul = true)) (tT := zt ((l.map plF).getD 0 pf0).g.kind) (l := l) hN (fun hlN => ?_)]
    · exact typeOf_ok 1 (by omega) (by omega) 27 24 rfl rfl b g d hd l hl hok _ _ _ (goodF_of F27_ok) (goodF_of F24_ok) (fun hN hall n c hLP h => negatives_ok _ n c hLP (by have := hLP.1; simp at this; omega) h) (fun hN n c hLP h => oneLets_ok _ n c hLP h) (fun _ hall => ⟨zt_ok (ok_kind (hG hall 0).1), zt_small _⟩) h
    · have hlen : (l.map plF).length = 1 := by simp; omega
      refine ⟨fun hp u hu => ?_, fun hp => ?_⟩
      · unfold typeS; simp only; rw [if_neg (by omega), if_neg (by omega), if_pos (by omega), if_pos (hp.2), ← nul_any1 hlen hu]
      · unfold typeS; simp only; rw [if_neg (by omega), if_neg (by omega), if_pos (by omega), if_neg (fun hc => hp ⟨(kind_all1 hlen).2 rfl, hc⟩)]
  · have hN : argsN op = 2 := by (unfold argsN; (repeat' split) <;> first | rfl | omega)
    rw [← typeX_R (op := op) (N := 2) (pT := alikeP ((l.map plF).getD 0 pf0).g ((l.map plF).getD 1 pf0).g) (pU := (∃ p ∈ l.map plF, p.nul = true)) (tT := zt 2) (l := l) hN (fun hlN => ?_)]
    · exact typeOf_ok 2 (by omega) (by omega) 29 24 rfl rfl b g d hd l hl hok _ _ _ (goodF_of F29_ok) (goodF_of F24_ok) (fun hN hall n c hLP h => compared_ok _ n c hLP (by have := hLP.1; simp at this; omega) (hP hall) h) (fun hN n c hLP h => oneLets_ok _ n c hLP h) (fun _ hall => ⟨zt_ok h2r, zt_small _⟩) h
    · have hlen : (l.map plF).length = 2 := by simp; omega
      refine ⟨fun hp u hu => ?_, fun hp => ?_⟩
      · unfold typeS; simp only; rw [if_neg (by omega), if_neg (by omega), if_neg (by omega), if_pos (by omega), if_pos (hp), ← nul_any2 hlen hu]
      · unfold typeS; simp only; rw [if_neg (by omega), if_neg (by omega), if_neg (by omega), if_pos (by omega), if_neg (hp)]
  · have hN : argsN op = 2 := by (unfold argsN; (repeat' split) <;> first | rfl | omega)
    rw [← typeX_R (op := op) (N := 2) (pT := (∀ p ∈ l.map plF, p.g.kind = 2)) (pU := (∃ p ∈ l.map plF, p.nul = true)) (tT := zt 2) (l := l) hN (fun hlN => ?_)]
    · exact typeOf_ok 2 (by omega) (by omega) 31 24 rfl rfl b g d hd l hl hok _ _ _ (goodF_of F31_ok) (goodF_of F24_ok) (fun hN hall n c hLP h => bools_ok _ n c hLP h) (fun hN n c hLP h => oneLets_ok _ n c hLP h) (fun _ hall => ⟨zt_ok h2r, zt_small _⟩) h
    · have hlen : (l.map plF).length = 2 := by simp; omega
      refine ⟨fun hp u hu => ?_, fun hp => ?_⟩
      · unfold typeS; simp only; rw [if_neg (by omega), if_neg (by omega), if_neg (by omega), if_neg (by omega), if_pos (by omega), if_pos ((kind_all2 hlen).1 hp), ← nul_any2 hlen hu]
      · unfold typeS; simp only; rw [if_neg (by omega), if_neg (by omega), if_neg (by omega), if_neg (by omega), if_pos (by omega), if_neg (fun hc => hp ((kind_all2 hlen).2 hc))]
  · have hN : argsN op = 1 := by (unfold argsN; (repeat' split) <;> first | rfl | omega)
    rw [← typeX_R (op := op) (N := 1) (pT := (∀ p ∈ l.map plF, p.g.kind = 2)) (pU := (∃ p ∈ l.map plF, p.nul = true)) (tT := zt 2) (l := l) hN (fun hlN => ?_)]
    · exact typeOf_ok 1 (by omega) (by omega) 31 24 rfl rfl b g d hd l hl hok _ _ _ (goodF_of F31_ok) (goodF_of F24_ok) (fun hN hall n c hLP h => bools_ok _ n c hLP h) (fun hN n c hLP h => oneLets_ok _ n c hLP h) (fun _ hall => ⟨zt_ok h2r, zt_small _⟩) h
    · have hlen : (l.map plF).length = 1 := by simp; omega
      refine ⟨fun hp u hu => ?_, fun hp => ?_⟩
      · unfold typeS; simp only; rw [if_neg (by omega), if_neg (by omega), if_neg (by omega), if_neg (by omega), if_neg (by omega), if_pos (by omega), if_pos ((kind_all1 hlen).1 hp), ← nul_any1 hlen hu]
      · unfold typeS; simp only; rw [if_neg (by omega), if_neg (by omega), if_neg (by omega), if_neg (by omega), if_neg (by omega), if_pos (by omega), if_neg (fun hc => hp ((kind_all1 hlen).2 hc))]
  · have hN : argsN op = 1 := by (unfold argsN; (repeat' split) <;> first | rfl | omega)
    rw [← typeX_R (op := op) (N := 1) (pT := True) (pU := False) (tT := zt 2) (l := l) hN (fun hlN => ?_)]
    · exact typeOf_ok 1 (by omega) (by omega) 34 35 rfl rfl b g d hd l hl hok _ _ _ (goodF_of F34_ok) (goodF_of F35_ok) (fun hN hall n c hLP h => anything_ok n c h) (fun hN n c hLP h => by have := never_ok (l.map plF) h; rw [islP, ← hLP.1] at this; exact neverC_ok n c h) (fun _ hall => ⟨zt_ok h2r, zt_small _⟩) h
    · have hlen : (l.map plF).length = 1 := by simp; omega
      exact ⟨fun hp u hu => by
        have : u = false := by cases u <;> simp_all
        unfold typeS; simp only; rw [if_neg (by omega), if_neg (by omega), if_neg (by omega), if_neg (by omega), if_neg (by omega), if_neg (by omega), if_pos (by omega), this], fun hp => absurd trivial hp⟩
  · have hN : argsN op = 2 := by (unfold argsN; (repeat' split) <;> first | rfl | omega)
    rw [← typeX_R (op := op) (N := 2) (pT := alikeP ((l.map plF).getD 0 pf0).g ((l.map plF).getD 1 pf0).g) (pU := ((l.map plF).getD 0 pf0).nul = true ∧ ((l.map plF).getD 1 pf0).nul = true) (tT := ((l.map plF).getD 0 pf0).g) (l := l) hN (fun hlN => ?_)]
    · exact typeOf_ok 2 (by omega) (by omega) 37 38 rfl rfl b g d hd l hl hok _ _ _ (goodF_of F37_ok) (goodF_of F38_ok) (fun hN hall n c hLP h => either_ok _ n c hLP (by have := hLP.1; simp at this; omega) (hP hall) h) (fun hN n c hLP h => bothLet_ok _ n c hLP (by have := hLP.1; simp at this; omega) h) (fun _ hall => hG hall 0) h
    · have hlen : (l.map plF).length = 2 := by simp; omega
      refine ⟨fun hp u hu => ?_, fun hp => ?_⟩
      · unfold typeS; simp only; rw [if_neg (by omega), if_neg (by omega), if_neg (by omega), if_neg (by omega), if_neg (by omega), if_neg (by omega), if_neg (by omega), if_pos (by omega), if_pos (hp), ← nul_all2 hu]
      · unfold typeS; simp only; rw [if_neg (by omega), if_neg (by omega), if_neg (by omega), if_neg (by omega), if_neg (by omega), if_neg (by omega), if_neg (by omega), if_pos (by omega), if_neg (hp)]
  · have hN : argsN op = 3 := by (unfold argsN; (repeat' split) <;> first | rfl | omega)
    rw [← typeX_R (op := op) (N := 3) (pT := alikeP ((l.map plF).getD 1 pf0).g ((l.map plF).getD 2 pf0).g ∧ ((l.map plF).getD 0 pf0).g.kind = 2) (pU := (∃ p ∈ (l.map plF).drop 1, p.nul = true)) (tT := ((l.map plF).getD 1 pf0).g) (l := l) hN (fun hlN => ?_)]
    · exact typeOf_ok 3 (by omega) (by omega) 40 41 rfl rfl b g d hd l hl hok _ _ _ (goodF_of F40_ok) (goodF_of F41_ok) (fun hN hall n c hLP h => branches_ok _ n c hLP (by have := hLP.1; simp at this; omega) (hP hall) h) (fun hN n c hLP h => branchLets_ok _ n c hLP (by have := hLP.1; simp at this; omega) h) (fun _ hall => hG hall 1) h
    · have hlen : (l.map plF).length = 3 := by simp; omega
      refine ⟨fun hp u hu => ?_, fun hp => ?_⟩
      · unfold typeS; simp only; rw [if_neg (by omega), if_neg (by omega), if_neg (by omega), if_neg (by omega), if_neg (by omega), if_neg (by omega), if_neg (by omega), if_neg (by omega), if_pos (by omega), if_pos (⟨hp.2, hp.1⟩), ← nul_any3 hlen hu]
      · unfold typeS; simp only; rw [if_neg (by omega), if_neg (by omega), if_neg (by omega), if_neg (by omega), if_neg (by omega), if_neg (by omega), if_neg (by omega), if_neg (by omega), if_pos (by omega), if_neg (fun hc => hp ⟨hc.2, hc.1⟩)]
  · have hN : argsN op = 2 := by (unfold argsN; (repeat' split) <;> first | rfl | omega)
    rw [← typeX_R (op := op) (N := 2) (pT := (((l.map plF).getD 0 pf0).g.kind = 12 ∨ ((l.map plF).getD 0 pf0).g.kind = 13) ∧ ((l.map plF).getD 1 pf0).g.kind = ((l.map plF).getD 0 pf0).g.kind) (pU := (∃ p ∈ l.map plF, p.nul = true)) (tT := zt ((l.map plF).getD 0 pf0).g.kind) (l := l) hN (fun hlN => ?_)]
    · exact typeOf_ok 2 (by omega) (by omega) 43 24 rfl rfl b g d hd l hl hok _ _ _ (goodF_of F43_ok) (goodF_of F24_ok) (fun hN hall n c hLP h => texts_ok _ n c hLP (by have := hLP.1; simp at this; omega) h) (fun hN n c hLP h => oneLets_ok _ n c hLP h) (fun _ hall => ⟨zt_ok (ok_kind (hG hall 0).1), zt_small _⟩) h
    · have hlen : (l.map plF).length = 2 := by simp; omega
      refine ⟨fun hp u hu => ?_, fun hp => ?_⟩
      · unfold typeS; simp only; rw [if_neg (by omega), if_neg (by omega), if_neg (by omega), if_neg (by omega), if_neg (by omega), if_neg (by omega), if_neg (by omega), if_neg (by omega), if_neg (by omega), if_pos (by omega), if_pos (⟨hp.2, hp.1⟩), ← nul_any2 hlen hu]
      · unfold typeS; simp only; rw [if_neg (by omega), if_neg (by omega), if_neg (by omega), if_neg (by omega), if_neg (by omega), if_neg (by omega), if_neg (by omega), if_neg (by omega), if_neg (by omega), if_pos (by omega), if_neg (fun hc => hp ⟨hc.2, hc.1⟩)]
  · have hN : argsN op = 1 := by (unfold argsN; (repeat' split) <;> first | rfl | omega)
    rw [← typeX_R (op := op) (N := 1) (pT := 12 ≤ ((l.map plF).getD 0 pf0).g.kind ∧ ((l.map plF).getD 0 pf0).g.kind ≤ 16) (pU := (∃ p ∈ l.map plF, p.nul = true)) (tT := zt 6) (l := l) hN (fun hlN => ?_)]
    · exact typeOf_ok 1 (by omega) (by omega) 45 24 rfl rfl b g d hd l hl hok _ _ _ (goodF_of F45_ok) (goodF_of F24_ok) (fun hN hall n c hLP h => measured_ok _ n c hLP (by have := hLP.1; simp at this; omega) h) (fun hN n c hLP h => oneLets_ok _ n c hLP h) (fun _ hall => ⟨zt_ok h6r, zt_small _⟩) h
    · have hlen : (l.map plF).length = 1 := by simp; omega
      refine ⟨fun hp u hu => ?_, fun hp => ?_⟩
      · unfold typeS; simp only; rw [if_neg (by omega), if_neg (by omega), if_neg (by omega), if_neg (by omega), if_neg (by omega), if_neg (by omega), if_neg (by omega), if_neg (by omega), if_neg (by omega), if_neg (by omega), if_pos (by omega), if_pos (hp), ← nul_any1 hlen hu]
      · unfold typeS; simp only; rw [if_neg (by omega), if_neg (by omega), if_neg (by omega), if_neg (by omega), if_neg (by omega), if_neg (by omega), if_neg (by omega), if_neg (by omega), if_neg (by omega), if_neg (by omega), if_pos (by omega), if_neg (hp)]
  · have hN : argsN op = 2 := by (unfold argsN; (repeat' split) <;> first | rfl | omega)
    rw [← typeX_R (op := op) (N := 2) (pT := (((l.map plF).getD 0 pf0).g.kind = 12 ∨ ((l.map plF).getD 0 pf0).g.kind = 13) ∧ ((l.map plF).getD 1 pf0).g.kind = ((l.map plF).getD 0 pf0).g.kind) (pU := (∃ p ∈ l.map plF, p.nul = true)) (tT := zt 2) (l := l) hN (fun hlN => ?_)]
    · exact typeOf_ok 2 (by omega) (by omega) 47 24 rfl rfl b g d hd l hl hok _ _ _ (goodF_of F47_ok) (goodF_of F24_ok) (fun hN hall n c hLP h => tested_ok _ n c hLP (by have := hLP.1; simp at this; omega) h) (fun hN n c hLP h => oneLets_ok _ n c hLP h) (fun _ hall => ⟨zt_ok h2r, zt_small _⟩) h
    · have hlen : (l.map plF).length = 2 := by simp; omega
      refine ⟨fun hp u hu => ?_, fun hp => ?_⟩
      · unfold typeS; simp only; rw [if_neg (by omega), if_neg (by omega), if_neg (by omega), if_neg (by omega), if_neg (by omega), if_neg (by omega), if_neg (by omega), if_neg (by omega), if_neg (by omega), if_neg (by omega), if_neg (by omega), if_pos (by omega), if_pos (⟨hp.2, hp.1⟩), ← nul_any2 hlen hu]
      · unfold typeS; simp only; rw [if_neg (by omega), if_neg (by omega), if_neg (by omega), if_neg (by omega), if_neg (by omega), if_neg (by omega), if_neg (by omega), if_neg (by omega), if_neg (by omega), if_neg (by omega), if_neg (by omega), if_pos (by omega), if_neg (fun hc => hp ⟨hc.2, hc.1⟩)]
  · have hN : argsN op = 0 := by (unfold argsN; (repeat' split) <;> first | rfl | omega)
    have : typeR op l = (fld0, 1) := by
      unfold typeR; rw [if_pos (.inl hN)]
    rw [this]
    exact typeOf_none l h
theorem calcType_ok (op : Int) (l : List Fld) (hl : l.length ≤ 140737488351232) (hok : okFs l) (h : EH) :
    Tri Tryz.prog gs 4 [.lit (.int .i64 op), .isl l.length none (cellsFs l)] h fun v h' => v = .tup [.agg (cellsF (typeR op l).1), .lit (.int .i64 (typeR op l).2)] ∧ h' = h := by
  have hr := fun v (hv : RuleP op v) h => ruleType_ok op v hv l hl hok h
  have hcl : clE (.tup [.agg (cellsF (typeR op l).1), .lit (.int .i64 (typeR op l).2)]) = true := by rw [cellsF_eq]; rfl
  generalize typeR op l = R at *
  obtain ⟨f, e⟩ := R
  simp only at hcl ⊢
  unfold TypeV at hr
  simp only [cellsF_eq] at hr hcl ⊢
  generalize cellsFs f.kids = kc, f.kids.length = kn, f.nm = nm, f.nul = nul, f.kind = k, f.width = w, f.id = i, f.idx = x at *
  generalize l.length = n, cellsFs l = c at *
  refine Tri.valK hcl rfl (Tri_of F4_ok fun I0 ρ0 w0 Q hρ hQ => ?_) h
  obtain ⟨A, hA⟩ : ∃ A, A = stdA := ⟨_, rfl⟩
  with_reducible refine runS hA hd hQ 200 ?hk ?_
  case hk => exact trivial
  conv => arg 9; cbv
  try simp only [OK]
  repeat' first | ((with_reducible refine ⟨fun hbr => ?_, fun hbr => ?_⟩) <;> (try simp (disch := omega) only [hA, OK, emaU, Int.reduceToNat, s_bat, reduceCtorEq] at hbr) <;> (try (with_reducible exfalso; omega))) | ((with_reducible refine runK hA hd hQ 200 ?hk ?_); (case hk => exact trivial); (conv => arg 9; cbv); (try simp only [OK])) | ((with_reducible refine need_of ?hn ?_); (case hn => ((simp (disch := omega) only [hA, OK, emaU, Int.reduceToNat, s_bat]) <;> omega))) | fail
  refine CallOK.of (goodF_of F9_ok) (Tri.mono (ruleOf_ok op _) fun v hh hx => ?_)
  obtain ⟨hv, hh'⟩ := hx
  subst hh'
  with_reducible refine runK hA hd hQ 1 ?hk ?_
  case hk => exact trivial
  conv => arg 9; cbv
  try simp only [OK]
  repeat' first | ((with_reducible refine ⟨fun hbr => ?_, fun hbr => ?_⟩) <;> (try simp (disch := omega) only [hA, OK, emaU, Int.reduceToNat, s_bat, reduceCtorEq] at hbr) <;> (try (with_reducible exfalso; omega))) | ((with_reducible refine runK hA hd hQ 200 ?hk ?_); (case hk => exact trivial); (conv => arg 9; cbv); (try simp only [OK])) | ((with_reducible refine need_of ?hn ?_); (case hn => ((simp (disch := omega) only [hA, OK, emaU, Int.reduceToNat, s_bat]) <;> omega))) | fail
  refine CallOK.of (goodF_of F8_ok) (Tri.mono (hr _ hv _) fun v2 hh2 hx => ?_)
  obtain ⟨hv2, hh'⟩ := hx
  subst hv2; subst hh'
  with_reducible refine runK hA hd hQ 1 ?hk ?_
  case hk => exact trivial
  conv => arg 9; cbv
  try simp only [OK]
  repeat' first | ((with_reducible refine ⟨fun hbr => ?_, fun hbr => ?_⟩) <;> (try simp (disch := omega) only [hA, OK, emaU, Int.reduceToNat, s_bat, reduceCtorEq] at hbr) <;> (try (with_reducible exfalso; omega))) | ((with_reducible refine runK hA hd hQ 200 ?hk ?_); (case hk => exact trivial); (conv => arg 9; cbv); (try simp only [OK])) | ((with_reducible refine need_of ?hn ?_); (case hn => ((simp (disch := omega) only [hA, OK, emaU, Int.reduceToNat, s_bat]) <;> omega))) | fail
  exact FinR.intro rfl rfl
-- emaX: s_bat
theorem typeR_small (op : Int) (l : List Fld) : smallF (typeR op l).1 := by
  have h0 : smallF fld0 := zt_small 0
  have hm : ∀ {f : Fld}, mayF f → smallF f := fun h => all_small (mayF_all h)
  unfold typeR
  split
  · exact h0
  split
  · exact h0
  split
  · exact h0
  · rename_i x _
    split
    · rename_i h; exact hm h
    · exact h0
set_option maxRecDepth 100000 in
set_option maxHeartbeats 8000000 in
theorem types_ok (op : Int) (hop : i64r op) (l : List Fld) (hl : l.length ≤ 140737488351232) (hok : okFs l) (h : EH) :
    Tri Tryz.prog gs 3 [.lit (.int .i64 op), .isl l.length none (cellsFs l)] h fun v h' => IsP True v ∧ h' = h := by
  have h1 := calcType_ok op l hl hok
  have h2 := typeDoc_ok op hop l hl hok
  have hq := eqField_ok _ (typeR op l).1 (Nat.le_refl _) (typeR_small op l)
  unfold DocV at h2
  generalize typeR op l = R at *
  obtain ⟨f, e⟩ := R
  simp only [cellsF_eq] at h1 h2 hq
  generalize cellsFs f.kids = kc, f.kids.length = kn, f.nm = nm, f.nul = nul, f.kind = k, f.width = w, f.id = i, f.idx = x at *
  generalize l.length = n, cellsFs l = c at *
  refine Tri.boolC rfl (Tri_of F3_ok fun I0 ρ0 w0 Q hρ hQ => ?_) h
  obtain ⟨A, hA⟩ : ∃ A, A = stdA := ⟨_, rfl⟩
  with_reducible refine runS hA hd hQ 200 ?hk ?_
  case hk => exact trivial
  conv => arg 9; cbv
  try simp only [OK]
  repeat' first | ((with_reducible refine opt_of (fun hop => ?_) (fun xop hop => ?_)) <;> (try simp (disch := omega) only [hA, OK, emaU, Int.reduceToNat, s_bat] at hop)) | ((with_reducible refine ⟨fun hbr => ?_, fun hbr => ?_⟩) <;> (try simp (disch := omega) only [hA, OK, emaU, Int.reduceToNat, s_bat, reduceCtorEq] at hbr) <;> (try (with_reducible exfalso; omega))) | ((with_reducible refine runK hA hd hQ 200 ?hk ?_); (case hk => exact trivial); (conv => arg 9; cbv); (try simp only [OK])) | ((with_reducible refine need_of ?hn ?_); (case hn => ((simp (disch := omega) only [hA, OK, emaU, Int.reduceToNat, s_bat]) <;> omega))) | fail
  refine CallOK.of (goodF_of F4_ok) (Tri.mono (h1 _) fun v hh hx => ?_)
  obtain ⟨hv, hh'⟩ := hx
  subst hv; subst hh'
  with_reducible refine runK hA hd hQ 1 ?hk ?_
  case hk => exact trivial
  conv => arg 9; cbv
  try simp only [OK]
  repeat' first | ((with_reducible refine opt_of (fun hop => ?_) (fun xop hop => ?_)) <;> (try simp (disch := omega) only [hA, OK, emaU, Int.reduceToNat, s_bat] at hop)) | ((with_reducible refine ⟨fun hbr => ?_, fun hbr => ?_⟩) <;> (try simp (disch := omega) only [hA, OK, emaU, Int.reduceToNat, s_bat, reduceCtorEq] at hbr) <;> (try (with_reducible exfalso; omega))) | ((with_reducible refine runK hA hd hQ 200 ?hk ?_); (case hk => exact trivial); (conv => arg 9; cbv); (try simp only [OK])) | ((with_reducible refine need_of ?hn ?_); (case hn => ((simp (disch := omega) only [hA, OK, emaU, Int.reduceToNat, s_bat]) <;> omega))) | fail
  refine CallOK.of (goodF_of F5_ok) (Tri.mono (h2 _) fun v hh hx => ?_)
  obtain ⟨hv, hh'⟩ := hx
  subst hv; subst hh'
  with_reducible refine runK hA hd hQ 1 ?hk ?_
  case hk => exact trivial
  conv => arg 9; cbv
  try simp only [OK]
  repeat' first | ((with_reducible refine opt_of (fun hop => ?_) (fun xop hop => ?_)) <;> (try simp (disch := omega) only [hA, OK, emaU, Int.reduceToNat, s_bat] at hop)) | ((with_reducible refine ⟨fun hbr => ?_, fun hbr => ?_⟩) <;> (try simp (disch := omega) only [hA, OK, emaU, Int.reduceToNat, s_bat, reduceCtorEq] at hbr) <;> (try (with_reducible exfalso; omega))) | ((with_reducible refine runK hA hd hQ 200 ?hk ?_); (case hk => exact trivial); (conv => arg 9; cbv); (try simp only [OK])) | ((with_reducible refine need_of ?hn ?_); (case hn => ((simp (disch := omega) only [hA, OK, emaU, Int.reduceToNat, s_bat]) <;> omega))) | (refine CallOK.of (goodF_of F6_ok) (Tri.mono (hq _) fun v hh hx => ?_); (obtain ⟨⟨b, hv, hb⟩, he⟩ := hx; subst hv; subst he; cases b <;> simp (disch := omega) only [hA, OK, emaU, Int.reduceToNat, s_bat, Bool.false_eq_true, true_iff, false_iff, eq_self, reduceCtorEq] at hb) <;> (try (with_reducible exfalso; omega))) | ((refine CallOK.of (goodF_of F7_ok) (Tri.mono (fixed_ok _) fun v hh hx => ?_)); (obtain ⟨hv, hh'⟩ := hx; subst hv; subst hh')) | fail
  all_goals (try (with_reducible refine FinR.self ?_; first | refine FinR.bl rfl ?_ | refine FinR.bs rfl ?_ | refine FinR.blh rfl ?_ rfl | refine FinR.bsh rfl ?_ rfl))
  all_goals (try simp (disch := omega) only [hA, OK, emaU, Int.reduceToNat, s_bat, Bool.false_eq_true, true_iff, false_iff, eq_self, iff_true, iff_false])
  all_goals first
    | exact absurd trivial (by assumption)
    | exact absurd rfl (by assumption)
    | (simp_all; done)
    | omega
end Go.Proofs.YtmckingimnhoaaaGreatDoor.Stats
