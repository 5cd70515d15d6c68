/- Em6: new blocks and literals of the model stand for those of the abstract machine. No conditions beyond those written. -/
import Derived.Test.YtpgeonghlabnhaaGreatDoorEm5
set_option linter.unusedVariables false
set_option linter.unusedSimpArgs false
namespace Go.Proofs.YtpgeonghlabnhaaGreatDoor.Em
open Go
section
variable {I : Imm} {w : World} {ρ : Ren} {h : EH} {post : EV → EH → Prop} {pc : FuncId → List EV → Prop} {P : Program}
theorem ren_last (hs : HSim I w ρ h) (x : Nat × Nat) : (ρ ++ [x])[sizeH h]? = some x := by
  rw [List.getElem?_append_right (by rw [hs.len]; exact Nat.le_refl _), hs.len]; simp
/-- The block that newRow makes. -/
theorem newBlk (hs : HSim I w ρ h) (hI : ∀ b, I b → b < w.heap.size) {c : List EV} {vs : Array Value} {n : Nat} (e : TypeId)
    (hr : ∀ (j : Nat) (x : EV), c[j]? = some x → ∃ v, vs[j]? = some v ∧ v.oneCell' = true ∧ Rep w I ρ x v) (hl : c.length ≤ vs.size) :
    OS I (w.alloc (.cells vs e)) (ρ ++ [(w.heap.size, 0)]) (sizeH h) (.blk c) := by
  refine ⟨w.heap.size, 0, vs, e, (0, 0), ren_last hs _, fun hb => absurd (hI _ hb) (Nat.lt_irrefl _), heap_alloc_at w _, .inl rfl, by simpa using hl, fun j x hx => ?_⟩
  obtain ⟨v, hv, ho, hrp⟩ := hr j x hx
  exact ⟨v, by simpa using hv, ho, (hrp.keep (.alloc w _ hI)).ext _⟩
theorem rows_of_RepL {c : List EV} {vs : List Value} (hr : RepL w I ρ c vs) (h1 : ∀ v ∈ vs, v.oneCell' = true) :
    ∀ (j : Nat) (x : EV), c[j]? = some x → ∃ v, vs[j]? = some v ∧ v.oneCell' = true ∧ Rep w I ρ x v := by
  intro j x hx
  have hj : j < vs.length := by rw [← hr.length]; exact (List.getElem?_eq_some_iff.1 hx).1
  exact ⟨vs[j], List.getElem?_eq_getElem hj, h1 _ (List.getElem_mem hj), hr.at j x _ hx (List.getElem?_eq_getElem hj)⟩
theorem box_sound {e : TypeId} {v : EV} {u : Value} (hs : HSim I w ρ h) (hI : ∀ b, I b → b < w.heap.size) (hv : Rep w I ρ v u)
    (ok : SROK post pc (boxE v h)) : Res I w ρ post pc (((Instr.box e u).run P w).andThen fun a w' => .ok (.value a) w') := by
  unfold boxE at ok
  split at ok
  case isFalse => exact ok.elim
  rename_i hone
  have hrl := cellsE_rep' hv hone
  refine Res.made hs hI (o := .cells u.cells e) (eo := .blk (cellsE v)) (v := .ptr (sizeH h) 0) (v' := .pointer (some ⟨w.heap.size, 0, none⟩)) ?_ ok ?_ ?_
  · simp [Instr.box, newVar, newRow]
  · exact newBlk (n := 0) hs hI e (by simpa using rows_of_RepL hrl (allOne_rep hrl hone)) (by rw [hrl.length]; simp)
  · exact .ptr _ _ _ w.heap.size 0 (ren_last hs _)
theorem alloc_sound {e : TypeId} {z : Value} (hz : zeP P e = some z) (hs : HSim I w ρ h) (hI : ∀ b, I b → b < w.heap.size)
    (ok : SROK post pc (boxE (.agg (litL z.cells.toList)) h)) :
    Res I w ρ post pc (((Instr.alloc e true (.tuple #[])).run P w).andThen fun a w' => .ok (.value a) w') := by
  unfold boxE at ok
  split at ok
  case isFalse => exact ok.elim
  rename_i hone
  have hrl : RepL w I ρ (litL z.cells.toList) z.cells.toList := litL_rep _
  refine Res.made hs hI (o := .cells z.cells e) (eo := .blk (litL z.cells.toList)) (v := .ptr (sizeH h) 0) (v' := .pointer (some ⟨w.heap.size, 0, none⟩)) ?_ ok ?_ ?_
  · simp [Instr.alloc, run_zeP hz, newVar, newRow]
  · exact newBlk (n := 0) hs hI e (by simpa using rows_of_RepL hrl (allOne_rep hrl hone)) (by rw [hrl.length]; simp)
  · exact .ptr _ _ _ w.heap.size 0 (ren_last hs _)
/-! ### literals -/
theorem foldl_set (vs : List Value) : ∀ (off k : Nat) (cs : Array Value), off + k + vs.length ≤ cs.size →
    ((vs.zipIdx k).foldl (fun cs (c, j) => cs.setIfInBounds (off + j) c) cs) = (cs.toList.take (off + k) ++ vs ++ cs.toList.drop (off + k + vs.length)).toArray := by
  induction vs with
  | nil => intro off k cs _; simp
  | cons v vs ih =>
    intro off k cs hl
    simp only [List.zipIdx_cons, List.foldl_cons]
    rw [ih off (k + 1) _ (by simp at hl ⊢; omega)]
    congr 1
    have := list_seg_step cs.toList (off + k) v vs (by simp at hl ⊢; omega)
    simp only [Array.toList_setIfInBounds, List.length_cons]
    rw [show off + (k + 1) = off + k + 1 by omega]
    exact this
theorem overlay {cs c2 x : List EV} {vs xs : List Value} {o n : Nat} (hr : RepL w I ρ cs vs) (hx : RepL w I ρ x xs) (hl : o + x.length ≤ cs.length)
    (q1 : c2.length = cs.length) (q3 : ∀ j, (j < o ∨ o + x.length ≤ j) → c2[j]? = cs[j]?) (q4 : ∀ j, j < x.length → c2[o + j]? = x[j]?) (hn : x.length = n) :
    RepL w I ρ c2 (vs.take o ++ xs ++ vs.drop (o + n)) := by
  have hvl := hr.length
  have hxl := hx.length
  refine RepL.mk (by simp; omega) fun j y v hy hv => ?_
  rcases Nat.lt_or_ge j o with h1 | h1
  · rw [q3 j (.inl h1)] at hy
    rw [List.append_assoc, List.getElem?_append_left (by simp; omega), List.getElem?_take, if_pos h1] at hv
    exact hr.at j y v hy hv
  · rcases Nat.lt_or_ge j (o + n) with h2 | h2
    · obtain ⟨i, rfl⟩ : ∃ i, j = o + i := ⟨j - o, by omega⟩
      rw [q4 i (by omega)] at hy
      rw [List.append_assoc, List.getElem?_append_right (by simp; omega), List.getElem?_append_left (by simp; omega)] at hv
      refine hx.at i y v hy ?_
      rw [← hv]; congr 1; simp; omega
    · rw [q3 j (.inr (by omega))] at hy
      rw [List.getElem?_append_right (by simp; omega), List.getElem?_drop] at hv
      refine hr.at j y v hy ?_
      rw [← hv]; congr 1; simp; omega
/-- 'partsP' and the model's places. -/
theorem fill_sound {G : List (List EV)} {t : List EV} {a : Act} (hg : Glob w I G) (ht : RepL w I ρ t a.tmps.toList) (place : Nat → Option (Nat × Nat)) :
    ∀ (ps : List (Nat × Operand)) (l : List (Nat × Nat × Operand)) (cs cs' : List EV) (vs : Array Value), partsP place ps = some l → fillE G t cs l = some cs' →
      RepL w I ρ cs vs.toList → ∃ vs', Instr.fill place vs (ps.map fun p => (p.1, a.eval p.2)) = some vs' ∧ RepL w I ρ cs' vs'.toList ∧ vs'.size = vs.size
  | [], l, cs, cs', vs, hp, hf, hr => by
    simp [partsP] at hp; subst hp
    simp [fillE] at hf; subst hf
    exact ⟨vs, rfl, hr, rfl⟩
  | (i, x) :: ps, l, cs, cs', vs, hp, hf, hr => by
    simp only [partsP] at hp
    cases hpl : place i with
    | none => simp [hpl] at hp
    | some p =>
      obtain ⟨o, n⟩ := p
      cases hrest : partsP place ps with
      | none => simp [hpl, hrest] at hp
      | some r =>
        simp [hpl, hrest] at hp; subst hp
        simp only [fillE] at hf
        split at hf
        case isFalse => cases hf
        rename_i hlen
        split at hf
        case isFalse => cases hf
        rename_i hone
        cases hw : wrt cs o (cellsE (evalO G t x)) with
        | none => simp [hw] at hf
        | some c2 =>
          simp only [hw] at hf
          have hx := evalO_rep hg ht x
          have hlen' : (cellsE (evalO G t x)).length = n := by rw [lenL_eq] at hlen; simpa using hlen
          obtain ⟨q1, q2, q3, q4⟩ := wrt_spec cs o _ c2 hw
          have hvl : cs.length = vs.size := by simpa using hr.length
          have hrx : RepL w I ρ (cellsE (evalO G t x)) (a.eval x).cells.toList := cellsE_rep' hx hone
          have hvn : (a.eval x).cells.size = n := by have := hrx.length; rw [hlen'] at this; simpa using this.symm
          rw [hlen'] at q2
          have hfold := foldl_set (a.eval x).cells.toList o 0 vs (by simp [hvn]; omega)
          have hr2 : RepL w I ρ c2 (vs.toList.take o ++ (a.eval x).cells.toList ++ vs.toList.drop (o + n)) :=
            overlay hr hrx (by rw [hlen']; exact q2) q1 (by rw [hlen']; rw [hlen'] at q3; exact q3) q4 hlen'
          obtain ⟨vs', f1, f2, f3⟩ := fill_sound hg ht place ps r c2 cs' (vs.toList.take o ++ (a.eval x).cells.toList ++ vs.toList.drop (o + n)).toArray hrest hf (by simpa using hr2)
          refine ⟨vs', ?_, f2, ?_⟩
          · have hz : (Array.foldl (fun cs (x : Value × Nat) => cs.setIfInBounds (o + x.2) x.1) vs (a.eval x).cells.zipIdx) =
                (vs.toList.take o ++ (a.eval x).cells.toList ++ vs.toList.drop (o + n)).toArray := by
              rw [← Array.foldl_toList]
              simp only [Array.toList_zipIdx]
              simpa [hvn] using hfold
            simp only [List.map_cons, Instr.fill, hpl, hvn]
            rw [if_neg (by simp; omega)]
            rw [← f1]
            congr 1
          · rw [f3]; simp [hvn]; omega
theorem run_mapM_list {α β : Type} {f : α → Sem β} {g : α → β} : ∀ (l : List α) (w : World), (∀ x ∈ l, ∀ w, (f x).run P w = .ok (g x) w) → (l.mapM f).run P w = .ok (l.map g) w
  | [], _, _ => by simp
  | x :: l, w, hx => by
    simp [List.mapM_cons, hx x (by simp), run_mapM_list l w (fun y hy => hx y (by simp [hy]))]
theorem optL_spec : ∀ (l : List (Option (Nat × Nat))) (r : List (Nat × Nat)), optL l = some r → l = r.map some
  | [], r, hr => by simp [optL] at hr; subst hr; rfl
  | none :: l, r, hr => by simp [optL] at hr
  | some x :: l, r, hr => by
    simp only [optL] at hr
    cases hl : optL l with
    | none => simp [hl] at hr
    | some r' => simp [hl] at hr; subst hr; simp [optL_spec l r' hl]
theorem buildStruct_sound {G : List (List EV)} {t : List EV} {a : Act} (hg : Glob w I G) (ht : RepL w I ρ t a.tmps.toList) {ty : TypeId} {fs : Array Field} {z : Value}
    {places : List (Nat × Nat)} {ps : Array (Nat × Operand)} {l : List (Nat × Nat × Operand)} {c : List EV} (hz : zeP P ty = some z) (hu : P.underlying ty = some (.struct fs))
    (hp : optL (fs.toList.map fun f => (szP P f.type).map fun n => (f.offset, n)) = some places) (hl : partsP (fun i => places[i]?) ps.toList = some l)
    (hc : fillE G t (litL z.cells.toList) l = some c) :
    ∃ vs, (Instr.build ty (ps.map fun p => (p.1, a.eval p.2))).run P w = .ok (.agg vs) w ∧ RepL w I ρ c vs.toList := by
  obtain ⟨vs', f1, f2, f3⟩ := fill_sound hg ht (fun i => places[i]?) ps.toList l _ c z.cells hl hc (litL_rep _)
  refine ⟨vs', ?_, f2⟩
  have hpl := optL_spec _ _ hp
  have hm : (fs.mapM fun f => do pure (f.offset, ← sizeOf f.type) : Sem (Array (Nat × Nat))).run P w = .ok places.toArray w := by
    rw [Array.mapM_eq_mapM_toList]
    simp only [Sem.run_map]
    rw [run_mapM_list (g := fun f => (f.offset, (szP P f.type).getD 0)) fs.toList w]
    · simp only [Result.andThen_ok]
      congr 2
      apply List.ext_getElem?
      intro i
      have := congrArg (fun l => l[i]?) hpl
      simp only [List.getElem?_map] at this ⊢
      cases hf : fs.toList[i]? with
      | none => rw [hf] at this; cases hpi : places[i]? <;> simp_all
      | some f =>
        rw [hf] at this
        cases hpi : places[i]? with
        | none => simp [hpi] at this
        | some p =>
          simp [hpi] at this
          obtain ⟨n, hn, rfl⟩ := this
          simp [hn]
    · intro f hf w
      have : (szP P f.type).map (fun n => (f.offset, n)) ∈ places.map some := by rw [← hpl]; exact List.mem_map.2 ⟨f, hf, rfl⟩
      cases hn : szP P f.type with
      | none => simp [hn] at this
      | some n => simp [run_szP hn]
  have hpl' : (fun i : Nat => places.toArray[i]?) = fun i : Nat => places[i]? := by funext i; simp
  have hps : (ps.map fun p => (p.1, a.eval p.2)).toList = ps.toList.map fun p => (p.1, a.eval p.2) := by simp
  simp only [Instr.build, Sem.run_bind, run_zeP hz, Result.andThen_ok, run_underlying hu, hm, hps, hpl', f1, Sem.run_pure]
theorem buildArray_sound {G : List (List EV)} {t : List EV} {a : Act} (hg : Glob w I G) (ht : RepL w I ρ t a.tmps.toList) {ty e : TypeId} {m n : Nat} {z : Value}
    {ps : Array (Nat × Operand)} {l : List (Nat × Nat × Operand)} {c : List EV} (hz : zeP P ty = some z) (hu : P.underlying ty = some (.array m e)) (hn : szP P e = some n)
    (hl : partsP (fun i => some (i * n, n)) ps.toList = some l) (hc : fillE G t (litL z.cells.toList) l = some c) :
    ∃ vs, (Instr.build ty (ps.map fun p => (p.1, a.eval p.2))).run P w = .ok (.agg vs) w ∧ RepL w I ρ c vs.toList := by
  obtain ⟨vs', f1, f2, f3⟩ := fill_sound hg ht (fun i => some (i * n, n)) ps.toList l _ c z.cells hl hc (litL_rep _)
  refine ⟨vs', ?_, f2⟩
  have hps : (ps.map fun p => (p.1, a.eval p.2)).toList = ps.toList.map fun p => (p.1, a.eval p.2) := by simp
  simp only [Instr.build, Sem.run_bind, run_zeP hz, Result.andThen_ok, run_underlying hu, run_szP hn, hps, f1, Sem.run_pure]
theorem buildSlice_sound {G : List (List EV)} {t : List EV} {a : Act} (hg : Glob w I G) (ht : RepL w I ρ t a.tmps.toList) {ty e : TypeId} {m n : Nat} {z : Value}
    {ps : Array (Nat × Operand)} {l : List (Nat × Nat × Operand)} {c : List EV} (hz : zeP P e = some z) (hu : P.underlying ty = some (.slice e)) (hn : szP P e = some n)
    (hlim : ¬ (n = 0 ∨ m * n > 2 ^ 24)) (hl : partsP (fun i => some (i * n, n)) ps.toList = some l)
    (hc : fillE G t (litL (((Array.range (m * n)).map (z.cells[· % z.cells.size]!)).toList)) l = some c)
    (hs : HSim I w ρ h) (hI : ∀ b, I b → b < w.heap.size) (hone : allOne c = true) (hp : post (.sl n (sizeH h) 0 m (some m)) (pushH h (.blk c))) :
    Res I w ρ post pc (((Instr.buildSlice ty m (ps.map fun p => (p.1, a.eval p.2))).run P w).andThen fun v w' => .ok (.value v) w') := by
  obtain ⟨vs', f1, f2, f3⟩ := fill_sound hg ht (fun i => some (i * n, n)) ps.toList l _ c ((Array.range (m * n)).map (z.cells[· % z.cells.size]!)) hl hc (litL_rep _)
  have hps : (ps.map fun p => (p.1, a.eval p.2)).toList = ps.toList.map fun p => (p.1, a.eval p.2) := by simp
  have hcl := f2.length
  refine Res.made hs hI (o := .cells vs' e) (eo := .blk c) (v' := .slice (some ⟨w.heap.size, 0, none⟩) m m) ?_ hp ?_ ?_
  · have hlim' : ¬ (m * n > 2 ^ 24) := by omega
    by_cases h0 : m * n = 0
    · have f1' := f1
      rw [show (Array.range (m * n)).map (fun i => z.cells[i % z.cells.size]!) = #[] by rw [h0]; simp] at f1'
      have hrg : Array.range 0 = #[] := rfl
      simp [Instr.buildSlice, run_underlying hu, run_szP hn, h0, hps, hrg, f1', newRow]
    · simp only [Instr.buildSlice, Sem.run_bind, run_underlying hu, Result.andThen_ok, run_szP hn, hlim', h0, if_false, Sem.run_pure, run_zeP hz, hps, f1, newRow, run_newObj]
      rfl
  · exact newBlk (n := 0) hs hI e (by simpa using rows_of_RepL f2 (allOne_rep f2 hone)) (by rw [hcl]; simp)
  · refine .sl _ _ _ _ _ _ _ m w.heap.size 0 (ren_last hs _) ⟨Nat.le_refl _, fun k hk => by cases hk; rfl⟩ rfl fun hm => ⟨rfl, vs', e, (0, 0), heap_alloc_at w _, ?_⟩
    rw [f3]; simp
end
end Go.Proofs.YtpgeonghlabnhaaGreatDoor.Em
