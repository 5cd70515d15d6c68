/- Em23: what is handed in, by its type's shape, as values of the machine; a law's call out of its contract. No conditions beyond those written. -/
import Derived.Test.YtpgeonghlabnhaaGreatDoorEm22
import Derived.ProofKit
import Derived.ChangeOld
import Derived.Below
import Derived.Carry
import Derived.DataReads
import Derived.SizedLaws
set_option linter.unusedVariables false
set_option linter.unusedSimpArgs false
namespace Go.Proofs.YtpgeonghlabnhaaGreatDoor.Em
open Go Go.RowKit
mutual
inductive Sh where
  | bool
  | int (k : IntKind)
  | float (k : FloatKind)
  | str
  | slice (n : Nat) (s : Sh)
  | struct (l : ShL)
  | arr (m n : Nat) (s : Sh)
inductive ShL where
  | nil
  | cons (n : Nat) (s : Sh) (l : ShL)
end
def shFs (P : Program) (g : TypeId → Option Sh) : Nat → List Field → Option (ShL × Nat)
  | off, [] => some (.nil, off)
  | off, f :: l =>
    if Nat.beq f.offset off then
      match g f.type, shFs P g (off + P.cellsOf f.type) l with
      | some s, some (r, tot) => some (.cons (P.cellsOf f.type) s r, tot)
      | _, _ => none
    else none
def shOf (P : Program) : Nat → TypeId → Option Sh
  | 0, _ => none
  | m + 1, t => match P.underlying t with
    | some .bool => some .bool
    | some (.int k) => some (.int k)
    | some (.float k) => some (.float k)
    | some .string => some .str
    | some (.slice e) => match shOf P m e with
      | some s => if Nat.beq (P.cellsOf e) 0 || Nat.beq (P.bytesOf e) 0 then none else some (.slice (P.cellsOf e) s)
      | none => none
    | some (.struct fs) => match shFs P (shOf P m) 0 fs.toList with
      | some (l, tot) => if Nat.beq tot (P.cellsOf t) then some (.struct l) else none
      | none => none
    | some (.array n e) => match shOf P m e with
      | some s => if Nat.beq (P.cellsOf t) (n * P.cellsOf e) then some (.arr n (P.cellsOf e) s) else none
      | none => none
    | _ => none
mutual
/-- Cells as a shape asks. -/
def HasS : Sh → List EV → Prop
  | .bool, c => ∃ b, c = [.lit (.bool b)]
  | .int k, c => ∃ n, c = [.lit (.int k n)] ∧ k.min ≤ n ∧ n ≤ k.max
  | .float k, c => ∃ b, c = [.lit (.float k b)] ∧ (Lit.float k b).wf = true
  | .str, c => ∃ s, c = [.lit (.string s)] ∧ s.size ≤ 140737488351232
  | .slice n s, c => ∃ len l, c = [.isl len none l] ∧ len ≤ 140737488351232 ∧ l.length = len * n ∧ ∀ i, i < len → HasS s ((l.drop (i * n)).take n)
  | .struct l, c => HasF l c
  | .arr m n s, c => c.length = m * n ∧ ∀ i, i < m → HasS s ((c.drop (i * n)).take n)
def HasF : ShL → List EV → Prop
  | .nil, c => c = []
  | .cons n s l, c => n ≤ c.length ∧ HasS s (c.take n) ∧ HasF l (c.drop n)
end
section
variable {P : Program} {W : World} {I : Imm} {H : Type} {enc : TypeId × Value → H} {held : Bool}
/-- Pieces of one size, one behind the other. -/
theorem tile (n : Nat) (f : Nat → List EV) : ∀ m, (∀ i, i < m → (f i).length = n) → ∃ l : List EV, l.length = m * n ∧ (∀ i, i < m → (l.drop (i * n)).take n = f i) ∧
    ∀ (j : Nat) (x : EV), l[j]? = some x → ∃ i r, i < m ∧ r < n ∧ j = i * n + r ∧ (f i)[r]? = some x
  | 0, _ => ⟨[], by simp, fun i hi => absurd hi (by omega), fun j x hx => by simp at hx⟩
  | m + 1, h => by
    obtain ⟨l, h1, h2, h3⟩ := tile n f m (fun i hi => h i (by omega))
    refine ⟨l ++ f m, by simp [h1, h m (by omega), Nat.add_mul], fun i hi => ?_, fun j x hx => ?_⟩
    · by_cases him : i < m
      · have hle : i * n + n ≤ l.length := by rw [h1]; have := Nat.mul_le_mul_right n (show i + 1 ≤ m by omega); rw [Nat.add_mul] at this; omega
        rw [List.drop_append_of_le_length (by omega), List.take_append_of_le_length (by rw [List.length_drop]; omega)]
        exact h2 i him
      · have : i = m := by omega
        subst this
        rw [List.drop_append, List.drop_eq_nil_of_le (by omega), h1]
        simp only [Nat.sub_self, List.drop_zero, List.nil_append]
        exact List.take_of_length_le (by rw [h i (by omega)]; exact Nat.le_refl _)
    · by_cases hj : j < l.length
      · rw [List.getElem?_append_left hj] at hx
        obtain ⟨i, r, a1, a2, a3, a4⟩ := h3 j x hx
        exact ⟨i, r, by omega, a2, a3, a4⟩
      · rw [List.getElem?_append_right (by omega)] at hx
        have hlt := (List.getElem?_eq_some_iff.1 hx).1
        rw [h m (by omega)] at hlt
        exact ⟨m, j - l.length, by omega, hlt, by omega, hx⟩
theorem shFs_le {g : TypeId → Option Sh} : ∀ {l : List Field} {off : Nat} {r : ShL} {tot : Nat}, shFs P g off l = some (r, tot) → off ≤ tot
  | [], off, r, tot, h => by simp [shFs] at h; omega
  | f :: l, off, r, tot, h => by
    simp only [shFs] at h
    split at h
    · split at h
      · rename_i s r' tot' _ h2
        simp at h
        have := shFs_le h2
        omega
      · cases h
    · cases h
theorem cellsQ {a : Addr} {n : Nat} {vs : List Value} (h : W.cells? 0 a n = some vs) : vs.length = n ∧ ∀ (j : Nat) (v : Value), vs[j]? = some v → W.cell? (a.add j) = some v := by
  unfold World.cells? at h
  simp only [Nat.zero_le, if_true] at h
  have hl := mapM_some_length h
  refine ⟨by simpa using hl, fun j v hv => ?_⟩
  have hj : j < n := by have := (List.getElem?_eq_some_iff.1 hv).1; simp at hl; omega
  have := mapM_some_get h j j (by simp [hj])
  rw [this, hv]
theorem repL_app {c1 c2 : List EV} {v1 v2 : List Value} (h1 : RepL W I [] c1 v1) (h2 : RepL W I [] c2 v2) : RepL W I [] (c1 ++ c2) (v1 ++ v2) := h1.app h2
theorem trod_boolI {fuel : Nat} {t : TypeId} {cs : List Value} {x : DataW H × List MemPlace} (hu : P.underlying t = some .bool) (h : DataW.trod enc P W 0 (fun _ => true) held (fuel + 1) t cs = some x) : ∃ b, cs = [.bool b] := by
  simp only [DataW.trod, hu] at h
  split at h
  all_goals first | exact ⟨_, rfl⟩ | (exfalso; simp_all; done)
theorem trod_intI {fuel : Nat} {t : TypeId} {cs : List Value} {x : DataW H × List MemPlace} {k : IntKind} (hu : P.underlying t = some (.int k)) (h : DataW.trod enc P W 0 (fun _ => true) held (fuel + 1) t cs = some x) :
    ∃ n, cs = [.int k n] ∧ (Lit.int k n).wf = true := by
  simp only [DataW.trod, hu] at h
  split at h
  all_goals first
    | (rename_i k0 k' n he; cases he; split at h
       · rename_i hk; obtain ⟨rfl, hw⟩ := hk; exact ⟨n, rfl, hw⟩
       · cases h)
    | (exfalso; simp_all; done)
theorem trod_floatI {fuel : Nat} {t : TypeId} {cs : List Value} {x : DataW H × List MemPlace} {k : FloatKind} (hu : P.underlying t = some (.float k)) (h : DataW.trod enc P W 0 (fun _ => true) held (fuel + 1) t cs = some x) :
    ∃ n, cs = [.float k n] ∧ (Lit.float k n).wf = true := by
  simp only [DataW.trod, hu] at h
  split at h
  all_goals first
    | (rename_i k0 k' n he; cases he; split at h
       · rename_i hk; obtain ⟨rfl, hw⟩ := hk; exact ⟨n, rfl, hw⟩
       · cases h)
    | (exfalso; simp_all; done)
theorem trod_stringI {fuel : Nat} {t : TypeId} {cs : List Value} {x : DataW H × List MemPlace} (hu : P.underlying t = some .string) (h : DataW.trod enc P W 0 (fun _ => true) held (fuel + 1) t cs = some x) :
    ∃ s, cs = [.string s] ∧ s.size ≤ maxLen ∧ x.1 = .lit (.string s.data.toList) := by
  simp only [DataW.trod, hu] at h
  split at h
  all_goals first
    | (split at h
       · rename_i hl; exact ⟨_, rfl, hl, by cases h; rfl⟩
       · cases h)
    | (exfalso; simp_all; done)
theorem trod_sliceI {fuel : Nat} {t e : TypeId} {cs : List Value} {x : DataW H × List MemPlace} (hu : P.underlying t = some (.slice e)) (h : DataW.trod enc P W 0 (fun _ => true) held (fuel + 1) t cs = some x) :
    cs = [.slice none 0 0] ∨ ∃ a len cap elems rest, cs = [.slice (some a) len cap] ∧ len ≤ cap ∧ cap ≤ maxLen ∧
      ((List.range len).mapM fun i => (W.cells? 0 (a.add (i * P.cellsOf e)) (P.cellsOf e)).bind (DataW.trod enc P W 0 (fun _ => true) held fuel e)) = some elems ∧
      ((List.range (cap - len)).mapM fun j => (W.cells? 0 (a.add ((len + j) * P.cellsOf e)) (P.cellsOf e)).bind (DataW.trod enc P W 0 (fun _ => true) held fuel e)) = some rest ∧
      x.2 = MemPlace.row a ((elems.length + rest.length) * P.cellsOf e) ++ (elems ++ rest).flatMap (·.2) ∧ x.1 = .slice (elems.map (·.1)) (rest.map (·.1)) := by
  simp only [DataW.trod, hu] at h
  split at h
  all_goals first
    | exact .inl rfl
    | (rename_i e' a len cap he
       cases he
       split at h
       · rename_i hlc
         obtain ⟨elems, he1, h⟩ := Option.bind_eq_some_iff.1 h
         obtain ⟨rest, hr1, h⟩ := Option.map_eq_some_iff.1 h
         simp only [if_true] at hr1
         exact .inr ⟨a, len, cap, elems, rest, rfl, hlc.2.1, hlc.2.2, he1, hr1, by rw [← h], by rw [← h]⟩
       · cases h)
    | (exfalso; simp_all; done)
theorem trod_structI {fuel : Nat} {t : TypeId} {fs : Array Field} {cs : List Value} {x : DataW H × List MemPlace} (hu : P.underlying t = some (.struct fs)) (h : DataW.trod enc P W 0 (fun _ => true) held (fuel + 1) t cs = some x) :
    cs.length = P.cellsOf t ∧ ∃ xs, (fs.toList.mapM fun f => DataW.trod enc P W 0 (fun _ => true) held fuel f.type ((cs.drop f.offset).take (P.cellsOf f.type))) = some xs ∧ x.2 = xs.flatMap (·.2) ∧ x.1 = .agg (xs.map (·.1)) := by
  simp only [DataW.trod, hu] at h
  split at h
  · rename_i hcl
    obtain ⟨xs, hxs, h⟩ := Option.map_eq_some_iff.1 h
    exact ⟨hcl, xs, hxs, by rw [← h], by rw [← h]⟩
  · cases h
theorem trod_arrayI {fuel : Nat} {t e : TypeId} {n : Nat} {cs : List Value} {x : DataW H × List MemPlace} (hu : P.underlying t = some (.array n e)) (h : DataW.trod enc P W 0 (fun _ => true) held (fuel + 1) t cs = some x) :
    cs.length = P.cellsOf t ∧ ∃ xs, ((List.range n).mapM fun i => DataW.trod enc P W 0 (fun _ => true) held fuel e ((cs.drop (i * P.cellsOf e)).take (P.cellsOf e))) = some xs ∧ x.2 = xs.flatMap (·.2) ∧ x.1 = .agg (xs.map (·.1)) := by
  simp only [DataW.trod, hu] at h
  split at h
  · rename_i hcl
    obtain ⟨xs, hxs, h⟩ := Option.map_eq_some_iff.1 h
    exact ⟨hcl, xs, hxs, by rw [← h], by rw [← h]⟩
  · cases h
theorem weightsAll_mem {e : TypeId} {d : DataW H} {n : Nat} : ∀ {l : List (DataW H)}, d ∈ l → n ∈ d.weights P e → n ∈ DataW.weightsAll P e l
  | x :: l, hd, hn => by
    simp only [DataW.weightsAll, List.mem_append]
    rcases List.mem_cons.1 hd with rfl | hd
    · exact .inl hn
    · exact .inr (weightsAll_mem hd hn)
/-- **What is read by its type is a value of the machine.** -/
theorem trod_rep : ∀ (fuel : Nat) (t : TypeId) (cs : List Value) (d : DataW H) (ps : List MemPlace) (m : Nat) (s : Sh), DataW.trod enc P W 0 (fun _ => true) held fuel t cs = some (d, ps) → shOf P m t = some s →
    (∀ p ∈ ps, I.j p.block) → (∀ n ∈ d.weights P t, n ≤ reachBytes) → ∃ c, RepL W I [] c cs ∧ HasS s c ∧ ∀ v ∈ cs, v.oneCell' = true := by
  intro fuel
  induction fuel with
  | zero => intro t cs d ps m s h; simp [DataW.trod] at h
  | succ fuel ih =>
    intro t cs d ps m s h hs hI hW
    cases m with
    | zero => simp [shOf] at hs
    | succ m =>
      simp only [shOf] at hs
      cases hu : P.underlying t with
      | none => simp [hu] at hs
      | some td =>
        simp only [hu] at hs
        cases td with
        | bool =>
          simp at hs; subst hs
          obtain ⟨b, rfl⟩ := trod_boolI hu h
          exact ⟨[.lit (.bool b)], ⟨.lit _ _, trivial⟩, ⟨b, rfl⟩, by simp [Value.oneCell']⟩
        | int k =>
          simp at hs; subst hs
          obtain ⟨n, rfl, hw⟩ := trod_intI hu h
          simp [Lit.wf] at hw
          exact ⟨[.lit (.int k n)], ⟨.lit _ _, trivial⟩, ⟨n, rfl, hw.1, hw.2⟩, by simp [Value.oneCell']⟩
        | float k =>
          simp at hs; subst hs
          obtain ⟨n, rfl, hw⟩ := trod_floatI hu h
          exact ⟨[.lit (.float k n)], ⟨.lit _ _, trivial⟩, ⟨n, rfl, hw⟩, by simp [Value.oneCell']⟩
        | string =>
          simp at hs; subst hs
          obtain ⟨s, rfl, hl, hd⟩ := trod_stringI hu h
          have hd : d = _ := hd
          subst hd
          have := hW s.data.toList.length (by simp [DataW.weights])
          exact ⟨[.lit (.string s)], ⟨.lit _ _, trivial⟩, ⟨s, rfl, by simpa [reachBytes] using this⟩, by simp [Value.oneCell']⟩
        | slice e =>
          simp only at hs
          cases hse : shOf P m e with
          | none => simp [hse] at hs
          | some s' =>
            simp only [hse] at hs
            split at hs
            · cases hs
            · rename_i hn0
              cases hs
              have hb0 : P.bytesOf e ≠ 0 := fun h0 => hn0 (by rw [h0]; simp)
              have hn0 : P.cellsOf e ≠ 0 := fun h0 => hn0 (by rw [h0]; rfl)
              rcases trod_sliceI hu h with rfl | ⟨a, len, cap, elems, rest, rfl, hle, hmx, he1, hr1, hps, hdd⟩
              · exact ⟨[.isl 0 none []], ⟨.isln _ _, trivial⟩, ⟨0, [], rfl, by omega, by simp, fun i hi => absurd hi (by omega)⟩, by simp [Value.oneCell']⟩
              · have hps : ps = _ := hps
                have hdd : d = _ := hdd
                subst hdd
                have hps : ps = MemPlace.row a ((elems.length + rest.length) * P.cellsOf e) ++ (elems ++ rest).flatMap (·.2) := hps
                simp only [DataW.weights, hu, List.length_map] at hW
                have hcapW : len ≤ 140737488351232 := by
                  have h1 := hW _ (List.mem_cons_self)
                  have h2 : elems.length = len := by simpa using mapM_some_length he1
                  have h3 : (elems.length + rest.length) * 1 ≤ (elems.length + rest.length) * P.bytesOf e := Nat.mul_le_mul_left _ (by omega)
                  simp only [reachBytes] at h1
                  omega
                have el : elems.length = len := by simpa using mapM_some_length he1
                have rl : rest.length = cap - len := by simpa using mapM_some_length hr1
                -- each piece
                have piece : ∀ i, i < cap → ∃ x ∈ elems ++ rest, ∃ vs, W.cells? 0 (a.add (i * P.cellsOf e)) (P.cellsOf e) = some vs ∧ DataW.trod enc P W 0 (fun _ => true) held fuel e vs = some x := by
                  intro i hi
                  by_cases hil : i < len
                  · have := mapM_some_get he1 i i (by rw [List.getElem?_range]; simp [hil])
                    obtain ⟨x, hx⟩ : ∃ x, elems[i]? = some x := ⟨_, List.getElem?_eq_getElem (by omega)⟩
                    rw [hx] at this
                    obtain ⟨vs, h1, h2⟩ := Option.bind_eq_some_iff.1 this
                    exact ⟨x, by simp [List.mem_of_getElem? hx], vs, h1, h2⟩
                  · have := mapM_some_get hr1 (i - len) (i - len) (by rw [List.getElem?_range (by omega)])
                    obtain ⟨x, hx⟩ : ∃ x, rest[i - len]? = some x := ⟨_, List.getElem?_eq_getElem (by omega)⟩
                    rw [hx] at this
                    obtain ⟨vs, h1, h2⟩ := Option.bind_eq_some_iff.1 this
                    rw [show len + (i - len) = i by omega] at h1
                    exact ⟨x, by simp [List.mem_of_getElem? hx], vs, h1, h2⟩
                have piece2 : ∀ i, i < cap → ∃ c, (c.length = P.cellsOf e ∧ HasS s' c) ∧ ∀ (r : Nat) (y : EV), c[r]? = some y → ∃ v, W.cell? ((a.add (i * P.cellsOf e)).add r) = some v ∧ v.oneCell' = true ∧ Rep W I [] y v := by
                  intro i hi
                  obtain ⟨x, hx, vs, h1, h2⟩ := piece i hi
                  obtain ⟨hvl, hvc⟩ := cellsQ h1
                  obtain ⟨c, k1, k2, k3⟩ := ih e vs x.1 x.2 m s' h2 hse (fun p hp => hI p (by
                    rw [hps]
                    exact List.mem_append.2 (.inr (List.mem_flatMap.2 ⟨x, hx, hp⟩)))) (fun n hn => hW n (List.mem_cons.2 (.inr (List.mem_append.2 (by
                      rcases List.mem_append.1 hx with hx | hx
                      · exact .inl (weightsAll_mem (List.mem_map.2 ⟨x, hx, rfl⟩) hn)
                      · exact .inr (weightsAll_mem (List.mem_map.2 ⟨x, hx, rfl⟩) hn))))))
                  refine ⟨c, ⟨by rw [k1.length, hvl], k2⟩, fun r y hy => ?_⟩
                  have hr : r < vs.length := by rw [← k1.length]; exact (List.getElem?_eq_some_iff.1 hy).1
                  have hv : vs[r]? = some vs[r] := List.getElem?_eq_getElem hr
                  exact ⟨vs[r], hvc r _ hv, k3 _ (List.mem_of_getElem? hv), k1.at r y _ hy hv⟩
                have hspot : cap ≠ 0 → a.spot = none := fun hc => by
                  obtain ⟨c, ⟨hcl, _⟩, hc2⟩ := piece2 0 (by omega)
                  have hne : 0 < c.length := by omega
                  obtain ⟨v, hv, _⟩ := hc2 0 c[0] (List.getElem?_eq_getElem hne)
                  simpa [Addr.add] using World.cell?_spot hv
                have hblk : cap ≠ 0 → I.j a.block := fun hc => hI (.cell a.block (a.off + 0)) (by
                  rw [hps]
                  refine List.mem_append.2 (.inl (List.mem_map.2 ⟨0, List.mem_range.2 ?_, rfl⟩))
                  rw [el, rl]
                  have : 0 < cap * P.cellsOf e := Nat.mul_pos (by omega) (by omega)
                  rw [show len + (cap - len) = cap by omega]; exact this)
                let f : Nat → List EV := fun i => if hi : i < cap then Classical.choose (piece2 i hi) else []
                have hf : ∀ i (hi : i < cap), f i = Classical.choose (piece2 i hi) := fun i hi => dif_pos hi
                obtain ⟨l, t1, t2, t3⟩ := tile (P.cellsOf e) f len (fun i hi => by rw [hf i (by omega)]; exact (Classical.choose_spec (piece2 i (by omega))).1.1)
                have hcell : ∀ (j : Nat) (x : EV), l[j]? = some x → ∃ v, W.cell? ⟨a.block, a.off + j, none⟩ = some v ∧ v.oneCell' = true ∧ Rep W I [] x v := by
                  intro j x hx
                  obtain ⟨i, r, hi, hr, rfl, hx2⟩ := t3 j x hx
                  rw [hf i (by omega)] at hx2
                  obtain ⟨v, q1, q2, q3⟩ := (Classical.choose_spec (piece2 i (by omega))).2 r x hx2
                  refine ⟨v, ?_, q2, q3⟩
                  have hsp := hspot (by omega)
                  rw [add_addr hsp, add_none] at q1
                  rw [← Nat.add_assoc]; exact q1
                refine ⟨[.isl len none l], ⟨?_, trivial⟩, ⟨len, l, rfl, hcapW, t1, fun i hi => ?_⟩, by simp [Value.oneCell']⟩
                · refine .isl [] len none l a cap (fun j => (W.cell? ⟨a.block, a.off + j, none⟩).getD undef) ⟨hle, fun q hq => by cases hq⟩ hspot (fun hc => ⟨hblk hc, fun j x hx => ?_⟩) (fun hc j x hx => ?_)
                  · obtain ⟨v, q1, q2, _⟩ := hcell j x hx
                    simp only [q1, Option.getD_some]; exact ⟨trivial, q2⟩
                  · obtain ⟨v, q1, _, q3⟩ := hcell j x hx
                    simp only [q1, Option.getD_some]; exact q3
                · rw [t2 i hi, hf i (by omega)]
                  exact (Classical.choose_spec (piece2 i (by omega))).1.2
        | struct fs =>
          simp only at hs
          cases hfs : shFs P (shOf P m) 0 fs.toList with
          | none => simp [hfs] at hs
          | some x =>
            obtain ⟨L, tot⟩ := x
            simp only [hfs] at hs
            split at hs
            · rename_i htot
              cases hs
              have htot := Nat.eq_of_beq_eq_true htot
              have main : ∀ (fs : List Field) (off : Nat) (L : ShL) (xs : List (DataW H × List MemPlace)), shFs P (shOf P m) off fs = some (L, tot) →
                  (fs.mapM fun f => DataW.trod enc P W 0 (fun _ => true) held fuel f.type ((cs.drop f.offset).take (P.cellsOf f.type))) = some xs → cs.length = tot →
                  (∀ p ∈ xs.flatMap (·.2), I.j p.block) → (∀ n ∈ DataW.weightsEach P (fs.map (·.type)) (xs.map (·.1)), n ≤ reachBytes) → ∃ c, RepL W I [] c (cs.drop off) ∧ HasF L c ∧ ∀ v ∈ cs.drop off, v.oneCell' = true := by
                intro fs
                induction fs with
                | nil =>
                  intro off L xs h1 _ h3 _ _
                  simp [shFs] at h1
                  obtain ⟨rfl, rfl⟩ := h1
                  rw [List.drop_eq_nil_of_le (by omega)]
                  exact ⟨[], trivial, rfl, by simp⟩
                | cons f fs ihf =>
                  intro off L xs h1 h2 h3 h4 h5
                  simp only [shFs] at h1
                  split at h1
                  · rename_i hoff
                    have hoff := Nat.eq_of_beq_eq_true hoff
                    split at h1
                    · rename_i s r tot' hg hr
                      simp at h1
                      obtain ⟨rfl, rfl⟩ := h1
                      simp only [List.mapM_cons] at h2
                      obtain ⟨x, hx, h2⟩ := Option.bind_eq_some_iff.1 h2
                      obtain ⟨xs', hxs, h2⟩ := Option.bind_eq_some_iff.1 h2
                      cases h2
                      rw [hoff] at hx
                      simp only [List.map_cons, DataW.weightsEach, List.mem_append] at h5
                      obtain ⟨c1, a1, a2, a3⟩ := ih f.type _ x.1 x.2 m s hx hg (fun p hp => h4 p (by simp [hp])) (fun n hn => h5 n (.inl hn))
                      obtain ⟨c2, b1, b2, b3⟩ := ihf _ _ _ hr hxs h3 (fun p hp => h4 p (by simp only [List.flatMap_cons, List.mem_append]; exact .inr hp)) (fun n hn => h5 n (.inr hn))
                      have hle := shFs_le hr
                      have hlen1 : c1.length = P.cellsOf f.type := by rw [a1.length]; simp; omega
                      have hsplit : cs.drop off = (cs.drop off).take (P.cellsOf f.type) ++ cs.drop (off + P.cellsOf f.type) := by
                        rw [← List.drop_drop]; exact (List.take_append_drop _ _).symm
                      refine ⟨c1 ++ c2, ?_, ⟨by simp [hlen1], ?_, ?_⟩, fun v hv => ?_⟩
                      · rw [hsplit]; exact repL_app a1 b1
                      · rw [List.take_append_of_le_length (by omega), List.take_of_length_le (by omega)]; exact a2
                      · rw [List.drop_append, List.drop_eq_nil_of_le (by omega), hlen1]; simpa using b2
                      · rw [hsplit, List.mem_append] at hv
                        exact hv.elim (a3 v) (b3 v)
                    · cases h1
                  · cases h1
              obtain ⟨hcl, xs, hxs, h, hdd⟩ := trod_structI hu h
              have hdd : d = _ := hdd
              subst hdd
              simp only [DataW.weights, hu] at hW
              obtain ⟨c, q1, q2, q3⟩ := main _ 0 L xs hfs hxs (by rw [hcl, htot]) (fun p hp => hI p (by rw [show ps = xs.flatMap (·.2) from h]; exact hp)) hW
              exact ⟨c, by simpa using q1, q2, by simpa using q3⟩
            · cases hs
        | array n e =>
          simp only at hs
          cases hse : shOf P m e with
          | none => simp [hse] at hs
          | some s' =>
            simp only [hse] at hs
            split at hs
            · rename_i hsz
              cases hs
              have hsz := Nat.eq_of_beq_eq_true hsz
              obtain ⟨hcl, xs, hxs, h, hdd⟩ := trod_arrayI hu h
              have hdd : d = _ := hdd
              subst hdd
              simp only [DataW.weights, hu] at hW
              have hcl' : cs.length = n * P.cellsOf e := by rw [hcl, hsz]
              have xl : xs.length = n := by simpa using mapM_some_length hxs
              have piece : ∀ i, i < n → ∃ c, (c.length = P.cellsOf e ∧ HasS s' c) ∧ RepL W I [] c ((cs.drop (i * P.cellsOf e)).take (P.cellsOf e)) ∧ ∀ v ∈ (cs.drop (i * P.cellsOf e)).take (P.cellsOf e), v.oneCell' = true := by
                intro i hi
                have := mapM_some_get hxs i i (by simp [hi])
                obtain ⟨x, hx⟩ : ∃ x, xs[i]? = some x := ⟨_, List.getElem?_eq_getElem (by omega)⟩
                rw [hx] at this
                obtain ⟨c, k1, k2, k3⟩ := ih e _ x.1 x.2 m s' this hse (fun p hp => hI p (by
                  rw [show ps = xs.flatMap (·.2) from h]; exact List.mem_flatMap.2 ⟨x, List.mem_of_getElem? hx, hp⟩)) (fun n hn => hW n (weightsAll_mem (List.mem_map.2 ⟨x, List.mem_of_getElem? hx, rfl⟩) hn))
                refine ⟨c, ⟨?_, k2⟩, k1, k3⟩
                rw [k1.length]
                have := Nat.mul_le_mul_right (P.cellsOf e) (show i + 1 ≤ n by omega)
                rw [Nat.add_mul] at this
                simp; omega
              let f : Nat → List EV := fun i => if hi : i < n then Classical.choose (piece i hi) else []
              have hf : ∀ i (hi : i < n), f i = Classical.choose (piece i hi) := fun i hi => dif_pos hi
              obtain ⟨l, t1, t2, t3⟩ := tile (P.cellsOf e) f n (fun i hi => by rw [hf i hi]; exact (Classical.choose_spec (piece i hi)).1.1)
              refine ⟨l, RepL.mk (by rw [t1, hcl']) fun j x v hx hv => ?_, ⟨t1, fun i hi => by rw [t2 i hi, hf i hi]; exact (Classical.choose_spec (piece i hi)).1.2⟩, fun v hv => ?_⟩
              · obtain ⟨i, r, hi, hr, rfl, hx2⟩ := t3 j x hx
                rw [hf i hi] at hx2
                refine (Classical.choose_spec (piece i hi)).2.1.at r x v hx2 ?_
                rw [List.getElem?_take, if_pos hr, List.getElem?_drop]; exact hv
              · obtain ⟨j, hj⟩ := List.getElem?_of_mem hv
                have hjl := (List.getElem?_eq_some_iff.1 hj).1
                rw [hcl'] at hjl
                have hpos : 0 < P.cellsOf e := by
                  rcases Nat.eq_zero_or_pos (P.cellsOf e) with h0 | h0
                  · rw [h0] at hjl; simp at hjl
                  · exact h0
                have hi : j / P.cellsOf e < n := (Nat.div_lt_iff_lt_mul hpos).2 hjl
                refine (Classical.choose_spec (piece _ hi)).2.2 v (List.mem_of_getElem? (i := j % P.cellsOf e) ?_)
                rw [List.getElem?_take, if_pos (Nat.mod_lt _ hpos), List.getElem?_drop, Nat.mul_comm, Nat.div_add_mod]; exact hj
            · cases hs
        | _ => simp at hs
/-- A value as a shape asks. -/
def HasV : Sh → EV → Prop
  | .struct l, e => ∃ c, e = .agg c ∧ HasS (.struct l) c
  | .arr m n s, e => ∃ c, e = .agg c ∧ HasS (.arr m n s) c
  | s, e => HasS s [e]
theorem arg_rep {t : TypeId} {v : Value} {d : DataW H} {ps : List MemPlace} {m : Nat} {s : Sh} {base : Nat} (hs : shOf P m t = some s) (hv : Value.okWide P W .any base t v)
    (h : DataW.Trod enc P W 0 (fun _ => true) held t v d ps) (hI : ∀ p ∈ ps, I.j p.block) (hW : ∀ n ∈ d.weights P t, n ≤ reachBytes) : ∃ e, Rep W I [] e v ∧ HasV s e := by
  obtain ⟨fuel, h⟩ := h
  obtain ⟨c, k1, k2, k3⟩ := trod_rep fuel t _ d ps m s h hs hI hW
  have one : v.cells.toList = [v] → (∀ l, s ≠ .struct l) → (∀ m n s', s ≠ .arr m n s') → ∃ e, Rep W I [] e v ∧ HasV s e := by
    intro hv1 h1 h2
    rw [hv1] at k1
    match c, k1 with
    | [e], k1 =>
      refine ⟨e, k1.1, ?_⟩
      cases s with
      | struct l => exact absurd rfl (h1 l)
      | arr m n s' => exact absurd rfl (h2 m n s')
      | _ => exact k2
  cases m with
  | zero => simp [shOf] at hs
  | succ m =>
    simp only [shOf] at hs
    cases hu : P.underlying t with
    | none => simp [hu] at hs
    | some td =>
      simp only [hu] at hs
      simp only [Value.okWide, hu] at hv
      cases td with
      | struct fs =>
        obtain ⟨cs, rfl, _⟩ := hv
        simp only at hs
        split at hs
        · split at hs
          · cases hs
            exact ⟨.agg c, agg_of_list (by simpa [Value.cells] using k1), c, rfl, k2⟩
          · cases hs
        · cases hs
      | array n e =>
        obtain ⟨cs, rfl, _⟩ := hv
        simp only at hs
        split at hs
        · split at hs
          · cases hs
            exact ⟨.agg c, agg_of_list (by simpa [Value.cells] using k1), c, rfl, k2⟩
          · cases hs
        · cases hs
      | bool => simp at hs; subst hs; refine one ?_ (by simp) (by simp); cases v <;> simp_all [Cell.okWide, Cell.ok, Value.cells]
      | int k => simp at hs; subst hs; refine one ?_ (by simp) (by simp); cases v <;> simp_all [Cell.okWide, Cell.ok, Value.cells]
      | float k => simp at hs; subst hs; refine one ?_ (by simp) (by simp); cases v <;> simp_all [Cell.okWide, Cell.ok, Value.cells]
      | string => simp at hs; subst hs; refine one ?_ (by simp) (by simp); cases v <;> simp_all [Cell.okWide, Cell.ok, Value.cells]
      | slice e =>
        refine one ?_ ?_ ?_
        · cases v <;> simp_all [Cell.okWide, Cell.ok, Value.cells]
        · intro l he; subst he; simp only at hs; split at hs <;> (try split at hs) <;> cases hs
        · intro a b c he; subst he; simp only at hs; split at hs <;> (try split at hs) <;> cases hs
      | _ => simp at hs
def HasVs : List Sh → List EV → Prop
  | [], es => es = []
  | s :: l, es => ∃ e r, es = e :: r ∧ HasV s e ∧ HasVs l r
theorem args_rep {base : Nat} (m : Nat) : ∀ (ts : List TypeId) (ss : List Sh) (vs : List Value) (ds : List (DataW H)) (ps : List MemPlace), ts.mapM (shOf P m) = some ss →
    (∀ (j : Nat) t v, ts[j]? = some t → vs[j]? = some v → Value.okWide P W .any base t v) → DataW.TrodAll enc P W 0 (fun _ => true) held ts vs ds ps → (∀ p ∈ ps, I.j p.block) → (∀ n ∈ DataW.weightsEach P ts ds, n ≤ reachBytes) → ∃ es, RepL W I [] es vs ∧ HasVs ss es
  | [], ss, vs, ds, ps, h1, h2, h3, h4, h5 => by
    simp at h1; subst h1
    cases vs with
    | nil => exact ⟨[], trivial, rfl⟩
    | cons v vs => cases ds <;> simp [DataW.TrodAll] at h3
  | t :: ts, ss, vs, ds, ps, h1, h2, h3, h4, h5 => by
    cases vs with
    | nil => cases ds <;> simp [DataW.TrodAll] at h3
    | cons v vs =>
      cases ds with
      | nil => simp [DataW.TrodAll] at h3
      | cons d ds =>
        obtain ⟨p, q, a1, a2, rfl⟩ := h3
        simp only [List.mapM_cons] at h1
        obtain ⟨s, hs, h1⟩ := Option.bind_eq_some_iff.1 h1
        obtain ⟨ss', hss, h1⟩ := Option.bind_eq_some_iff.1 h1
        cases h1
        obtain ⟨e, b1, b2⟩ := arg_rep hs (h2 0 t v rfl rfl) a1 (fun x hx => h4 x (by simp [hx])) (fun n hn => h5 n (by simp only [DataW.weightsEach, List.mem_append]; exact .inl hn))
        obtain ⟨es, c1, c2⟩ := args_rep m ts ss' vs ds q hss (fun j t v hj hv => h2 (j + 1) t v (by simpa using hj) (by simpa using hv)) a2 (fun x hx => h4 x (by simp [hx])) (fun n hn => h5 n (by simp only [DataW.weightsEach, List.mem_append]; exact .inr hn))
        exact ⟨e :: es, ⟨b1, c1⟩, e, es, rfl, b2, c2⟩
/-- the world ahead of the call is kept whole -/
def allI (P : Program) (W : World) : Imm := ⟨fun b => b < W.heap.size, fun b => b < W.heap.size, fun _ h => h, P, [], false⟩
theorem Keep.below {W W' : World} (h : Keep (allI P W) W W') : Below W.heap.size W W' := ⟨h.os, h.tape, h.output, h.size, fun k hk => h.same k hk⟩
def yesE (v : EV) (_ : EH) : Prop := v = .lit (.bool true) ∨ v = .sb true
/-- **A law's call, out of its contract.** -/
theorem law_calls {f : FuncId} {args : Array Value} {ts : List TypeId} {ss : List Sh} {ds : List (DataW H)} {ps : List MemPlace} {base : Nat} {G : List (List EV)} (m : Nat) (hss : ts.mapM (shOf P m) = some ss)
    (hval : ∀ (j : Nat) t v, ts[j]? = some t → args[j]? = some v → Value.okWide P W .any base t v) (hA : DataW.TrodAll enc P W 0 (fun _ => true) held ts args.toList ds ps) (hps : ∀ p ∈ ps, p.block < W.heap.size)
    (hW : ∀ n ∈ DataW.weightsEach P ts ds, n ≤ reachBytes) (hG : Glob W (allI P W) G) (hf : ∀ es, HasVs ss es → Tri P G f es [] yesE) : Calls P f args W fun e W' => e = .returned (.bool true) ∧ Below W.heap.size W W' := by
  obtain ⟨es, h1, h2⟩ := args_rep (I := allI P W) m ts ss args.toList ds ps hss (fun j t v hj hv => hval j t v hj (by simpa using hv)) hA hps hW
  refine (hf es h2 (allI P W) [] W args (fun b hb => hb) ⟨rfl, fun id => trivial, fun i j b o o' hi => absurd rfl hi⟩ h1 ⟨hG, rfl⟩).mono fun e w' ⟨v, cv, h', I', ρ1, q1, q2, q3, q4, q5, q6, q7⟩ => ?_
  subst q1
  refine ⟨?_, q7.below⟩
  rcases q2 with rfl | rfl
  · cases q6; rfl
  · cases q6; rfl
theorem trodAll_below (hl : laidOutB P = true) {W' : World} (hb : Below W.heap.size W W') : ∀ {ts : List TypeId} {vs : List Value} {ds : List (DataW H)} {ps : List MemPlace}, (ts.all fun t => P.readableRec t && decide (t < P.types.size)) = true →
    DataW.TrodAll enc P W 0 (fun _ => true) true ts vs ds ps → (∀ x ∈ ps, x.block < W.heap.size) → DataW.TrodAll enc P W' 0 (fun b => decide (b < W.heap.size)) true ts vs ds ps
  | [], vs, ds, ps, _, h, _ => by
    cases vs with
    | nil => cases ds with
      | nil => exact h
      | cons _ _ => simp [DataW.TrodAll] at h
    | cons _ _ => cases ds <;> simp [DataW.TrodAll] at h
  | t :: ts, vs, ds, ps, hr, h, hlt => by
    cases vs with
    | nil => cases ds <;> simp [DataW.TrodAll] at h
    | cons v vs => cases ds with
      | nil => simp [DataW.TrodAll] at h
      | cons d ds =>
        obtain ⟨p, q, a1, a2, rfl⟩ := h
        simp only [List.all_cons, Bool.and_eq_true, decide_eq_true_eq] at hr
        exact ⟨p, q, Below.trod hl hr.1.1 hr.1.2 a1 hb (fun x hx => hlt x (by simp [hx])), trodAll_below hl hb hr.2 a2 (fun x hx => hlt x (by simp [hx])), rfl⟩
theorem trodAll_lt : ∀ {ts : List TypeId} {vs : List Value} {ds : List (DataW H)} {ps : List MemPlace}, DataW.TrodAll enc P W 0 (fun _ => true) held ts vs ds ps → ∀ p ∈ ps, p.block < W.heap.size
  | [], vs, ds, ps, h => by
    cases vs with
    | nil => cases ds with
      | nil => intro p hp; rw [show ps = [] from h] at hp; cases hp
      | cons _ _ => simp [DataW.TrodAll] at h
    | cons _ _ => cases ds <;> simp [DataW.TrodAll] at h
  | t :: ts, vs, ds, ps, h => by
    cases vs with
    | nil => cases ds <;> simp [DataW.TrodAll] at h
    | cons v vs => cases ds with
      | nil => simp [DataW.TrodAll] at h
      | cons d ds =>
        obtain ⟨p, q, ⟨fuel, a1⟩, a2, rfl⟩ := h
        intro x hx
        rcases List.mem_append.1 hx with hx | hx
        · exact DataW.trod_lt fuel _ _ _ a1 x hx
        · exact trodAll_lt a2 x hx
end
end Go.Proofs.YtpgeonghlabnhaaGreatDoor.Em
