/- Em28: what a listed variable holds: flat data (numbers, strings, arrays and structs of them), cell by cell. No conditions beyond those written. -/
import Derived.Test.YtpgeonghlabnhaaGreatDoorEm23
import Derived.FnData
set_option linter.unusedVariables false
set_option linter.unusedSimpArgs false
namespace Go.Proofs.YtpgeonghlabnhaaGreatDoor.Em
open Go Go.RowKit
section
variable {H : Type} {enc : TypeId × Value → H} {P : Program} {W : World} {held : Bool}
def litV : Lit → Value
  | .bool b => .bool b
  | .int k n => .int k n
  | .float k b => .float k b
  | .string l => .string ⟨l.toArray⟩
  | _ => .nilIface
mutual
def datV {H : Type} : DataW H → List Value
  | .lit l => [litV l]
  | .agg ds => datVs ds
  | _ => []
def datVs {H : Type} : List (DataW H) → List Value
  | [] => []
  | d :: ds => datV d ++ datVs ds
end
def tiles (P : Program) : Nat → List Field → Nat → Bool
  | off, [], tot => Nat.beq off tot
  | off, f :: l, tot => Nat.beq f.offset off && tiles P (off + P.cellsOf f.type) l tot
def flatT (P : Program) : Nat → TypeId → Bool
  | 0, _ => false
  | m + 1, t =>
    match P.underlying t with
    | some .bool => true
    | some (.int _) => true
    | some (.float _) => true
    | some .string => true
    | some (.array n e) => flatT P m e && Nat.beq (P.cellsOf t) (n * P.cellsOf e)
    | some (.struct fs) => fs.toList.all (fun f => flatT P m f.type) && tiles P 0 fs.toList (P.cellsOf t)
    | _ => false
theorem datVs_eq : ∀ l : List (DataW H), datVs l = l.flatMap datV
  | [] => by simp [datVs]
  | d :: l => by simp [datVs, datVs_eq l]
theorem pieces_eq {α : Type} (c : Nat) : ∀ (n : Nat) (l : List α), l.length = n * c → l = (List.range n).flatMap fun i => (l.drop (i * c)).take c
  | 0, l, h => by
    have : l = [] := List.length_eq_zero_iff.1 (by simpa using h)
    simp [this]
  | n + 1, l, h => by
    have e := pieces_eq c n (l.drop c) (by simp [h, Nat.succ_mul])
    rw [List.range_succ_eq_map, List.flatMap_cons, List.flatMap_map]
    have : (List.range n).flatMap (fun i => (l.drop (i.succ * c)).take c) = l.drop c := by
      conv => rhs; rw [e]
      congr 1
      funext i
      rw [List.drop_drop, Nat.succ_mul, Nat.add_comm]
    rw [this]
    simp
theorem tiles_eq {α : Type} {tot : Nat} {l : List α} (hl : l.length = tot) : ∀ (fs : List Field) (off : Nat), tiles P off fs tot = true → l.drop off = fs.flatMap fun f => (l.drop f.offset).take (P.cellsOf f.type)
  | [], off, h => by
    simp only [tiles, Nat.beq_eq] at h
    simp [h, ← hl]
  | f :: fs, off, h => by
    simp only [tiles, Bool.and_eq_true, Nat.beq_eq] at h
    rw [List.flatMap_cons, ← tiles_eq hl fs _ h.2, h.1, ← List.drop_drop, List.take_append_drop]
theorem flatMap_of_mapM {α β γ : Type} {f : α → Option β} {g : α → List γ} {k : β → List γ} : ∀ {l : List α} {xs : List β}, l.mapM f = some xs → (∀ a ∈ l, ∀ b, f a = some b → g a = k b) → l.flatMap g = xs.flatMap k
  | [], xs, h, _ => by simp at h; subst h; rfl
  | a :: l, xs, h, hg => by
    simp only [List.mapM_cons] at h
    obtain ⟨b, hb, h⟩ := Option.bind_eq_some_iff.1 h
    obtain ⟨r, hr, h⟩ := Option.bind_eq_some_iff.1 h
    cases h
    rw [List.flatMap_cons, List.flatMap_cons, hg a (by simp) b hb, flatMap_of_mapM hr fun a ha => hg a (by simp [ha])]
/-- flat data: the cells that were read -/
theorem flat_of : ∀ (m fuel : Nat) (t : TypeId) (cs : List Value) (x : DataW H × List MemPlace), flatT P m t = true → DataW.trod enc P W 0 (fun _ => true) held fuel t cs = some x → cs = datV x.1
  | 0, _, _, _, _, hf, _ => by simp [flatT] at hf
  | m + 1, 0, _, _, _, _, h => by simp [DataW.trod] at h
  | m + 1, fuel + 1, t, cs, x, hf, h => by
    simp only [flatT] at hf
    split at hf
    · rename_i hu
      simp only [DataW.trod, hu] at h
      split at h
      all_goals first | (cases h; rfl) | (exfalso; simp_all; done)
    · rename_i k hu
      simp only [DataW.trod, hu] at h
      split at h
      all_goals first
        | (rename_i k0 k' n he; cases he; split at h
           · rename_i hk; obtain ⟨rfl, hw⟩ := hk; cases h; rfl
           · cases h)
        | (exfalso; simp_all; done)
    · rename_i k hu
      simp only [DataW.trod, hu] at h
      split at h
      all_goals first
        | (rename_i k0 k' n he; cases he; split at h
           · rename_i hk; obtain ⟨rfl, hw⟩ := hk; cases h; rfl
           · cases h)
        | (exfalso; simp_all; done)
    · rename_i hu
      obtain ⟨s, rfl, _, hx⟩ := trod_stringI hu h
      rw [hx]
      simp [datV, litV]
    · rename_i n e hu
      simp only [Bool.and_eq_true, Nat.beq_eq] at hf
      obtain ⟨hl, xs, hxs, _, hx⟩ := trod_arrayI hu h
      rw [hx, datV, datVs_eq, List.flatMap_map, pieces_eq (P.cellsOf e) n cs (by rw [hl, hf.2])]
      exact flatMap_of_mapM hxs fun i _ b hb => flat_of m fuel e _ b hf.1 hb
    · rename_i fs hu
      simp only [Bool.and_eq_true, List.all_eq_true] at hf
      obtain ⟨hl, xs, hxs, _, hx⟩ := trod_structI hu h
      have e := tiles_eq hl fs.toList 0 hf.2
      rw [List.drop_zero] at e
      rw [hx, datV, datVs_eq, List.flatMap_map, e]
      exact flatMap_of_mapM hxs fun f hm b hb => flat_of m fuel f.type _ b (hf.1 f hm) hb
    · cases hf
mutual
/-- no part but numbers, strings and lists of them -/
def oneD {H : Type} : DataW H → Bool
  | .lit (.bool _) => true
  | .lit (.int _ _) => true
  | .lit (.float _ _) => true
  | .lit (.string _) => true
  | .agg ds => oneDs ds
  | _ => false
def oneDs {H : Type} : List (DataW H) → Bool
  | [] => true
  | d :: ds => oneD d && oneDs ds
end
mutual
theorem oneD_ok : ∀ d : DataW H, oneD d = true → ∀ v ∈ datV d, v.oneCell' = true
  | .lit l, h, v, hv => by
    simp only [datV, List.mem_singleton] at hv
    subst hv
    cases l <;> simp_all [oneD, litV, Value.oneCell']
  | .agg ds, h, v, hv => oneDs_ok ds (by simpa [oneD] using h) v (by simpa [datV] using hv)
  | .nil, h, _, _ | .ptr _, h, _, _ | .slice _ _, h, _, _ | .iface _ _, h, _, _ | .map _, h, _, _ | .held _, h, _, _ => by simp [oneD] at h
theorem oneDs_ok : ∀ ds : List (DataW H), oneDs ds = true → ∀ v ∈ datVs ds, v.oneCell' = true
  | [], _, v, hv => by simp [datVs] at hv
  | d :: ds, h, v, hv => by
    simp only [oneDs, Bool.and_eq_true] at h
    simp only [datVs, List.mem_append] at hv
    rcases hv with hv | hv
    · exact oneD_ok d h.1 v hv
    · exact oneDs_ok ds h.2 v hv
end
theorem laid_at : ∀ {l : List (String × DataW Unit)} {ps : List MemPlace}, DataW.LaidVars P W l ps → ∀ n d, (n, d) ∈ l →
    ∃ g t cs fuel p, P.globalNamed n = some g ∧ (P.globals[g]?).map (·.type) = some t ∧ W.var? P n = some cs ∧ DataW.trod (fun _ => ()) P W 0 (fun _ => true) false fuel t cs.toList = some (d, p)
  | [], _, _, _, _, hm => by cases hm
  | (n', d') :: r, ps, h, n, d, hm => by
    obtain ⟨g, t, cs, fuel, p, q, h1, h2, h3, h4, h5, _⟩ := h
    rcases List.mem_cons.1 hm with e | e
    · cases e
      exact ⟨g, t, cs, fuel, p, h1, h2, h3, h4⟩
    · exact laid_at h5 n d e
/-- what a program's variables hold, by the list of those that are listed -/
def varsG (xs : List (Option (String × DataW Unit))) : List (List EV) := xs.map fun x => match x with | none => [] | some y => (datV y.2).map .lit
def okX (P : Program) (m : Nat) : Nat → List (Option (String × DataW Unit)) → Bool
  | _, [] => true
  | i, none :: xs => okX P m (i + 1) xs
  | i, some y :: xs =>
    (match P.globalNamed y.1 with | some g => Nat.beq g i | none => false) && (match (P.globals[i]?).map (·.type) with | some t => flatT P m t | none => false) && oneD y.2 && okX P m (i + 1) xs
theorem okX_at {m : Nat} : ∀ {xs : List (Option (String × DataW Unit))} {i : Nat}, okX P m i xs = true → ∀ (j : Nat) y, xs[j]? = some (some y) →
    P.globalNamed y.1 = some (i + j) ∧ (∃ t, (P.globals[i + j]?).map (·.type) = some t ∧ flatT P m t = true) ∧ oneD y.2 = true
  | [], _, _, j, y, hj => by simp at hj
  | none :: xs, i, h, j, y, hj => by
    cases j with
    | zero => simp at hj
    | succ j =>
      have := okX_at (i := i + 1) (by simpa [okX] using h) j y (by simpa using hj)
      rwa [show i + (j + 1) = i + 1 + j by omega]
  | some z :: xs, i, h, j, y, hj => by
    simp only [okX, Bool.and_eq_true] at h
    cases j with
    | zero =>
      simp only [List.getElem?_cons_zero, Option.some.injEq] at hj
      subst hj
      obtain ⟨⟨⟨h1, h2⟩, h3⟩, _⟩ := h
      refine ⟨?_, ?_, h3⟩
      · split at h1
        · rename_i g hg
          rw [hg, Nat.eq_of_beq_eq_true h1]; rfl
        · cases h1
      · split at h2
        · rename_i t ht
          exact ⟨t, ht, h2⟩
        · cases h2
    | succ j =>
      have := okX_at (i := i + 1) h.2 j y (by simpa using hj)
      rwa [show i + (j + 1) = i + 1 + j by omega]
theorem var_lt {n : String} {g : Nat} {cs : Array Value} (hg : P.globalNamed n = some g) (h : W.var? P n = some cs) : g < W.heap.size := by
  simp only [World.var?, hg, Option.bind_some] at h
  split at h
  · rename_i hh
    exact (Array.getElem?_eq_some_iff.1 hh).1
  · cases h
theorem Glob.ofX {l : List (String × DataW Unit)} {xs : List (Option (String × DataW Unit))} {m : Nat} (hl : laidMet P l W) (hx : okX P m 0 xs = true) (hm : ∀ (j : Nat) y, xs[j]? = some (some y) → y ∈ l)
    (hsz : xs.length ≤ W.heap.size) : Glob W (allI P W) (varsG xs) := by
  intro g c hc ρ
  obtain ⟨ps, hv, _⟩ := hl
  simp only [varsG, List.getElem?_map, Option.map_eq_some_iff] at hc
  obtain ⟨x, hxg, rfl⟩ := hc
  have hlt : g < xs.length := (List.getElem?_eq_some_iff.1 hxg).1
  cases x with
  | none => exact .iptr ρ [] 0 g 0 (fun _ => .nilIface) (show g < W.heap.size by omega) (fun j x h => by simp at h) (fun j x h => by simp at h)
  | some y =>
    obtain ⟨h1, ⟨t, h2, h3⟩, h4⟩ := okX_at hx g y hxg
    rw [Nat.zero_add] at h1 h2
    obtain ⟨g', t', cs, fuel, p, k1, k2, k3, k4⟩ := laid_at hv y.1 y.2 (hm g y hxg)
    rw [h1] at k1; cases k1
    rw [h2] at k2; cases k2
    have e := flat_of m fuel t cs.toList (y.2, p) h3 k4
    have hval : ∀ (j : Nat) (v : EV), ((datV y.2).map EV.lit)[j]? = some v → ∃ u, v = .lit u ∧ cs[j]? = some u := fun j v h => by
      simp only [List.getElem?_map, Option.map_eq_some_iff] at h
      obtain ⟨u, hu, rfl⟩ := h
      have e' : cs.toList = datV y.2 := e
      refine ⟨u, rfl, ?_⟩
      rw [← e', Array.getElem?_toList] at hu
      exact hu
    refine .iptr ρ _ 0 g 0 (fun j => (cs[j]?).getD .nilIface) (show g < W.heap.size by omega) (fun j x h => ?_) (fun j x h => ?_)
    · obtain ⟨u, rfl, hu⟩ := hval j x h
      rw [Nat.zero_add, World.var?_cell h1 k3, hu]
      refine ⟨rfl, oneD_ok y.2 h4 u ?_⟩
      have e' : cs.toList = datV y.2 := e
      rw [← e']
      exact List.mem_of_getElem? (by rw [Array.getElem?_toList]; exact hu)
    · obtain ⟨u, rfl, hu⟩ := hval j x h
      rw [hu]
      exact .lit _ _
end
end Go.Proofs.YtpgeonghlabnhaaGreatDoor.Em
