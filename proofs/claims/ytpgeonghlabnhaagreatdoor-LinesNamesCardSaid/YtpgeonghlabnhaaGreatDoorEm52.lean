/- Em52: what the program's variables hold, where some of them hold an error laid by a call: of it the type alone is known. No conditions beyond those written. -/
import Derived.Test.YtpgeonghlabnhaaGreatDoorEm28
set_option linter.unusedVariables false
set_option linter.unusedSimpArgs false
namespace Go.Proofs.YtpgeonghlabnhaaGreatDoor.Em
open Go Go.RowKit
section
variable {P : Program} {W : World}
/-- a variable: not listed; flat data; a value of an interface's type -/
inductive VG where
  | no
  | flat (y : String × DataW Unit)
  | sent (n base : String) (T : Nat) (d : DataW Unit)
def VG.g : VG → List EV
  | .no => []
  | .flat y => (datV y.2).map .lit
  | .sent _ _ T _ => [.iface T .top]
def VG.y : VG → Option (String × DataW Unit)
  | .no => none
  | .flat y => some y
  | .sent n base _ d => some (n, .iface ("*" ++ base) d)
def nameIs (P : Program) (n : String) (i : Nat) : Bool := match P.globalNamed n with | some g => Nat.beq g i | none => false
theorem nameIs_at {n : String} {i : Nat} (h : nameIs P n i = true) : P.globalNamed n = some i := by
  unfold nameIs at h
  split at h
  · rename_i g hg
    rw [hg, Nat.eq_of_beq_eq_true h]
  · cases h
/-- descriptions of types that have no name of their own -/
def unn : TypeDesc → Bool
  | .named _ _ | .pointer _ | .bool | .int _ | .float _ | .string => false
  | _ => true
def isNamed : TypeDesc → Bool
  | .named _ _ => true
  | _ => false
theorem reckon_desc {info : TypeId → Option TypeInfo} {d : TypeDesc} {i : TypeInfo} (h : Made.reckon info d = some i) :
    (∃ e j, i.desc = .pointer e ∧ info e = some j ∧ isNamed j.desc = false) ∨ unn i.desc = true := by
  cases d <;> simp only [Made.reckon] at h <;> try (cases h; done)
  case pointer e =>
    obtain ⟨j, hj, h⟩ := Option.bind_eq_some_iff.1 h
    left
    split at h
    · cases h
    · rename_i fs hd
      split at h
      · cases h
      · obtain ⟨s, _, h⟩ := Option.bind_eq_some_iff.1 h
        cases h
        exact ⟨e, j, rfl, hj, by rw [hd]; rfl⟩
    · rename_i hn _
      obtain ⟨s, _, h⟩ := Option.bind_eq_some_iff.1 h
      cases h
      refine ⟨e, j, rfl, hj, ?_⟩
      cases hd : j.desc <;> first | rfl | (exact absurd hd (hn _ _))
  case struct fs =>
    right
    unfold Made.reckonStruct at h
    obtain ⟨r, _, h⟩ := Option.bind_eq_some_iff.1 h
    dsimp only at h
    split at h
    · cases h; rfl
    · cases h; rfl
  case map k e =>
    right
    obtain ⟨_, _, h⟩ := Option.bind_eq_some_iff.1 h
    obtain ⟨_, _, h⟩ := Option.bind_eq_some_iff.1 h
    obtain ⟨_, _, h⟩ := Option.bind_eq_some_iff.1 h
    obtain ⟨_, _, h⟩ := Option.bind_eq_some_iff.1 h
    cases h
    rfl
  case func ps rs v =>
    right
    obtain ⟨_, _, h⟩ := Option.bind_eq_some_iff.1 h
    cases h
    rfl
  all_goals
    right
    obtain ⟨_, _, h⟩ := Option.bind_eq_some_iff.1 h
    obtain ⟨_, _, h⟩ := Option.bind_eq_some_iff.1 h
    cases h
    rfl
theorem infoAt_succ (T : Tables) (f t : Nat) : Made.infoAt T (f + 1) t = if t < T.types.size then T.types[t]? else (Made.decode (t - T.types.size)).bind (Made.reckon (Made.infoAt T f)) := rfl
theorem tn_unn {d u : Nat} {i : TypeInfo} (hi : P.info? u = some i) (hd : unn i.desc = true) : P.typeName? (d + 1) u = none := by
  simp only [Program.typeName?, hi]
  cases hdd : i.desc <;> rw [hdd] at hd <;> first | rfl | (cases hd)
theorem tn_ptr {d u e : Nat} {i : TypeInfo} {x : String} (hi : P.info? u = some i) (hd : i.desc = .pointer e) (h : P.typeName? (d + 1) u = some x) : ∃ y, P.typeName? d e = some y ∧ "*" ++ y = x := by
  simp only [Program.typeName?, hi, hd] at h
  exact Option.map_eq_some_iff.1 h
/-- what a name's pointer type is called, no type but a listed one is -/
def soleName (P : Program) (base : String) (T : Nat) : Bool :=
  (List.range P.types.size).all fun u => (match P.typeName? 3 u with | some x => !(x == "*" ++ base) || Nat.beq u T | none => true) &&
    (match P.types[u]? with | some j => isNamed j.desc || (match P.typeName? 2 u with | some x => !(x == base) | none => true) | none => true)
theorem typeName_sole {u T : Nat} {base : String} (hs : soleName P base T = true) (hb : ∀ s : String, "*" ++ s ≠ base) (h : P.typeName? 3 u = some ("*" ++ base)) : u = T := by
  unfold soleName at hs
  rw [List.all_eq_true] at hs
  have inj : ∀ s : String, "*" ++ s = "*" ++ base → s = base := fun s hh => by
    have := congrArg String.toList hh
    simp only [String.toList_append, List.append_cancel_left_eq] at this
    exact String.toList_inj.1 this
  have made : ∀ {v : Nat} {i : TypeInfo}, ¬ v < P.types.size → P.info? v = some i → (∃ e j, i.desc = .pointer e ∧ Made.infoAt P.toTables 99 e = some j ∧ isNamed j.desc = false) ∨ unn i.desc = true := by
    intro v i hv hi
    have hi : Made.infoAt P.toTables (99 + 1) v = some i := by
      unfold Tables.info? at hi
      rwa [if_neg hv] at hi
    rw [infoAt_succ, if_neg hv] at hi
    obtain ⟨d, _, hd⟩ := Option.bind_eq_some_iff.1 hi
    exact reckon_desc hd
  by_cases hu : u < P.types.size
  · have := hs u (List.mem_range.2 hu)
    rw [Bool.and_eq_true] at this
    have := this.1
    rw [h] at this
    simp only [beq_self_eq_true, Bool.not_true, Bool.false_or] at this
    exact Nat.eq_of_beq_eq_true this
  · exfalso
    cases hi : P.info? u with
    | none => simp [Program.typeName?, hi] at h
    | some i =>
      rcases made hu hi with ⟨e, j, hd, hj, hn⟩ | hd
      · obtain ⟨x, hx, he⟩ := tn_ptr hi hd h
        have hx2 := inj x he
        subst hx2
        by_cases hlt : e < P.types.size
        · have hte : P.types[e]? = some j := by
            have hj : Made.infoAt P.toTables (98 + 1) e = some j := hj
            rwa [infoAt_succ, if_pos hlt] at hj
          have := hs e (List.mem_range.2 hlt)
          rw [Bool.and_eq_true] at this
          have := this.2
          rw [hte, hx] at this
          simp [hn] at this
        · cases hi2 : P.info? e with
          | none => simp [Program.typeName?, hi2] at hx
          | some i2 =>
            rcases made hlt hi2 with ⟨e2, j2, hd2, _, _⟩ | hd2
            · obtain ⟨y, _, hy⟩ := tn_ptr hi2 hd2 hx
              exact hb _ hy
            · rw [tn_unn hi2 hd2] at hx; cases hx
      · rw [tn_unn hi hd] at h; cases h
def VG.ok (P : Program) (m i : Nat) : VG → Bool
  | .no => true
  | .flat y => nameIs P y.1 i && (match (P.globals[i]?).map (·.type) with | some t => flatT P m t | none => false) && oneD y.2
  | .sent n base T _ => nameIs P n i && (match (P.globals[i]?).map (·.type) with | some t => (match P.underlying t with | some (.interface _) => true | _ => false) | none => false) && soleName P base T && !(base.toList.head?.map (fun c => c.toNat) == some 42)
def okS (P : Program) (m : Nat) : Nat → List VG → Bool
  | _, [] => true
  | i, x :: xs => x.ok P m i && okS P m (i + 1) xs
theorem okS_at {m : Nat} : ∀ {xs : List VG} {i : Nat}, okS P m i xs = true → ∀ (j : Nat) x, xs[j]? = some x → x.ok P m (i + j) = true
  | [], _, _, j, y, hj => by simp at hj
  | z :: xs, i, h, j, y, hj => by
    simp only [okS, Bool.and_eq_true] at h
    cases j with
    | zero =>
      simp only [List.getElem?_cons_zero, Option.some.injEq] at hj
      subst hj
      exact h.1
    | succ j =>
      have := okS_at (i := i + 1) h.2 j y (by simpa using hj)
      rwa [show i + (j + 1) = i + 1 + j by omega]
theorem trod_ifaceI {fuel : Nat} {t : TypeId} {ms : Array (String × TypeId)} {cs : List Value} {name : String} {d : DataW Unit} {p : List MemPlace} (hu : P.underlying t = some (.interface ms))
    (h : DataW.trod (fun _ => ()) P W 0 (fun _ => true) false fuel t cs = some (.iface name d, p)) : ∃ u v, cs = [.iface u v] ∧ P.typeName? 3 u = some name := by
  cases fuel with
  | zero => simp [DataW.trod] at h
  | succ fuel =>
    simp only [DataW.trod, hu] at h
    split at h
    all_goals first
      | (rename_i u v he
         cases hn : P.typeName? 3 u with
         | none => simp [hn] at h
         | some nm =>
           simp only [hn] at h
           obtain ⟨x, _, hx⟩ := Option.map_eq_some_iff.1 h
           cases hx
           exact ⟨u, v, rfl, hn⟩)
      | (exfalso; simp_all; done)
theorem Glob.ofS {l : List (String × DataW Unit)} {xs : List VG} {m : Nat} (hl : laidMet P l W) (hx : okS P m 0 xs = true) (hm : ∀ (j : Nat) x y, xs[j]? = some x → x.y = some y → y ∈ l)
    (hsz : xs.length ≤ W.heap.size) : Glob W (allI P W) (xs.map VG.g) := by
  intro g c hc ρ
  obtain ⟨ps, hv, _⟩ := hl
  simp only [List.getElem?_map, Option.map_eq_some_iff] at hc
  obtain ⟨x, hxg, rfl⟩ := hc
  have hlt : g < xs.length := (List.getElem?_eq_some_iff.1 hxg).1
  have hok := okS_at hx g x hxg
  rw [Nat.zero_add] at hok
  cases x with
  | no => exact .iptr ρ [] 0 g 0 (fun _ => .nilIface) (show g < W.heap.size by omega) (fun j x h => by simp at h) (fun j x h => by simp at h)
  | flat y =>
    simp only [VG.ok, Bool.and_eq_true] at hok
    obtain ⟨⟨h1, h2⟩, h4⟩ := hok
    have h1 := nameIs_at h1
    obtain ⟨t, h2, h3⟩ : ∃ t, (P.globals[g]?).map (·.type) = some t ∧ flatT P m t = true := by
      split at h2
      · rename_i t ht; exact ⟨t, ht, h2⟩
      · cases h2
    obtain ⟨g', t', cs, fuel, p, k1, k2, k3, k4⟩ := laid_at hv y.1 y.2 (hm g _ y hxg rfl)
    rw [h1] at k1; cases k1
    rw [h2] at k2; cases k2
    have e := flat_of m fuel t cs.toList (y.2, p) h3 k4
    have hval : ∀ (j : Nat) (v : EV), ((datV y.2).map EV.lit)[j]? = some v → ∃ u, v = .lit u ∧ cs[j]? = some u := fun j v h => by
      simp only [List.getElem?_map, Option.map_eq_some_iff] at h
      obtain ⟨u, hu, rfl⟩ := h
      have e' : cs.toList = datV y.2 := e
      refine ⟨u, rfl, ?_⟩
      rw [← e', Array.getElem?_toList] at hu
      exact hu
    refine .iptr ρ _ 0 g 0 (fun j => (cs[j]?).getD .nilIface) (show g < W.heap.size by omega) (fun j x h => ?_) (fun j x h => ?_)
    · obtain ⟨u, rfl, hu⟩ := hval j x h
      rw [Nat.zero_add, World.var?_cell h1 k3, hu]
      refine ⟨rfl, oneD_ok y.2 h4 u ?_⟩
      have e' : cs.toList = datV y.2 := e
      rw [← e']
      exact List.mem_of_getElem? (by rw [Array.getElem?_toList]; exact hu)
    · obtain ⟨u, rfl, hu⟩ := hval j x h
      rw [hu]
      exact .lit _ _
  | sent n base T d =>
    simp only [VG.ok, Bool.and_eq_true] at hok
    obtain ⟨⟨⟨h1, h2⟩, h4⟩, h5⟩ := hok
    have h1 := nameIs_at h1
    obtain ⟨t, ms, h2, h3⟩ : ∃ t ms, (P.globals[g]?).map (·.type) = some t ∧ P.underlying t = some (.interface ms) := by
      split at h2
      · rename_i t ht
        split at h2
        · rename_i ms hms; exact ⟨t, ms, ht, hms⟩
        · cases h2
      · cases h2
    obtain ⟨g', t', cs, fuel, p, k1, k2, k3, k4⟩ := laid_at hv n (.iface ("*" ++ base) d) (hm g _ _ hxg rfl)
    rw [h1] at k1; cases k1
    rw [h2] at k2; cases k2
    obtain ⟨u, v, e, hn⟩ := trod_ifaceI h3 k4
    have hT : u = T := typeName_sole h4 (fun s hs => by rw [← hs] at h5; simp [String.toList_append] at h5) hn
    subst hT
    have hc0 : cs[0]? = some (.iface u v) := by rw [← Array.getElem?_toList, e]; rfl
    refine .iptr ρ _ 0 g 0 (fun j => (cs[j]?).getD .nilIface) (show g < W.heap.size by omega) (fun j x h => ?_) (fun j x h => ?_)
    · match j, h with
      | 0, h =>
        rw [Nat.zero_add, World.var?_cell h1 k3, hc0]
        exact ⟨rfl, rfl⟩
      | j + 1, h => simp [VG.g] at h
    · match j, h with
      | 0, h =>
        simp only [VG.g, List.getElem?_cons_zero, Option.some.injEq] at h
        subst h
        rw [hc0]
        exact .iface _ _ _ _ (.top _ _)
      | j + 1, h => simp [VG.g] at h
end
end Go.Proofs.YtpgeonghlabnhaaGreatDoor.Em
