/- Em11: maps whose keys are integers, strings or arrays of integers. No conditions beyond those written. -/
import Derived.Test.YtpgeonghlabnhaaGreatDoorEm10
set_option linter.unusedVariables false
set_option linter.unusedSimpArgs false
namespace Go.Proofs.YtpgeonghlabnhaaGreatDoor.Em
open Go
section
variable {I : Imm} {w : World} {ρ : Ren} {h : EH} {post : EV → EH → Prop} {pc : FuncId → List EV → Prop} {P : Program}
theorem forIn_all {f : Nat → Option Bool × Unit → Sem (ForInStep (Option Bool × Unit))} (b : Nat → Bool) : ∀ l : List Nat,
    (∀ i ∈ l, (f i (none, ())).run P w = .ok (if b i then .yield (none, ()) else .done (some false, ())) w) →
    (forIn l (none, ()) f).run P w = .ok (if l.all b then (none, ()) else (some false, ())) w
  | [], _ => by simp
  | i :: l, hf => by
    rw [List.forIn_cons]
    simp only [Sem.run_bind, hf i (by simp), Result.andThen_ok]
    cases hb : b i with
    | true => simp [hb, forIn_all b l (fun j hj => hf j (by simp [hj]))]
    | false => simp [hb]
theorem equal_two {t : TypeId} {u v : Value} {r : Bool} (hq : ∀ n, (Op.equalIn (n + 2) t u v).run P w = .ok r w) : (Op.equal t u v).run P w = .ok r w := hq 9998
theorem equalIn_int {d : Nat} {e : TypeId} {k k' : IntKind} {a b : Int} (he : P.underlying e = some (.int k')) : (Op.equalIn (d + 1) e (.int k a) (.int k b)).run P w = .ok (a == b) w := by
  simp [Op.equalIn, run_underlying he]
theorem part_int {e : TypeId} {k' : IntKind} {us : Array Value} {i : Nat} {v : Value} (he : P.underlying e = some (.int k')) (hi : us[i]? = some v) : (part e us i).run P w = .ok v w := by
  have ha : aggP P e = some false := by simp [aggP, he]
  simp [part, run_aggP ha, hi]
theorem equalArr {d n : Nat} {t e : TypeId} {k' : IntKind} {xs ys : Array Value} {l m : List (IntKind × Int)} (hu : P.underlying t = some (.array n e)) (he : P.underlying e = some (.int k')) (hs : szP P e = some 1)
    (hx : xs.toList = l.map fun p => .int p.1 p.2) (hy : ys.toList = m.map fun p => .int p.1 p.2) (hk : l.map (·.1) = m.map (·.1)) (hn : l.length = n) :
    (Op.equalIn (d + 2) t (.agg xs) (.agg ys)).run P w = .ok (l == m) w := by
  have hlen : m.length = n := by
    have := congrArg List.length hk
    simp at this; omega
  have key : ∀ i ∈ List.range' 0 n, ∃ p q : IntKind × Int, l[i]? = some p ∧ m[i]? = some q ∧ xs[i]? = some (.int p.1 p.2) ∧ ys[i]? = some (.int q.1 q.2) ∧ p.1 = q.1 := by
    intro i hi
    have hin : i < n := by simpa using hi
    refine ⟨l[i]'(by omega), m[i]'(by omega), by simp, by simp, ?_, ?_, ?_⟩
    · have := congrArg (fun z => z[i]?) hx
      simpa [List.getElem?_eq_getElem (show i < l.length by omega)] using this
    · have := congrArg (fun z => z[i]?) hy
      simpa [List.getElem?_eq_getElem (show i < m.length by omega)] using this
    · have := congrArg (fun z => z[i]?) hk
      simpa [List.getElem?_eq_getElem (show i < l.length by omega), List.getElem?_eq_getElem (show i < m.length by omega)] using this
  unfold Op.equalIn
  simp only [Sem.run_bind, run_underlying hu, Result.andThen_ok, run_szP hs, Std.Legacy.Range.forIn_eq_forIn_range']
  rw [forIn_all (P := P) (w := w) (fun i => l[i]? == m[i]?)]
  · simp only [Result.andThen_ok]
    have hall : (∀ x : Nat, x < n → l[x]? = m[x]?) ↔ l = m := by
      constructor
      · intro hh
        apply List.ext_getElem?
        intro i
        by_cases hi : i < n
        · exact hh i hi
        · rw [List.getElem?_eq_none (by omega), List.getElem?_eq_none (by omega)]
      · intro hh i _; rw [hh]
    simp [Std.Legacy.Range.size, hall]
    by_cases hlm : l = m <;> simp [hlm]
  · intro i hi
    obtain ⟨p, q, h1, h2, h3, h4, h5⟩ := key i (by simpa [Std.Legacy.Range.size] using hi)
    obtain ⟨p1, p2⟩ := p
    obtain ⟨q1, q2⟩ := q
    simp at h5
    subst h5
    simp [part_int he h3, part_int he h4, equalIn_int he, h1, h2]
    by_cases hpq : p2 = q2 <;> simp [hpq]
/-- the model's value of a key -/
def KeyV.is : KeyV → Value → Prop
  | .num k n, v => v = .int k n
  | .str l, v => ∃ s : ByteArray, v = .string s ∧ s.data.toList = l
  | .arr l, v => ∃ us : Array Value, v = .agg us ∧ us.toList = l.map fun p => .int p.1 p.2
theorem numsE_rep : ∀ {c : List EV} {us : List Value} {l : List (IntKind × Int)}, RepL w I ρ c us → numsE c = some l → us = l.map fun p => .int p.1 p.2
  | [], [], l, _, hl => by simp [numsE] at hl; subst hl; rfl
  | x :: c, u :: us, l, hr, hl => by
    cases x with
    | lit v =>
      cases v with
      | int k n =>
        simp only [numsE] at hl
        cases hc : numsE c with
        | none => simp [hc] at hl
        | some r =>
          simp [hc] at hl; subst hl
          have h1 := hr.1
          cases h1
          simp [numsE_rep hr.2 hc]
      | _ => simp [numsE] at hl
    | _ => simp [numsE] at hl
theorem keyV_rep {k : EV} {v : Value} {K : KeyV} (hk : keyV k = some K) (hr : Rep w I ρ k v) : K.is v := by
  unfold keyV at hk
  split at hk
  · cases hk; cases hr; rfl
  · cases hk; cases hr; exact ⟨_, rfl, rfl⟩
  · rename_i c
    obtain ⟨us, rfl, hrl⟩ := agg_list hr
    split at hk
    · rename_i l hl
      cases hk
      exact ⟨us, rfl, numsE_rep hrl hl⟩
    · cases hk
  · cases hk
/-- A map's key type takes keys of a shape. -/
theorem keyP_spec {t : TypeId} {ks : Nat} (hk : keyP P t = some ks) :
    (ks = 0 ∧ ∃ k, P.underlying t = some (.int k)) ∨ (ks = 1 ∧ P.underlying t = some .string) ∨
    ∃ n e k, ks = n + 2 ∧ P.underlying t = some (.array n e) ∧ P.underlying e = some (.int k) ∧ szP P e = some 1 := by
  unfold keyP at hk
  split at hk
  · rename_i k hu; cases hk; exact .inl ⟨rfl, k, hu⟩
  · rename_i hu; cases hk; exact .inr (.inl ⟨rfl, hu⟩)
  · rename_i n e hu
    split at hk
    · rename_i k he hs; cases hk; exact .inr (.inr ⟨n, e, k, rfl, hu, he, hs⟩)
    · cases hk
  · cases hk
theorem forIn_unit {f : Nat → Unit → Sem (ForInStep Unit)} : ∀ l : List Nat, (∀ i ∈ l, (f i ()).run P w = .ok (.yield ()) w) → (forIn l () f).run P w = .ok () w
  | [], _ => by simp
  | i :: l, hf => by
    rw [List.forIn_cons]
    simp only [Sem.run_bind, hf i (by simp), Result.andThen_ok]
    exact forIn_unit l fun j hj => hf j (by simp [hj])
theorem checkKey_any {t : TypeId} {ks : Nat} {K : KeyV} {v : Value} {b : Bool} (hk : keyP P t = some ks) (hs : K.shp = ks) (hv : K.is v) (n : Nat) :
    (Instr.checkKey b (n + 2) t v).run P w = .ok () w := by
  rcases keyP_spec hk with ⟨rfl, k, hu⟩ | ⟨rfl, hu⟩ | ⟨m, e, k, rfl, hu, he, hsz⟩
  · cases K <;> simp [KeyV.shp] at hs
    subst hv
    simp [Instr.checkKey, run_underlying hu]
  · cases K with
    | str l => obtain ⟨s, rfl, _⟩ := hv; simp [Instr.checkKey, run_underlying hu]
    | num _ _ => simp [KeyV.shp] at hs
    | arr l => simp [KeyV.shp] at hs
  · cases K with
    | arr l =>
      obtain ⟨us, rfl, hus⟩ := hv
      have hl : l.length = m := by simpa [KeyV.shp] using hs
      unfold Instr.checkKey
      simp only [Sem.run_bind, run_underlying hu, Result.andThen_ok, Std.Legacy.Range.forIn_eq_forIn_range']
      rw [forIn_unit]
      · rfl
      intro i hi
      have hin : i < m := by simpa [Std.Legacy.Range.size] using hi
      have hc : us[i]? = some (.int (l[i]'(by omega)).1 (l[i]'(by omega)).2) := by
        have := congrArg (fun z => z[i]?) hus
        simpa [List.getElem?_eq_getElem (show i < l.length by omega)] using this
      simp [run_szP hsz, part_int he hc]
      simp [Instr.checkKey, run_underlying he]
    | num _ _ => simp [KeyV.shp] at hs
    | str l => simp [KeyV.shp] at hs
theorem checkKey_run {t : TypeId} {ks : Nat} {K : KeyV} {v : Value} {b : Bool} (hk : keyP P t = some ks) (hs : K.shp = ks) (hv : K.is v) :
    (Instr.checkKey b 10000 t v).run P w = .ok () w := checkKey_any hk hs hv 9998
theorem like_shp {a b : KeyV} (h : a.like b = true) : a.shp = b.shp := by
  cases a <;> cases b <;> simp [KeyV.like] at h <;> simp [KeyV.shp]
  have := congrArg List.length h
  simpa using this
theorem bytes_eq {a b : ByteArray} : (a == b) = (a.data.toList == b.data.toList) := by
  have h1 : (a == b) = (a.data == b.data) := rfl
  rw [h1, Bool.eq_iff_iff]; simp [Array.toList_inj]
theorem beq_num (k : IntKind) (a b : Int) : (KeyV.num k a == KeyV.num k b) = (a == b) := by
  rw [Bool.eq_iff_iff]; simp
theorem beq_str (a b : List UInt8) : (KeyV.str a == KeyV.str b) = (a == b) := by
  rw [Bool.eq_iff_iff]; simp
theorem beq_arr (a b : List (IntKind × Int)) : (KeyV.arr a == KeyV.arr b) = (a == b) := by
  rw [Bool.eq_iff_iff]; simp
/-- Two keys of one shape, held against each other. -/
theorem equal_key {t : TypeId} {ks : Nat} {K L : KeyV} {u v : Value} (hk : keyP P t = some ks) (hs : K.shp = ks) (hl : K.like L = true) (hu : K.is u) (hv : L.is v) :
    (Op.equal t u v).run P w = .ok (K == L) w := by
  refine equal_two fun d => ?_
  rcases keyP_spec hk with ⟨rfl, k, hut⟩ | ⟨rfl, hut⟩ | ⟨m, e, k, rfl, hut, he, hsz⟩
  · cases K with
    | num k1 a =>
      cases L with
      | num k2 b =>
        have hkk : k1 = k2 := by simpa [KeyV.like] using hl
        subst hkk; subst hu; subst hv
        simp [Op.equalIn, run_underlying hut, beq_num]
      | str _ => simp [KeyV.like] at hl
      | arr _ => simp [KeyV.like] at hl
    | str l => simp [KeyV.shp] at hs
    | arr l => simp [KeyV.shp] at hs
  · cases K with
    | str l =>
      cases L <;> simp [KeyV.like] at hl
      rename_i m
      obtain ⟨s, rfl, hs1⟩ := hu
      obtain ⟨s', rfl, hs2⟩ := hv
      simp [Op.equalIn, run_underlying hut, bytes_eq, beq_str]
      rw [← hs1, ← hs2, Bool.eq_iff_iff]; simp
    | num _ _ => simp [KeyV.shp] at hs
    | arr l => simp [KeyV.shp] at hs
  · cases K with
    | arr l =>
      cases L with
      | arr l' =>
        obtain ⟨us, rfl, hus⟩ := hu
        obtain ⟨vs, rfl, hvs⟩ := hv
        have hll : l.map (·.1) = l'.map (·.1) := by simpa [KeyV.like] using hl
        rw [equalArr hut he hsz hus hvs hll (by simpa [KeyV.shp] using hs), beq_arr]
      | num _ _ => simp [KeyV.like] at hl
      | str _ => simp [KeyV.like] at hl
    | num _ _ => simp [KeyV.shp] at hs
    | str l => simp [KeyV.shp] at hs
/-- which entry of a map has a key -/
def findIx (K : KeyV) : List KeyV → Nat → Option Nat
  | [], _ => none
  | L :: l, i => if K == L then some i else findIx K l (i + 1)
theorem findAsking_run {t : TypeId} {ks : Nat} {K : KeyV} {u : Value} (hk : keyP P t = some ks) (hs : K.shp = ks) (hu : K.is u) : ∀ (es : List MapEntry) (Ls : List KeyV) (i : Nat),
    Ls.length = es.length → (∀ (j : Nat) (L : KeyV) (e : MapEntry), Ls[j]? = some L → es[j]? = some e → K.like L = true ∧ L.is e.key) →
    (Instr.findAsking t u es i).run P w = .ok ((findIx K Ls i).bind fun j => (es[j - i]?).map fun e => (j, e.val)) w
  | [], [], i, _, _ => by simp [Instr.findAsking, findIx]
  | e :: es, L :: Ls, i, hlen, hL => by
    obtain ⟨h1, h2⟩ := hL 0 L e rfl rfl
    simp only [Instr.findAsking, Sem.run_bind, equal_key hk hs h1 hu h2, Result.andThen_ok]
    by_cases hKL : (K == L) = true
    · simp [findIx, hKL]
    · have ih := findAsking_run hk hs hu es Ls (i + 1) (by simpa using hlen) (fun j L' e' hl' he' => hL (j + 1) L' e' (by simpa using hl') (by simpa using he'))
      simp only [findIx, hKL, Bool.false_eq_true, if_false]
      rw [ih]
      congr 1
      have hge : ∀ (l : List KeyV) (i j : Nat), findIx K l i = some j → i ≤ j := by
        intro l
        induction l with
        | nil => intro i j hj; simp [findIx] at hj
        | cons L l ihh =>
          intro i j hj
          simp only [findIx] at hj
          split at hj
          · cases hj; exact Nat.le_refl _
          · have := ihh (i + 1) j hj; omega
      cases hf : findIx K Ls (i + 1) with
      | none => rfl
      | some j =>
        have := hge Ls (i + 1) j hf
        simp only [Option.bind_some]
        rw [show j - i = (j - (i + 1)) + 1 by omega]
        simp
theorem findNow_run {d : TypeDesc} {K : KeyV} {u : Value} (hd : (∃ k, d = .int k ∧ K.shp = 0) ∨ (d = .string ∧ K.shp = 1)) (hu : K.is u) : ∀ (es : List MapEntry) (Ls : List KeyV) (i : Nat),
    Ls.length = es.length → (∀ (j : Nat) (L : KeyV) (e : MapEntry), Ls[j]? = some L → es[j]? = some e → K.like L = true ∧ L.is e.key) →
    Instr.findNow d u es i = some ((findIx K Ls i).bind fun j => (es[j - i]?).map fun e => (j, e.val))
  | [], [], i, _, _ => by simp [Instr.findNow, findIx]
  | e :: es, L :: Ls, i, hlen, hL => by
    obtain ⟨h1, h2⟩ := hL 0 L e rfl rfl
    have hsame : Instr.sameNow d u e.key = some (K == L) := by
      rcases hd with ⟨k, rfl, hsh⟩ | ⟨rfl, hsh⟩
      · cases K with
        | num k1 a =>
          cases L with
          | num k2 b =>
            have hkk : k1 = k2 := by simpa [KeyV.like] using h1
            have h2' : e.key = .int k2 b := h2
            subst hkk; subst hu
            rw [h2']
            simp [Instr.sameNow, beq_num]
          | str _ => simp [KeyV.like] at h1
          | arr _ => simp [KeyV.like] at h1
        | str l => simp [KeyV.shp] at hsh
        | arr l => simp [KeyV.shp] at hsh
      · cases K with
        | str l =>
          cases L <;> simp [KeyV.like] at h1
          rename_i m
          obtain ⟨s, rfl, hs1⟩ := hu
          obtain ⟨s', he, hs2⟩ := h2
          rw [he]
          simp [Instr.sameNow, bytes_eq, hs1, hs2, beq_str]
        | num _ _ => simp [KeyV.shp] at hsh
        | arr l => simp [KeyV.shp] at hsh
    simp only [Instr.findNow, hsame]
    by_cases hKL : (K == L) = true
    · simp [findIx, hKL]
    · have hKL' : (K == L) = false := by simpa using hKL
      have ih := findNow_run hd hu es Ls (i + 1) (by simpa using hlen) (fun j L' e' hl' he' => hL (j + 1) L' e' (by simpa using hl') (by simpa using he'))
      simp only [findIx, hKL', Bool.false_eq_true, if_false]
      rw [ih]
      have hge : ∀ (l : List KeyV) (i j : Nat), findIx K l i = some j → i ≤ j := by
        intro l
        induction l with
        | nil => intro i j hj; simp [findIx] at hj
        | cons L l ihh =>
          intro i j hj
          simp only [findIx] at hj
          split at hj
          · cases hj; exact Nat.le_refl _
          · have := ihh (i + 1) j hj; omega
      cases hf : findIx K Ls (i + 1) with
      | none => rfl
      | some j =>
        have := hge Ls (i + 1) j hf
        simp only [Option.bind_some]
        rw [show j - i = (j - (i + 1)) + 1 by omega]
        simp
theorem findKey_run {t : TypeId} {ks : Nat} {K : KeyV} {u : Value} (hk : keyP P t = some ks) (hs : K.shp = ks) (hu : K.is u) (es : List MapEntry) (Ls : List KeyV)
    (hlen : Ls.length = es.length) (hL : ∀ (j : Nat) (L : KeyV) (e : MapEntry), Ls[j]? = some L → es[j]? = some e → K.like L = true ∧ L.is e.key) :
    (Instr.findKey t u es).run P w = .ok ((findIx K Ls 0).bind fun j => (es[j]?).map fun e => (j, e.val)) w := by
  rcases keyP_spec hk with ⟨rfl, k, hut⟩ | ⟨rfl, hut⟩ | ⟨m, e, k, rfl, hut, he, hsz⟩
  · have := findNow_run (.inl ⟨k, rfl, hs⟩) hu es Ls 0 hlen hL
    simp [Instr.findKey, run_underlying hut, this]
  · have := findNow_run (.inr ⟨rfl, hs⟩) hu es Ls 0 hlen hL
    simp [Instr.findKey, run_underlying hut, this]
  · have ha := findAsking_run (P := P) (w := w) hk hs hu es Ls 0 hlen hL
    cases es with
    | nil =>
      cases Ls with
      | nil => simp [Instr.findKey, run_underlying hut, Instr.findNow, findIx]
      | cons _ _ => simp at hlen
    | cons e0 es =>
      have hnow : Instr.findNow (.array m e) u (e0 :: es) 0 = none := by simp [Instr.findNow, Instr.sameNow]
      simp only [Instr.findKey, Sem.run_bind, run_underlying hut, Result.andThen_ok, hnow]
      simpa using ha
/-- the keys of a map that is held -/
theorem keys_of {k : EV} {K : KeyV} (hk : keyV k = some K) : ∀ (es : List (EV × EV)), (es.all fun p => keyLike k p.1) = true →
    ∃ Ls : List KeyV, Ls.length = es.length ∧ (∀ (j : Nat) (L : KeyV) (p : EV × EV), Ls[j]? = some L → es[j]? = some p → keyV p.1 = some L ∧ K.like L = true) ∧
      ∀ i, (findIx K Ls i).bind (fun j => es[j - i]?) = es.find? fun p => keyEq k p.1
  | [], _ => ⟨[], rfl, fun j L p h => by simp at h, fun i => rfl⟩
  | p :: es, ha => by
    simp only [List.all_cons, Bool.and_eq_true] at ha
    obtain ⟨Ls, h1, h2, h3⟩ := keys_of hk es ha.2
    have h0 := ha.1
    unfold keyLike at h0
    rw [hk] at h0
    cases hp : keyV p.1 with
    | none => simp [hp] at h0
    | some L =>
      simp [hp] at h0
      refine ⟨L :: Ls, by simp [h1], fun j L' p' hl hp' => ?_, fun i => ?_⟩
      · cases j with
        | zero => simp at hl hp'; subst hl; subst hp'; exact ⟨hp, h0⟩
        | succ j => exact h2 j L' p' (by simpa using hl) (by simpa using hp')
      · have hge : ∀ (l : List KeyV) (i j : Nat), findIx K l i = some j → i ≤ j := by
          intro l
          induction l with
          | nil => intro i j hj; simp [findIx] at hj
          | cons L l ihh =>
            intro i j hj
            simp only [findIx] at hj
            split at hj
            · cases hj; exact Nat.le_refl _
            · have := ihh (i + 1) j hj; omega
        have hke : keyEq k p.1 = (K == L) := by simp [keyEq, hk, hp]
        simp only [findIx, List.find?_cons, hke]
        by_cases hKL : (K == L) = true
        · simp [hKL]
        · have hKL' : (K == L) = false := by simpa using hKL
          simp only [hKL', Bool.false_eq_true, if_false]
          rw [← h3 (i + 1)]
          cases hf : findIx K Ls (i + 1) with
          | none => rfl
          | some j =>
            have := hge Ls (i + 1) j hf
            simp only [Option.bind_some]
            rw [show j - i = (j - (i + 1)) + 1 by omega]
            simp
theorem zvE_rep {e : TypeId} {z : Value} {isA : Bool} (ha : aggP P e = some isA) (hz : zeP P e = some z) (h1 : isA = true → ∃ cs, z = .agg cs) (h2 : isA = false → z.cells.size = 1 ∧ ∀ cs, z ≠ .agg cs) :
    Rep w I ρ (zvE z.cells.toList isA) z := by
  cases isA with
  | true =>
    obtain ⟨cs, rfl⟩ := h1 rfl
    simp only [zvE, if_true]
    exact agg_of_list (litL_rep _)
  | false =>
    obtain ⟨hs, hn⟩ := h2 rfl
    have : z.cells = #[z] := by cases z <;> first | rfl | (exact absurd rfl (hn _))
    rw [this]
    exact .lit _ _
theorem lookup_sound {t kt e : TypeId} {ks : Nat} {z : Value} {isA cok : Bool} {x k : EV} {u kv : Value} (hu : P.underlying t = some (.map kt e)) (hkp : keyP P kt = some ks)
    (ha : aggP P e = some isA) (hz : zeP P e = some z) (h1 : isA = true → ∃ cs, z = .agg cs) (h2 : isA = false → z.cells.size = 1 ∧ ∀ cs, z ≠ .agg cs)
    (hs : HSim I w ρ h) (hx : Rep w I ρ x u) (hk : Rep w I ρ k kv) (ok : SROK post pc (lookupE stdA ks z.cells.toList isA cok x k h)) :
    Looks I w ρ h post P (Instr.lookup t u kv cok) := by
  have hzr : Rep w I ρ (zvE z.cells.toList isA) z := zvE_rep ha hz h1 h2
  unfold lookupE at ok
  split at ok
  · rename_i id
    split at ok
    · rename_i es hg
      obtain ⟨hkey, hnone, hsome⟩ := ok
      cases hx with
      | mp _ _ b o hb =>
        obtain ⟨b', o', ents, cl, e1, e2, e3, e4, e5⟩ := emap_at hs hg
        rw [hb] at e1; cases e1
        have hkey' : shpIs ks k = true ∧ (es.all fun p => keyLike k p.1) = true := by simpa [stdA] using hkey
        cases hkv : keyV k with
        | none => simp [shpIs, hkv] at hkey'
        | some K =>
          have hsh : K.shp = ks := by simpa [shpIs, hkv] using hkey'.1
          have hKv := keyV_rep hkv hk
          obtain ⟨Ls, l1, l2, l3⟩ := keys_of hkv es hkey'.2
          have hfind := findKey_run (P := P) (w := w) hkp hsh hKv ents.toList Ls (by rw [l1]; simpa using e4.symm) (fun j L en hl he => by
            have hj : j < es.length := by rw [← l1]; exact (List.getElem?_eq_some_iff.1 hl).1
            have hes : es[j]? = some es[j] := by simp [hj]
            obtain ⟨en', f1, f2, f3⟩ := e5 j es[j] hes
            have he' : ents[j]? = some en := by simpa using he
            rw [he'] at f1; cases f1
            obtain ⟨g1, g2⟩ := l2 j L es[j] hl hes
            exact ⟨g2, keyV_rep g1 f2⟩)
          have hl3 := l3 0
          simp only [Nat.sub_zero] at hl3
          have hck := checkKey_run (P := P) (w := w) (b := ents.isEmpty) hkp hsh hKv
          cases hix : findIx K Ls 0 with
          | none =>
            rw [hix] at hl3 hfind
            have hfn : stdA.find es k = none := by simp only [stdA]; rw [← hl3]; rfl
            refine ⟨_, if cok then .tuple #[z, .bool false] else z, ?_, hnone hfn, ?_⟩
            · simp [Instr.lookup, run_underlying hu, run_getObj_map e3, hck, hfind, run_zeP hz]
            · cases cok with
              | true => exact tup_of_list ⟨hzr, .lit _ _, trivial⟩
              | false => exact hzr
          | some j =>
            rw [hix] at hl3 hfind
            have hj : j < es.length := by
              rcases Nat.lt_or_ge j es.length with h | h
              · exact h
              · exfalso
                have : ∀ (l : List KeyV) (i j : Nat), findIx K l i = some j → j < i + l.length := by
                  intro l
                  induction l with
                  | nil => intro i j hj; simp [findIx] at hj
                  | cons L l ihh =>
                    intro i j hj
                    simp only [findIx] at hj
                    split at hj
                    · cases hj; simp
                    · have := ihh (i + 1) j hj; simp; omega
                have := this Ls 0 j hix
                omega
            have hes : es[j]? = some es[j] := by simp [hj]
            obtain ⟨en, f1, f2, f3⟩ := e5 j es[j] hes
            have hfs : stdA.find es k = some es[j].2 := by
              simp only [stdA]; rw [← hl3]; simp [hj]
            refine ⟨_, if cok then .tuple #[en.val, .bool true] else en.val, ?_, hsome _ hfs, ?_⟩
            · have f1' : ents.toList[j]? = some en := by simpa using f1
              simp only [Option.bind_some, f1', Option.map_some] at hfind
              simp [Instr.lookup, run_underlying hu, run_getObj_map e3, hck, hfind]
            · cases cok with
              | true => exact tup_of_list ⟨f3, .lit _ _, trivial⟩
              | false => exact f3
    · exact ok.elim
  · cases hx
    obtain ⟨hkey, hp⟩ := ok
    have hkey' : shpIs ks k = true := by simpa [stdA] using hkey
    cases hkv : keyV k with
    | none => simp [shpIs, hkv] at hkey'
    | some K =>
      have hsh : K.shp = ks := by simpa [shpIs, hkv] using hkey'
      have hKv := keyV_rep hkv hk
      have hck := checkKey_run (P := P) (w := w) (b := true) hkp hsh hKv
      have hfind := findKey_run (P := P) (w := w) hkp hsh hKv [] [] rfl (fun j L en hl he => by simp at hl)
      refine ⟨_, if cok then .tuple #[z, .bool false] else z, ?_, hp, ?_⟩
      · simp [Instr.lookup, run_underlying hu, hck, hfind, findIx, run_zeP hz]
      · cases cok with
        | true => exact tup_of_list ⟨hzr, .lit _ _, trivial⟩
        | false => exact hzr
  · exact ok.elim
theorem sameBits_key {K : KeyV} {u v : Value} (hu : K.is u) (hv : K.is v) (n : Nat) : Instr.sameBits (n + 2) u v = true := by
  cases K with
  | num k a => subst hu; subst hv; simp [Instr.sameBits]
  | str l =>
    obtain ⟨s, rfl, h1⟩ := hu
    obtain ⟨s', rfl, h2⟩ := hv
    simp only [Instr.sameBits]
    rw [bytes_eq, h1, h2]; simp
  | arr l =>
    obtain ⟨us, rfl, h1⟩ := hu
    obtain ⟨vs, rfl, h2⟩ := hv
    have hsz : us.size = vs.size := by
      have e1 := congrArg List.length h1
      have e2 := congrArg List.length h2
      simp at e1 e2; omega
    simp only [Instr.sameBits, hsz, beq_self_eq_true, Bool.true_and, h1, h2]
    have : ∀ l : List (IntKind × Int), ((l.map fun p => Value.int p.1 p.2).zip (l.map fun p => Value.int p.1 p.2)).all (fun x => Instr.sameBits (n + 1) x.1 x.2) = true := by
      intro l
      induction l with
      | nil => rfl
      | cons p l ih => simp [Instr.sameBits] at ih ⊢; exact ih
    exact this l
theorem msetL_none {k v : EV} : ∀ (es : List (EV × EV)), (es.find? fun p => keyEq k p.1) = none → msetL es k v = es ++ [(k, v)]
  | [], _ => rfl
  | (a, b) :: es, hf => by
    simp only [List.find?_cons] at hf
    split at hf
    · cases hf
    · rename_i hh
      simp only [msetL]
      rw [if_neg (by simpa using hh), msetL_none es hf]; rfl
theorem msetL_some {k v : EV} {K : KeyV} : ∀ (es : List (EV × EV)) (Ls : List KeyV) (i j : Nat), (∀ i, (findIx K Ls i).bind (fun j => es[j - i]?) = es.find? fun p => keyEq k p.1) →
    Ls.length = es.length → (∀ (j : Nat) (L : KeyV) (p : EV × EV), Ls[j]? = some L → es[j]? = some p → (keyEq k p.1 = (K == L))) →
    findIx K Ls i = some (i + j) → (msetL es k v).length = es.length ∧ (msetL es k v)[j]? = some (k, v) ∧ ∀ m, m ≠ j → (msetL es k v)[m]? = es[m]?
  | [], [], i, j, _, _, _, hf => by simp [findIx] at hf
  | (a, b) :: es, L :: Ls, i, j, hb, hlen, hL, hf => by
    have h0 := hL 0 L (a, b) rfl rfl
    simp only [findIx] at hf
    by_cases hKL : (K == L) = true
    · rw [if_pos hKL] at hf
      have hj : j = 0 := by have := Option.some.inj hf; omega
      subst hj
      have hka : keyEq k a = true := by rw [show keyEq k a = (K == L) from h0]; exact hKL
      refine ⟨by simp [msetL, hka], by simp [msetL, hka], fun m hm => ?_⟩
      cases m with
      | zero => exact absurd rfl hm
      | succ m => simp [msetL, hka]
    · rw [if_neg hKL] at hf
      have hKL' : (K == L) = false := by simpa using hKL
      have hka : keyEq k a = false := by rw [show keyEq k a = (K == L) from h0]; exact hKL'
      have hj : j ≠ 0 := by
        intro e; subst e
        have hge : ∀ (l : List KeyV) (i j : Nat), findIx K l i = some j → i ≤ j := by
          intro l
          induction l with
          | nil => intro i j hj; simp [findIx] at hj
          | cons L l ihh =>
            intro i j hj
            simp only [findIx] at hj
            split at hj
            · cases hj; exact Nat.le_refl _
            · have := ihh (i + 1) j hj; omega
        have := hge Ls (i + 1) _ hf
        omega
      obtain ⟨j', rfl⟩ : ∃ j', j = j' + 1 := ⟨j - 1, by omega⟩
      obtain ⟨q1, q2, q3⟩ := msetL_some (k := k) (v := v) es Ls (i + 1) j' (fun i' => by
          have := hb i'
          simp only [findIx, List.find?_cons, show keyEq k a = false from hka, hKL', Bool.false_eq_true, if_false] at this
          have hge : ∀ (l : List KeyV) (i j : Nat), findIx K l i = some j → i ≤ j := by
            intro l
            induction l with
            | nil => intro i j hj; simp [findIx] at hj
            | cons L l ihh =>
              intro i j hj
              simp only [findIx] at hj
              split at hj
              · cases hj; exact Nat.le_refl _
              · have := ihh (i + 1) j hj; omega
          have hsh : ∀ (l : List KeyV) (i : Nat), findIx K l (i + 1) = (findIx K l i).map (· + 1) := by
            intro l
            induction l with
            | nil => intro i; rfl
            | cons L l ihh => intro i; simp only [findIx]; split <;> simp [ihh]
          rw [hsh] at this
          cases hfx : findIx K Ls i' with
          | none => rw [hfx] at this; simpa using this
          | some jj =>
            have hjj := hge Ls i' jj hfx
            rw [hfx] at this
            simp only [Option.map_some, Option.bind_some] at this
            rw [show jj + 1 - i' = (jj - i') + 1 by omega] at this
            simpa using this)
        (by simpa using hlen) (fun jj L' p hl hp => hL (jj + 1) L' p (by simpa using hl) (by simpa using hp)) (by rw [hf]; congr 1; omega)
      refine ⟨by simp [msetL, hka, q1], by simpa [msetL, hka] using q2, fun m hm => ?_⟩
      cases m with
      | zero => simp [msetL, hka]
      | succ m => simpa [msetL, hka] using q3 m (by omega)
theorem setObj_run {b : Nat} {ents ents' : Array MapEntry} {cl cl' : Nat} (hb : w.heap[b]? = some (.map ents cl)) :
    (setObj b (.map ents' cl')).run P w = .ok () { w with heap := w.heap.setIfInBounds b (.map ents' cl') } := by
  simp only [setObj, Sem.run, hb]
theorem Keep.setObj {b : Nat} {ents ents' : Array MapEntry} {cl cl' : Nat} (hb : w.heap[b]? = some (.map ents cl)) (hI : ¬ I b) :
    Keep I w { w with heap := w.heap.setIfInBounds b (.map ents' cl') } ∧ ({ w with heap := w.heap.setIfInBounds b (.map ents' cl') } : World).heap[b]? = some (.map ents' cl') ∧
    ∀ b', b' ≠ b → ({ w with heap := w.heap.setIfInBounds b (.map ents' cl') } : World).heap[b']? = w.heap[b']? := by
  have hlt : b < w.heap.size := (Array.getElem?_eq_some_iff.1 hb).1
  have ho : ∀ b', b' ≠ b → (w.heap.setIfInBounds b (.map ents' cl'))[b']? = w.heap[b']? := fun b' hne => Array.getElem?_setIfInBounds_ne (fun e => hne e.symm)
  refine ⟨⟨rfl, rfl, rfl, by simp, fun x hx => ho x (fun e => hI (e ▸ hx)), fun x cs e fz hx => ?_⟩, by simp [hlt], ho⟩
  have : x ≠ b := fun e => by subst e; rw [hb] at hx; cases hx
  exact ⟨cs, fz, by show (w.heap.setIfInBounds b (.map ents' cl'))[x]? = _; rw [ho x this]; exact hx, rfl⟩
theorem mapSet_sound {t kt e : TypeId} {ks : Nat} {x k v : EV} {u kv vv : Value} (hu : P.underlying t = some (.map kt e)) (hkp : keyP P kt = some ks)
    (hs : HSim I w ρ h) (hx : Rep w I ρ x u) (hk : Rep w I ρ k kv) (hv : Rep w I ρ v vv) (ok : SROK post pc (mapSetE stdA ks x k v h)) :
    ∃ w' h', (Instr.mapUpdate t u kv vv).run P w = .ok () w' ∧ post undefE h' ∧ Keep I w w' ∧ HSim I w' ρ h' := by
  unfold mapSetE at ok
  split at ok
  · rename_i id
    split at ok
    · rename_i es hg
      obtain ⟨hkey, hp⟩ := ok
      cases hx with
      | mp _ _ b o hb =>
        obtain ⟨b', o', ents, cl, e1, e2, e3, e4, e5⟩ := emap_at hs hg
        rw [hb] at e1; cases e1
        have hkey' : shpIs ks k = true ∧ (es.all fun p => keyLike k p.1) = true := by simpa [stdA] using hkey
        cases hkv : keyV k with
        | none => simp [shpIs, hkv] at hkey'
        | some K =>
          have hsh : K.shp = ks := by simpa [shpIs, hkv] using hkey'.1
          have hKv := keyV_rep hkv hk
          obtain ⟨Ls, l1, l2, l3⟩ := keys_of hkv es hkey'.2
          have hfind := findKey_run (P := P) (w := w) hkp hsh hKv ents.toList Ls (by rw [l1]; simpa using e4.symm) (fun j L en hl he => by
            have hj : j < es.length := by rw [← l1]; exact (List.getElem?_eq_some_iff.1 hl).1
            have hes : es[j]? = some es[j] := by simp [hj]
            obtain ⟨en', f1, f2, f3⟩ := e5 j es[j] hes
            have he' : ents[j]? = some en := by simpa using he
            rw [he'] at f1; cases f1
            obtain ⟨g1, g2⟩ := l2 j L es[j] hl hes
            exact ⟨g2, keyV_rep g1 f2⟩)
          have hl3 := l3 0
          simp only [Nat.sub_zero] at hl3
          have hck := checkKey_run (P := P) (w := w) (b := false) hkp hsh hKv
          cases hix : findIx K Ls 0 with
          | none =>
            rw [hix] at hl3 hfind
            have hms : msetL es k v = es ++ [(k, v)] := msetL_none es hl3.symm
            obtain ⟨q1, q2, q3⟩ := Keep.setObj (I := I) (ents' := ents.push { key := kv, val := vv, born := cl }) (cl' := cl + 1) e3 e2
            refine ⟨_, _, ?_, hp, q1, hs.write q1 (by rw [hg]; simp) hb q3 _ ⟨b, o, _, _, hb, e2, q2, ?_, fun j y hy => ?_⟩⟩
            · simp only [Instr.mapUpdate, Sem.run_bind, run_underlying hu, Result.andThen_ok, run_getObj_map e3, hck, hfind, Option.bind_none, setObj_run e3]
            · show (ents.push _).size = (msetL es k v).length
              rw [hms]; simp [e4]
            · have hy' : (msetL es k v)[j]? = some y := hy
              rw [hms] at hy'
              rcases Nat.lt_or_ge j es.length with hj | hj
              · rw [List.getElem?_append_left hj] at hy'
                obtain ⟨en, f1, f2, f3⟩ := e5 j y hy'
                refine ⟨en, ?_, f2.keep q1, f3.keep q1⟩
                rw [Array.getElem?_push, if_neg (by omega)]; exact f1
              · rw [List.getElem?_append_right hj] at hy'
                have hj0 : j - es.length = 0 := by
                  rcases Nat.eq_zero_or_pos (j - es.length) with h0 | h0
                  · exact h0
                  · rw [List.getElem?_eq_none (by simp; omega)] at hy'; cases hy'
                rw [hj0] at hy'
                simp at hy'; subst hy'
                refine ⟨{ key := kv, val := vv, born := cl }, ?_, hk.keep q1, hv.keep q1⟩
                rw [Array.getElem?_push, if_pos (by omega)]
          | some j =>
            rw [hix] at hl3 hfind
            have hjl : j < es.length := by
              rcases Nat.lt_or_ge j es.length with h | h
              · exact h
              · exfalso
                have : ∀ (l : List KeyV) (i j : Nat), findIx K l i = some j → j < i + l.length := by
                  intro l
                  induction l with
                  | nil => intro i j hj; simp [findIx] at hj
                  | cons L l ihh =>
                    intro i j hj
                    simp only [findIx] at hj
                    split at hj
                    · cases hj; simp
                    · have := ihh (i + 1) j hj; simp; omega
                have := this Ls 0 j hix
                omega
            have hes : es[j]? = some es[j] := by simp [hjl]
            obtain ⟨en, f1, f2, f3⟩ := e5 j es[j] hes
            have hLj : ∃ L, Ls[j]? = some L ∧ (K == L) = true := by
              have : ∀ (l : List KeyV) (i j : Nat), findIx K l i = some (i + j) → ∃ L, l[j]? = some L ∧ (K == L) = true := by
                intro l
                induction l with
                | nil => intro i j hj; simp [findIx] at hj
                | cons L l ihh =>
                  intro i j hj
                  simp only [findIx] at hj
                  split at hj
                  · rename_i hh
                    have : j = 0 := by have := Option.some.inj hj; omega
                    subst this; exact ⟨L, rfl, hh⟩
                  · have hne : j ≠ 0 := by
                      intro e; subst e
                      have hge : ∀ (l : List KeyV) (i j : Nat), findIx K l i = some j → i ≤ j := by
                        intro l
                        induction l with
                        | nil => intro i j hj; simp [findIx] at hj
                        | cons L l ihh =>
                          intro i j hj
                          simp only [findIx] at hj
                          split at hj
                          · cases hj; exact Nat.le_refl _
                          · have := ihh (i + 1) j hj; omega
                      have := hge l (i + 1) _ hj
                      omega
                    obtain ⟨j', rfl⟩ : ∃ j', j = j' + 1 := ⟨j - 1, by omega⟩
                    obtain ⟨L', h1, h2⟩ := ihh (i + 1) j' (by rw [hj]; congr 1; omega)
                    exact ⟨L', by simpa using h1, h2⟩
              exact this Ls 0 j (by rw [hix]; congr 1; omega)
            obtain ⟨L, hL1, hL2⟩ := hLj
            have hKL : K = L := by simpa using hL2
            obtain ⟨g1, g2⟩ := l2 j L es[j] hL1 hes
            have hold : K.is en.key := by rw [hKL]; exact keyV_rep g1 f2
            have hbits : Instr.sameBits 10000 en.key kv = true := sameBits_key hold hKv 9998
            obtain ⟨m1, m2, m3⟩ := msetL_some (k := k) (v := v) (K := K) es Ls 0 j l3 l1 (fun jj L' p hl hp' => by
              obtain ⟨a1, a2⟩ := l2 jj L' p hl hp'
              simp [keyEq, hkv, a1]) (by rw [hix]; congr 1; omega)
            obtain ⟨q1, q2, q3⟩ := Keep.setObj (I := I) (ents' := ents.modify j fun e => { e with key := kv, val := vv }) (cl' := cl) e3 e2
            refine ⟨_, _, ?_, hp, q1, hs.write q1 (by rw [hg]; simp) hb q3 _ ⟨b, o, _, _, hb, e2, q2, ?_, fun m y hy => ?_⟩⟩
            · have f1' : ents.toList[j]? = some en := by simpa using f1
              simp only [Option.bind_some, f1', Option.map_some] at hfind
              simp only [Instr.mapUpdate, Sem.run_bind, run_underlying hu, Result.andThen_ok, run_getObj_map e3, hck, hfind, Instr.keyThatStays, f1, Option.map_some, Option.getD_some, hbits, if_true, Sem.run_pure, setObj_run e3]
            · show (ents.modify j _).size = (msetL es k v).length
              rw [m1]; simpa using e4
            · have hy' : (msetL es k v)[m]? = some y := hy
              by_cases hm : m = j
              · subst hm
                rw [m2] at hy'; cases hy'
                refine ⟨{ en with key := kv, val := vv }, ?_, hk.keep q1, hv.keep q1⟩
                rw [Array.getElem?_modify, if_pos rfl, f1]; rfl
              · rw [m3 m hm] at hy'
                obtain ⟨en2, f1', f2', f3'⟩ := e5 m y hy'
                refine ⟨en2, ?_, f2'.keep q1, f3'.keep q1⟩
                rw [Array.getElem?_modify, if_neg (fun e => hm e.symm)]; exact f1'
    · exact ok.elim
  · exact ok.elim
end
end Go.Proofs.YtpgeonghlabnhaaGreatDoor.Em
