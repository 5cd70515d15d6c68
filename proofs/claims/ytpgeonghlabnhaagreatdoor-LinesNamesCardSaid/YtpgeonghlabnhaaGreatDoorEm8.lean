/- Em8: lengths, slices of slices and of strings, conversions between strings and bytes. No conditions beyond those written. -/
import Derived.Test.YtpgeonghlabnhaaGreatDoorEm7
import Derived.Laws.BytesString
import Derived.Laws.BytesArg
set_option linter.unusedVariables false
set_option linter.unusedSimpArgs false
namespace Go.Proofs.YtpgeonghlabnhaaGreatDoor.Em
open Go
section
variable {I : Imm} {w : World} {ρ : Ren} {h : EH} {post : EV → EH → Prop} {pc : FuncId → List EV → Prop} {P : Program}
theorem emap_at {id : Nat} {es : List (EV × EV)} (hs : HSim I w ρ h) (hb : getH h id = .emap es) :
    ∃ b o ents clock, ρ[id]? = some (b, o) ∧ ¬ I b ∧ w.heap[b]? = some (.map ents clock) ∧ ents.size = es.length ∧
      (∀ (j : Nat) (x : EV × EV), es[j]? = some x → ∃ e, ents[j]? = some e ∧ Rep w I ρ x.1 e.key ∧ Rep w I ρ x.2 e.val) := by
  have := hs.live id
  rw [hb] at this
  exact this
theorem run_getObj_map {b : Nat} {ents : Array MapEntry} {cl : Nat} (hb : w.heap[b]? = some (.map ents cl)) : (getObj b).run P w = .ok (.map ents cl) w := by
  simp only [getObj, Sem.run, hb]
theorem len_sound {t : TypeId} {k : Nat} {a : EV} {u : Value} {tys : Array TypeId} {ty : TypeId} (ht : tys[0]? = some t)
    (hk : (k = 0 ∧ P.underlying t = some .string) ∨ (k = 1 ∧ ∃ e, P.underlying t = some (.slice e)) ∨ (k = 2 ∧ ∃ m e, P.underlying t = some (.map m e))) (hs : HSim I w ρ h) (hr : Rep w I ρ a u)
    (ok : SROK post pc (lenE stdA k a h)) : Looks I w ρ h post P (Builtin.len_ tys ty #[u]) := by
  rcases hk with ⟨rfl, hu⟩ | ⟨rfl, e, hu⟩ | ⟨rfl, m, e, hu⟩ <;> simp only [lenE] at ok
  · split at ok
    · rename_i s; cases hr; exact ⟨_, .int .i64 s.size, by simp [Builtin.len_, ht, underlying, hu, goInt], ok, .lit _ _⟩
    · exact ok.elim
  · split at ok
    · cases hr; exact ⟨_, .int .i64 0, by simp [Builtin.len_, ht, underlying, hu, goInt], ok, .lit _ _⟩
    · cases hr; exact ⟨_, .int .i64 0, by simp [Builtin.len_, ht, underlying, hu, goInt], ok, .lit _ _⟩
    · rename_i es id off n cap
      cases hr with
      | sl _ _ _ _ _ _ _ _ _ _ _ _ _ _ => exact ⟨_, .int .i64 n, by simp [Builtin.len_, ht, underlying, hu, goInt], ok, .lit _ _⟩
    · rename_i n cap c
      cases hr with
      | isln _ _ => exact ⟨_, .int .i64 0, by simp [Builtin.len_, ht, underlying, hu, goInt], ok, .lit _ _⟩
      | isl _ _ _ _ _ _ _ _ _ _ _ => exact ⟨_, .int .i64 n, by simp [Builtin.len_, ht, underlying, hu, goInt], ok, .lit _ _⟩
    · exact ok.elim
  · split at ok
    · cases hr; exact ⟨_, .int .i64 0, by simp [Builtin.len_, ht, underlying, hu, goInt], ok, .lit _ _⟩
    · rename_i id
      cases hg : getH h id with
      | emap es =>
        simp only [hg] at ok
        cases hr with
        | mp _ _ b o hb =>
          obtain ⟨b', o', ents, cl, h1, h2, h3, h4, h5⟩ := emap_at hs hg
          rw [hb] at h1; cases h1
          exact ⟨_, .int .i64 ents.size, by simp [Builtin.len_, ht, underlying, hu, goInt, run_getObj_map h3], ok, by rw [h4]; exact .lit _ _⟩
      | blk c => simp [hg, SROK] at ok
      | dead => simp [hg, SROK] at ok
      | lp _ _ _ _ _ _ => simp [hg, SROK] at ok
      | row _ => simp [hg, SROK] at ok
      | itr _ _ => simp [hg, SROK] at ok
    · exact ok.elim
theorem orI_none (d : Int) : orI none d = d := rfl
theorem orI_some (n d : Int) : orI (some n) d = n := rfl
/-- An optional bound, in the model and here. -/
def BV : Option Value → Option Int → Prop
  | none, none => True
  | some v, some n => ∃ k, v = .int k n
  | _, _ => False
theorem boundE_rep {G : List (List EV)} {t : List EV} {a : Act} (hg : Glob w I G) (ht : RepL w I ρ t a.tmps.toList) {x : Option Operand} {l : Option Int}
    (hb : boundE G t x = some l) : BV (x.map a.eval) l := by
  cases x with
  | none => simp [boundE] at hb; subst hb; trivial
  | some x =>
    simp only [boundE] at hb
    have hx := evalO_rep hg ht x
    split at hb
    · rename_i k n he
      cases hb
      rw [he] at hx
      have key : ∀ v, Rep w I ρ (.lit (.int k n)) v → ∃ k', v = .int k' n := by
        intro v hv; cases hv; exact ⟨_, rfl⟩
      exact key _ hx
    · cases hb
theorem run_sliceBound {v : Value} {n : Int} {y : Nat} {code : BoundsCode} (hv : ∃ k, v = .int k n) (h0 : 0 ≤ n) (h1 : n ≤ y) : (Instr.sliceBound v y code).run P w = .ok n.toNat w := by
  obtain ⟨k, rfl⟩ := hv
  simp [Instr.sliceBound, asIntOf, h0, h1]
theorem run_sliceBounds {b : Bool} {len cap : Nat} {lo hi mx : Option Value} {l hh m : Option Int} (hl : BV lo l) (hhi : BV hi hh) (hm : BV mx m) (hmh : m.isSome = true → hh.isSome = true)
    (h0 : 0 ≤ orI l 0) (h1 : orI l 0 ≤ orI hh len) (h2 : orI hh len ≤ orI m cap) (h3 : orI m cap ≤ cap) :
    (Instr.sliceBounds b len cap lo hi mx).run P w = .ok ((orI l 0).toNat, (orI hh len).toNat, (orI m cap).toNat) w := by
  have hcap : orI (none : Option Int) (cap : Int) = cap := rfl
  cases mx with
  | none =>
    cases m with
    | some m => exact hm.elim
    | none =>
      simp (config := { failIfUnchanged := false }) only [orI_none, orI_some] at h2 h3 ⊢
      cases hi with
      | none =>
        cases hh with
        | some _ => exact hhi.elim
        | none =>
          simp (config := { failIfUnchanged := false }) only [orI_none, orI_some] at h1 h2 ⊢
          cases lo with
          | none => cases l with
            | some _ => exact hl.elim
            | none => simp [Instr.sliceBounds, orI]
          | some v => cases l with
            | none => exact hl.elim
            | some n =>
              simp (config := { failIfUnchanged := false }) only [orI_none, orI_some] at h0 h1 ⊢
              have := fun c => run_sliceBound (P := P) (w := w) (code := c) (y := len) hl h0 h1
              simp [Instr.sliceBounds, this]
      | some vh =>
        cases hh with
        | none => exact hhi.elim
        | some nh =>
          simp (config := { failIfUnchanged := false }) only [orI_none, orI_some] at h1 h2 ⊢
          have r1 := fun c => run_sliceBound (P := P) (w := w) (code := c) (y := cap) hhi (by omega) h2
          cases lo with
          | none => cases l with
            | some _ => exact hl.elim
            | none => simp [Instr.sliceBounds, orI, r1]
          | some v => cases l with
            | none => exact hl.elim
            | some n =>
              simp (config := { failIfUnchanged := false }) only [orI_none, orI_some] at h0 h1 ⊢
              have := fun c => run_sliceBound (P := P) (w := w) (code := c) (y := nh.toNat) hl h0 (by omega)
              simp [Instr.sliceBounds, this, r1]
  | some vm =>
    cases m with
    | none => exact hm.elim
    | some nm =>
      simp (config := { failIfUnchanged := false }) only [orI_none, orI_some] at h2 h3 ⊢
      cases hi with
      | none =>
        cases hh with
        | some _ => exact hhi.elim
        | none => simp at hmh
      | some vh =>
        cases hh with
        | none => exact hhi.elim
        | some nh =>
          simp (config := { failIfUnchanged := false }) only [orI_none, orI_some] at h1 h2 ⊢
          have r0 := fun c => run_sliceBound (P := P) (w := w) (code := c) (y := cap) hm (by omega) h3
          have r1 := fun c => run_sliceBound (P := P) (w := w) (code := c) (y := nm.toNat) hhi (by omega) (by omega)
          cases lo with
          | none => cases l with
            | some _ => exact hl.elim
            | none => simp [Instr.sliceBounds, orI, r0, r1]
          | some v => cases l with
            | none => exact hl.elim
            | some n =>
              simp (config := { failIfUnchanged := false }) only [orI_none, orI_some] at h0 h1 ⊢
              have := fun c => run_sliceBound (P := P) (w := w) (code := c) (y := nh.toNat) hl h0 (by omega)
              simp [Instr.sliceBounds, this, r0, r1]
theorem add_addr {a : Addr} (hs : a.spot = none) (n : Nat) : a.add n = ⟨a.block, a.off + n, none⟩ := by
  conv => lhs; rw [addr_eta hs]
  exact add_none _ _ _
/-- A slice of a slice. -/
theorem slice_sound {t e : TypeId} {es : Nat} {x : EV} {u : Value} {lo hi mx : Option Value} {l hh m : Option Int} (hu : P.underlying t = some (.slice e)) (hsz : szP P e = some es)
    (hl : BV lo l) (hhi : BV hi hh) (hm : BV mx m) (hmh : m.isSome = true → hh.isSome = true) (hr : Rep w I ρ x u) (ok : SROK post pc (sliceE stdA es x l hh m h)) :
    Looks I w ρ h post P (Instr.sliceAt t u lo hi mx) := by
  have run : ∀ (a : Option Addr) (n k : Nat), 0 ≤ orI l 0 → orI l 0 ≤ orI hh n → orI hh n ≤ orI m k → orI m k ≤ k →
      (Instr.sliceAt t (.slice a n k) lo hi mx).run P w =
        .ok (.slice (if (orI m k).toNat = (orI l 0).toNat then a else a.map (·.add ((orI l 0).toNat * es))) ((orI hh n).toNat - (orI l 0).toNat) ((orI m k).toNat - (orI l 0).toNat)) w := by
    intro a n k h0 h1 h2 h3
    simp only [Instr.sliceAt, Sem.run_bind, run_underlying hu, Result.andThen_ok, Instr.slice, run_sliceBounds hl hhi hm hmh h0 h1 h2 h3, run_szP hsz, Sem.run_pure]
  unfold sliceE at ok
  split at ok
  · -- immutable
    rename_i n cap c
    cases hr with
    | isln _ _ =>
      split at ok
      · obtain ⟨hs1, hp⟩ := ok
        have hs1' : 0 ≤ orI l 0 ∧ orI l 0 ≤ orI hh 0 ∧ orI hh 0 ≤ 0 := by simpa [stdA] using hs1
        have e0 : orI l 0 = 0 := by omega
        have e1 : orI hh 0 = 0 := by omega
        refine ⟨_, .slice none 0 0, ?_, hp, ?_⟩
        · have e1' : orI hh ((0 : Nat) : Int) = 0 := by simpa using e1
          have := run none 0 0 (by omega) (by omega) (by rw [e1', orI_none]; exact Int.le_refl _) (by rw [orI_none]; exact Int.le_refl _)
          rw [e0, e1', orI_none] at this
          simpa using this
        · have : stdA.sub (stdA.tn (orI hh (stdA.ofn 0))) (stdA.tn (orI l 0)) = 0 := by simp [stdA, e0, e1]
          rw [this]
          exact .isln _ _
      · rename_i q
        obtain ⟨hs1, hin, hz, _⟩ := ok
        have hp := hz (by simp [stdA])
        have hs1' : 0 ≤ orI l 0 ∧ orI l 0 ≤ orI hh 0 ∧ orI hh 0 ≤ (q.toNat : Int) := by simpa [stdA] using hs1
        have hin' : 0 ≤ q ∧ q < 1 := by simpa [stdA] using hin
        have e0 : orI l 0 = 0 := by omega
        have e1 : orI hh 0 = 0 := by omega
        refine ⟨_, .slice none 0 0, ?_, hp, .isln _ _⟩
        have e1' : orI hh ((0 : Nat) : Int) = 0 := by simpa using e1
        have := run none 0 0 (by omega) (by omega) (by rw [e1', orI_some]; omega) (by rw [orI_some]; omega)
        rw [e0, e1', orI_some, show q = 0 by omega] at this
        simpa using this
    | isl _ _ _ _ ad k vs hcap hsp hc hv =>
      have main : ∀ (cap' : Option Nat), 0 ≤ orI l 0 → orI l 0 ≤ orI hh n → orI hh n ≤ orI m k → orI m k ≤ k →
          (∀ q, cap' = some q → (orI m k).toNat - (orI l 0).toNat = q) →
          post (.isl ((orI hh n).toNat - (orI l 0).toNat) cap' (c.drop ((orI l 0).toNat * es))) h → Looks I w ρ h post P (Instr.sliceAt t (.slice (some ad) n k) lo hi mx) := by
        intro cap' h0 h1 h2 h3 hcap' hp
        refine ⟨_, _, run (some ad) n k h0 h1 h2 h3, hp, ?_⟩
        by_cases hml : (orI m k).toNat = (orI l 0).toNat
        · rw [if_pos hml]
          exact .isl _ _ _ _ ad _ vs ⟨by omega, hcap'⟩ (fun hne => absurd (by omega) hne) (fun hne => absurd (by omega) hne) (fun hne => absurd (by omega) hne)
        · have hk0 : k ≠ 0 := by omega
          rw [if_neg hml, Option.map_some, add_addr (hsp hk0)]
          refine .isl _ _ _ _ _ _ (fun j => vs ((orI l 0).toNat * es + j)) ⟨by omega, hcap'⟩ (fun _ => rfl) (fun _ => ⟨(hc hk0).1, fun j y hy => ?_⟩) (fun _ j y hy => ?_)
          · rw [List.getElem?_drop] at hy
            rw [Nat.add_assoc]
            exact (hc hk0).2 _ y hy
          · rw [List.getElem?_drop] at hy
            exact hv hk0 _ y hy
      split at ok
      · obtain ⟨hs1, hp⟩ := ok
        have hs1' : 0 ≤ orI l 0 ∧ orI l 0 ≤ orI hh n ∧ orI hh n ≤ n := by simpa [stdA] using hs1
        have hn := hcap.1
        refine main (capSub stdA cap (stdA.tn (orI l 0))) hs1'.1 hs1'.2.1 (by simp (config := { failIfUnchanged := false }) only [orI_none, orI_some]; omega) (Int.le_refl _) (fun q hq => ?_) (by simpa [stdA, SROK] using hp)
        cases cap with
        | none => simp [capSub] at hq
        | some k0 => have := hcap.2 k0 rfl; simp [capSub, stdA] at hq; simp (config := { failIfUnchanged := false }) only [orI_none, orI_some]; omega
      · rename_i q
        obtain ⟨hs1, hin, hz, hp⟩ := ok
        have hs1' : 0 ≤ orI l 0 ∧ orI l 0 ≤ orI hh n ∧ orI hh n ≤ (q.toNat : Int) := by simpa [stdA] using hs1
        have hin' : 0 ≤ q ∧ q < (n : Int) + 1 := by simpa [stdA] using hin
        have hn := hcap.1
        by_cases hn0 : n = 0
        · have hp := hz (by simp [stdA, hn0])
          have e0 : orI l 0 = 0 := by omega
          have e1 : orI hh (n : Int) = 0 := by omega
          refine ⟨_, _, run (some ad) n k (by omega) hs1'.2.1 (by rw [e1, orI_some]; omega) (by rw [orI_some]; omega), hp, ?_⟩
          rw [e0, e1, orI_some, show q = 0 by omega]
          exact .isl _ _ _ _ ad _ vs ⟨by simp, fun q hq => by cases hq⟩ (fun hne => absurd (by simp) hne) (fun hne => absurd (by simp) hne) (fun hne => absurd (by simp) hne)
        · have hp := hp (by simp [stdA, hn0])
          exact main (some (q.toNat - (orI l 0).toNat)) hs1'.1 hs1'.2.1 (by simp (config := { failIfUnchanged := false }) only [orI_none, orI_some] at *; omega) (by simp (config := { failIfUnchanged := false }) only [orI_none, orI_some]; omega) (fun q' hq => by cases hq; rfl) (by simpa [stdA, SROK] using hp)
  · rename_i es' id off n cap
    split at ok
    case isFalse => exact ok.elim
    rename_i hes
    subst hes
    cases hr with
    | sl _ _ _ _ _ _ ad k b o hb hcap hsp hf =>
      have main : ∀ (cap' : Option Nat), 0 ≤ orI l 0 → orI l 0 ≤ orI hh n → orI hh n ≤ orI m k → orI m k ≤ k →
          (∀ q, cap' = some q → (orI m k).toNat - (orI l 0).toNat = q) →
          post (.sl es' id (off + (orI l 0).toNat * es') ((orI hh n).toNat - (orI l 0).toNat) cap') h → Looks I w ρ h post P (Instr.sliceAt t (.slice (some ad) n k) lo hi mx) := by
        intro cap' h0 h1 h2 h3 hcap' hp
        refine ⟨_, _, run (some ad) n k h0 h1 h2 h3, hp, ?_⟩
        by_cases hml : (orI m k).toNat = (orI l 0).toNat
        · rw [if_pos hml]
          exact .sl _ _ _ _ _ _ ad _ b o hb ⟨by omega, hcap'⟩ hsp (fun hne => absurd (by omega) hne)
        · rw [if_neg hml, Option.map_some, add_addr hsp]
          have hk0 : k ≠ 0 := by omega
          obtain ⟨rfl, cs, ety, fz, hcs, hfit⟩ := hf hk0
          refine .sl _ _ _ _ _ _ _ _ b o hb ⟨by omega, hcap'⟩ rfl (fun _ => ⟨by simp [Nat.add_assoc], cs, ety, fz, hcs, ?_⟩)
          have : ((orI l 0).toNat + ((orI m k).toNat - (orI l 0).toNat)) * es' ≤ k * es' := Nat.mul_le_mul_right _ (by omega)
          rw [Nat.add_mul] at this
          omega
      split at ok
      · obtain ⟨hs1, hp⟩ := ok
        have hs1' : 0 ≤ orI l 0 ∧ orI l 0 ≤ orI hh n ∧ orI hh n ≤ n := by simpa [stdA] using hs1
        have hn := hcap.1
        refine main (capSub stdA cap (stdA.tn (orI l 0))) hs1'.1 hs1'.2.1 (by simp (config := { failIfUnchanged := false }) only [orI_none, orI_some]; omega) (Int.le_refl _) (fun q hq => ?_) (by simpa [stdA, SROK] using hp)
        cases cap with
        | none => simp [capSub] at hq
        | some k0 => have := hcap.2 k0 rfl; simp [capSub, stdA] at hq; simp (config := { failIfUnchanged := false }) only [orI_none, orI_some]; omega
      · rename_i q
        obtain ⟨hs1, hin, hp⟩ := ok
        have hs1' : 0 ≤ orI l 0 ∧ orI l 0 ≤ orI hh n ∧ orI hh n ≤ (q.toNat : Int) := by simpa [stdA] using hs1
        have hin' : 0 ≤ q ∧ q < (n : Int) + 1 := by simpa [stdA] using hin
        have hn := hcap.1
        exact main (some (q.toNat - (orI l 0).toNat)) hs1'.1 hs1'.2.1 (by simp (config := { failIfUnchanged := false }) only [orI_none, orI_some] at *; omega) (by simp (config := { failIfUnchanged := false }) only [orI_none, orI_some]; omega) (fun q' hq => by cases hq; rfl) (by simpa [stdA, SROK] using hp)
  · cases hr
    obtain ⟨hs1, hin, hp⟩ := ok
    have hs1' : 0 ≤ orI l 0 ∧ orI l 0 ≤ orI hh 0 ∧ orI hh 0 ≤ 0 := by simpa [stdA] using hs1
    have hin' : 0 ≤ orI m 0 ∧ orI m 0 < 1 := by simpa [stdA] using hin
    refine ⟨_, .slice none 0 0, ?_, hp, .lit _ _⟩
    have := run none 0 0 hs1'.1 (by simpa using hs1'.2.1) (by simp; omega) (by simp; omega)
    rw [this]
    have e1 : (orI m ((0 : Nat) : Int)).toNat = 0 := by simp; omega
    have e2 : (orI l 0).toNat = 0 := by omega
    have e3 : (orI hh ((0 : Nat) : Int)).toNat = 0 := by simp; omega
    rw [e1, e2, e3]; rfl
  · exact ok.elim
theorem sliceStr_sound {t : TypeId} {x : EV} {u : Value} {lo hi : Option Value} {l hh : Option Int} (hu : P.underlying t = some .string)
    (hl : BV lo l) (hhi : BV hi hh) (hr : Rep w I ρ x u) (ok : SROK post pc (sliceStrE stdA x l hh h)) :
    Looks I w ρ h post P (Instr.sliceAt t u lo hi none) := by
  unfold sliceStrE at ok
  split at ok
  · rename_i s
    cases hr
    obtain ⟨hs1, hp⟩ := ok
    have hs1' : 0 ≤ orI l 0 ∧ orI l 0 ≤ orI hh s.size ∧ orI hh s.size ≤ s.size := by simpa [stdA] using hs1
    refine ⟨_, .string (s.extract (orI l 0).toNat (orI hh s.size).toNat), ?_, hp, .lit _ _⟩
    have := fun b => run_sliceBounds (P := P) (w := w) (b := b) (len := s.size) (cap := s.size) (mx := none) (m := none) hl hhi trivial (by simp) hs1'.1 hs1'.2.1 hs1'.2.2 (Int.le_refl _)
    simp [Instr.sliceAt, run_underlying hu, Instr.slice, this]
  · exact ok.elim
theorem s2a_sound {t e : TypeId} {n : Nat} {x : EV} {u : Value} (hu : P.underlying t = some (.array n e)) (hn : n ≠ 0) (hr : Rep w I ρ x u) (ok : SROK post pc (s2aE stdA n x h)) :
    Looks I w ρ h post P (Instr.arrayAt t u) := by
  have run : ∀ (a : Option Addr) (m k : Nat), n ≤ m → (Instr.arrayAt t (.slice a m k)).run P w = .ok (.pointer a) w := by
    intro a m k hle
    simp [Instr.arrayAt, underlying, hu, Nat.not_lt.2 hle]
  unfold s2aE at ok
  split at ok
  · rename_i m cap c
    cases hr with
    | isln _ _ =>
      obtain ⟨hle, hp⟩ := ok
      have hle' : n ≤ 0 := by simpa [stdA] using hle
      omega
    | isl _ _ _ _ ad k vs hcap hsp hc hv =>
      obtain ⟨hle, hp⟩ := ok
      have hle' : n ≤ m := by simpa [stdA] using hle
      have hk0 : k ≠ 0 := by have := hcap.1; omega
      refine ⟨_, _, run _ _ _ hle', hp, ?_⟩
      rw [addr_eta (hsp hk0)]
      exact .iptr _ c 0 ad.block ad.off vs (hc hk0).1 (hc hk0).2 (hv hk0)
  · rename_i es id off m cap
    cases hr with
    | sl _ _ _ _ _ _ ad k b o hb hcap hsp hf =>
      obtain ⟨hle, hp⟩ := ok
      have hle' : n ≤ m := by simpa [stdA] using hle
      have hk0 : k ≠ 0 := by have := hcap.1; omega
      refine ⟨_, _, run _ _ _ hle', hp, ?_⟩
      rw [(hf hk0).1]
      exact .eptr _ id off b o hb
  · exact ok.elim
/-- Cells that are bytes, as a list of numbers. -/
theorem bytes_cells : ∀ (c : List EV) (us : List Value), RepL w I ρ c us → c.all byteE = true → ∃ ns : List Int, us = ns.map (Value.int .u8) ∧ ns = c.map numE
  | [], [], _, _ => ⟨[], rfl, rfl⟩
  | x :: c, u :: us, hr, ha => by
    simp only [List.all_cons, Bool.and_eq_true] at ha
    obtain ⟨ns, h1, h2⟩ := bytes_cells c us hr.2 ha.2
    have hx := hr.1
    cases x with
    | lit v =>
      cases v with
      | int k n =>
        cases k <;> simp [byteE] at ha
        cases hx
        exact ⟨n :: ns, by simp [h1], by simp [h2, numE]⟩
      | _ => simp [byteE] at ha
    | _ => simp [byteE] at ha
theorem dec_eq (c : List EV) : (c.map numE).foldl (fun r n => r.push (UInt8.ofNat n.toNat)) ByteArray.empty = stdA.dec c := by
  rw [foldl_push_bytes]
  simp [stdA]
theorem b2s_sound {s d e : TypeId} {x : EV} {u : Value} (hs1 : P.underlying s = some (.slice e)) (hd : P.underlying d = some .string) (he : P.underlying e = some (.int .u8))
    (hs : HSim I w ρ h) (hr : Rep w I ρ x u) (ok : SROK post pc (b2sE stdA x h)) : Looks I w ρ h post P (convert s d u) := by
  have conv : ∀ (a : Option Addr) (n k : Nat), (convert s d (.slice a n k)).run P w = (Conv.bytesToString (.slice a n k)).run P w := by
    intro a n k
    simp [convert, underlying, hs1, hd, he]
  have fin : ∀ (a : Addr) (n k : Nat) (c : List EV), (n ≠ 0 → a.spot = none ∧ ∀ (j : Nat) (y : EV), c[j]? = some y → ∃ v, w.cell? ⟨a.block, a.off + j, none⟩ = some v ∧ Rep w I ρ y v) → stdA.byt n c = true →
      (convert s d (.slice (some a) n k)).run P w = .ok (.string (stdA.dec (c.take n))) w := by
    intro a n k c hc hb
    have hb' : n ≤ c.length ∧ (c.take n).all byteE = true := by simpa [stdA] using hb
    rw [conv]
    obtain ⟨us, h1, h2⟩ := pick_cells (w := w) (I := I) (ρ := ρ) (c.take n) (fun j u => w.cell? ⟨a.block, a.off + j, none⟩ = some u) (fun j y hy => by
      rw [List.getElem?_take] at hy
      split at hy
      · exact (hc (by omega)).2 j y hy
      · cases hy)
    obtain ⟨ns, e1, e2⟩ := bytes_cells _ us h1 hb'.2
    have hl : (loadCells a n).run P w = .ok us.toArray w := by
      by_cases hn : n = 0
      · subst hn
        have : us = [] := by have := h1.length; simpa using this.symm
        subst this
        exact run_loadCells_list (P := P) w a [] (by simp)
      · rw [addr_eta (hc hn).1]
        exact loadCells_run (P := P) h1 h2 (n := n) (by simp; omega)
    rw [e1] at hl
    rw [run_bytesToString w a n k ns hl, e2, dec_eq]
  unfold b2sE at ok
  split at ok
  · cases hr
    exact ⟨_, .string .empty, by rw [conv]; rfl, ok, .lit _ _⟩
  · rename_i n cap c
    cases hr with
    | isln _ _ =>
      obtain ⟨hb, hp⟩ := ok
      refine ⟨_, .string .empty, by rw [conv]; rfl, hp, ?_⟩
      have : stdA.dec (stdA.tak 0 c) = .empty := by simp [stdA]; rfl
      rw [this]; exact .lit _ _
    | isl _ _ _ _ ad k vs hcap hsp hc hv =>
      obtain ⟨hb, hp⟩ := ok
      refine ⟨_, .string (stdA.dec (c.take n)), ?_, hp, .lit _ _⟩
      exact fin ad n k c (fun hn => by
        have hk0 : k ≠ 0 := by have := hcap.1; omega
        exact ⟨hsp hk0, fun j y hy => ⟨vs j, ((hc hk0).2 j y hy).1, ((hv hk0) j y hy).closed ρ⟩⟩) hb
  · rename_i es id off n cap
    split at ok
    case isFalse => exact ok.elim
    rename_i hes
    subst hes
    split at ok
    · rename_i c hg
      cases hr with
      | sl _ _ _ _ _ _ ad k b o hb hcap hsp hf =>
        obtain ⟨hby, hp⟩ := ok
        obtain ⟨b', o', hb', hcell⟩ := blk_cell hs hg
        rw [hb] at hb'; cases hb'
        refine ⟨_, .string (stdA.dec ((c.drop off).take n)), ?_, hp, .lit _ _⟩
        by_cases hn : n = 0
        · exact fin ad n k (c.drop off) (fun h0 => absurd hn h0) hby
        · have hk0 : k ≠ 0 := by have := hcap.1; omega
          rw [(hf hk0).1]
          exact fin _ n k (c.drop off) (fun _ => ⟨rfl, fun j y hy => by
            rw [List.getElem?_drop] at hy
            obtain ⟨v, hv, _, hrp⟩ := hcell _ y hy
            exact ⟨v, by rw [Nat.add_assoc]; exact hv, hrp⟩⟩) hby
    · rename_i s0 hg
      cases hr with
      | sl _ _ _ _ _ _ ad k b o hb hcap hsp hf =>
        obtain ⟨hle, hp⟩ := ok
        have hle : off + n ≤ s0.size := by simpa [stdA] using hle
        have hby := byt_enc hle
        obtain ⟨b', o', hb', hcell⟩ := row_cell hs hg
        rw [hb] at hb'; cases hb'
        refine ⟨_, .string (stdA.bex s0 off (off + n)), ?_, hp, .lit _ _⟩
        rw [← dec_enc]
        by_cases hn : n = 0
        · exact fin ad n k ((stdA.enc s0).drop off) (fun h0 => absurd hn h0) hby
        · have hk0 : k ≠ 0 := by have := hcap.1; omega
          rw [(hf hk0).1]
          exact fin _ n k ((stdA.enc s0).drop off) (fun _ => ⟨rfl, fun j y hy => by
            rw [List.getElem?_drop] at hy
            obtain ⟨v, hv, _, hrp⟩ := hcell _ y hy
            exact ⟨v, by rw [Nat.add_assoc]; exact hv, hrp⟩⟩) hby
    · exact ok.elim
  · cases hr
    exact ⟨_, .string .empty, by rw [conv]; rfl, ok, .lit _ _⟩
  · exact ok.elim
end
end Go.Proofs.YtpgeonghlabnhaaGreatDoor.Em
