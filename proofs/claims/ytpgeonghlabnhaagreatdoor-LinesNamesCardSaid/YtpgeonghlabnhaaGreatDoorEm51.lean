/- Em51: builders of strings, ranges over strings, assertions of types: their operations are sound. No conditions beyond those written. -/
import Derived.Test.YtpgeonghlabnhaaGreatDoorEm50
import Derived.Lib.UnsafeStr
set_option linter.unusedVariables false
namespace Go.Proofs.YtpgeonghlabnhaaGreatDoor.Em
open Go
section
variable {I : Imm} {w : World} {ρ : Ren} {h : EH} {post : EV → EH → Prop} {pc : FuncId → List EV → Prop} {P : Program}
theorem allocB_sound {e : TypeId} {z : Value} {n : Nat} (hz : zeP P e = some z) (hb : bldZ z.cells.toList = true) (hone : allOne (litL z.cells.toList) = true) (hn : z.cells.size = n)
    (hs : HSim I w ρ h) (hI : ∀ b, I b → b < w.heap.size) (ok : post (.ptr (sizeH h) 0) (pushH h (.blk (nbZ (sizeH h) e n (litL z.cells.toList))))) :
    Res I w ρ post pc (((Instr.alloc e true (.tuple #[])).run P w).andThen fun a w' => .ok (.value a) w') := by
  have hrl : RepL w I ρ (litL z.cells.toList) z.cells.toList := litL_rep _
  have h1 := allOne_rep hrl hone
  refine Res.made hs hI (o := .cells z.cells e) (eo := .blk (nbZ (sizeH h) e n (litL z.cells.toList))) (v := .ptr (sizeH h) 0) (v' := .pointer (some ⟨w.heap.size, 0, none⟩)) ?_ ok ?_ ?_
  · simp [Instr.alloc, run_zeP hz, newVar, newRow]
  · obtain ⟨rest, hr⟩ : ∃ rest, z.cells.toList = .pointer none :: .slice none 0 0 :: rest := by
      unfold bldZ at hb
      split at hb
      · rename_i l hl; exact ⟨_, hl⟩
      · cases hb
    have hc : nbZ (sizeH h) e n (litL z.cells.toList) = .nb (sizeH h) e n :: .nbuf :: litL rest := by rw [hr]; rfl
    rw [hc]
    refine ⟨w.heap.size, 0, z.cells, e, (0, 0), ren_last hs _, fun hb => absurd (hI _ hb) (Nat.lt_irrefl _), heap_alloc_at w _, .inl rfl, ?_, fun j x hx => ?_⟩
    · have := congrArg List.length hr
      simp only [Array.length_toList, List.length_cons] at this
      simp only [List.length_cons, litL_length]
      omega
    · simp only [Nat.zero_add, ← Array.getElem?_toList, hr]
      match j with
      | 0 =>
        simp at hx; subst hx
        exact ⟨_, rfl, rfl, .nb _ _ _ _ w.heap.size (ren_last hs _) ⟨z.cells, (0, 0), heap_alloc_at w _, hn⟩⟩
      | 1 => simp at hx; subst hx; exact ⟨_, rfl, rfl, .nbuf _⟩
      | j + 2 =>
        have hx : (litL rest)[j]? = some x := by simpa using hx
        have hrr : RepL w I ρ (litL rest) rest := litL_rep _
        obtain ⟨v, hv, ho, hrp⟩ := rows_of_RepL hrr (fun v hv => h1 v (by rw [hr]; simp [hv])) j x hx
        exact ⟨v, by simpa using hv, ho, (hrp.keep (.alloc w _ hI)).ext _⟩
  · exact .ptr _ _ _ w.heap.size 0 (ren_last hs _)
theorem boxB_sound {e : TypeId} {n : Nat} {v : EV} {u : Value} (hs : HSim I w ρ h) (hI : ∀ b, I b → b < w.heap.size) (hv : Rep w I ρ v u)
    (ok : SROK post pc (boxBE e n v h)) : Res I w ρ post pc (((Instr.box e u).run P w).andThen fun a w' => .ok (.value a) w') := by
  unfold boxBE at ok
  split at ok
  rotate_left
  · exact ok.elim
  rename_i c
  split at ok
  case isFalse => exact ok.elim
  rename_i hc
  simp only [Bool.and_eq_true] at hc
  obtain ⟨h1c, hn⟩ := hc
  have hn := Nat.eq_of_beq_eq_true hn
  have hone : allOne (cellsE (.agg (.lit (.pointer none) :: .lit (.slice none 0 0) :: c))) = true := by simpa [cellsE, allOne, oneE] using h1c
  have hrl : RepL w I ρ (.lit (.pointer none) :: .lit (.slice none 0 0) :: c) u.cells.toList := cellsE_rep' hv hone
  obtain ⟨rest, hr, hrr⟩ : ∃ rest, u.cells.toList = .pointer none :: .slice none 0 0 :: rest ∧ RepL w I ρ c rest := by
    match hl : u.cells.toList, hrl with
    | x :: y :: rest, hrl =>
      obtain ⟨q1, q2, q3⟩ := hrl
      cases q1; cases q2
      exact ⟨rest, rfl, q3⟩
  have h1 := allOne_rep hrr h1c
  have hlen := congrArg List.length hr
  simp only [Array.length_toList, List.length_cons] at hlen
  have hrl2 := hrr.length
  have hll : lenL c = c.length := lenL_eq c
  refine Res.made hs hI (o := .cells u.cells e) (eo := .blk (.nb (sizeH h) e n :: .nbuf :: c)) (v := .ptr (sizeH h) 0) (v' := .pointer (some ⟨w.heap.size, 0, none⟩)) ?_ ok ?_ ?_
  · simp [Instr.box, newVar, newRow]
  · refine ⟨w.heap.size, 0, u.cells, e, (0, 0), ren_last hs _, fun hb => absurd (hI _ hb) (Nat.lt_irrefl _), heap_alloc_at w _, .inl rfl, ?_, fun j x hx => ?_⟩
    · simp only [List.length_cons]
      omega
    · simp only [Nat.zero_add, ← Array.getElem?_toList, hr]
      match j with
      | 0 =>
        simp at hx; subst hx
        exact ⟨_, rfl, rfl, .nb _ _ _ _ w.heap.size (ren_last hs _) ⟨u.cells, (0, 0), heap_alloc_at w _, by omega⟩⟩
      | 1 => simp at hx; subst hx; exact ⟨_, rfl, rfl, .nbuf _⟩
      | j + 2 =>
        have hx : c[j]? = some x := by simpa using hx
        obtain ⟨v, hv, ho, hrp⟩ := rows_of_RepL hrr h1 j x hx
        exact ⟨v, by simpa using hv, ho, (hrp.keep (.alloc w _ hI)).ext _⟩
  · exact .ptr _ _ _ w.heap.size 0 (ren_last hs _)
theorem rngS_sound {t : TypeId} {x : EV} {u : Value} (hu : P.underlying t = some .string) (hs : HSim I w ρ h) (hI : ∀ b, I b → b < w.heap.size) (hx : Rep w I ρ x u) (ok : SROK post pc (rngSE x h)) :
    Res I w ρ post pc (((Instr.range t u).run P w).andThen fun a w' => .ok (.value a) w') := by
  unfold rngSE at ok
  split at ok
  · rename_i s
    cases hx
    refine Res.made hs hI (o := .stringIter s 0) (eo := .itr s 0) (v := .ptr (sizeH h) 0) (v' := .pointer (some ⟨w.heap.size, 0, none⟩)) ?_ ok ?_ ?_
    · simp [Instr.range, run_underlying hu]
    · exact ⟨w.heap.size, ren_last hs _, fun hb => absurd (hI _ hb) (Nat.lt_irrefl _), heap_alloc_at w _⟩
    · exact .ptr _ _ _ w.heap.size 0 (ren_last hs _)
  · exact ok.elim
theorem Keep.setItr {b : Nat} {s s' : ByteArray} {p p' : Nat} (hb : w.heap[b]? = some (.stringIter s p)) (hI : ¬ I b) :
    Keep I w { w with heap := w.heap.setIfInBounds b (.stringIter s' p') } ∧ ({ w with heap := w.heap.setIfInBounds b (.stringIter s' p') } : World).heap[b]? = some (.stringIter s' p') ∧
    ∀ b', b' ≠ b → ({ w with heap := w.heap.setIfInBounds b (.stringIter s' p') } : World).heap[b']? = w.heap[b']? := by
  have hlt : b < w.heap.size := (Array.getElem?_eq_some_iff.1 hb).1
  have ho : ∀ b', b' ≠ b → (w.heap.setIfInBounds b (.stringIter s' p'))[b']? = w.heap[b']? := fun b' hne => Array.getElem?_setIfInBounds_ne (fun e => hne e.symm)
  refine ⟨⟨rfl, rfl, rfl, by simp, fun x hx => ho x (fun e => hI (e ▸ hx)), fun x cs e fz hx => ?_⟩, by simp [hlt], ho⟩
  have : x ≠ b := fun e => by subst e; rw [hb] at hx; cases hx
  exact ⟨cs, fz, by show (w.heap.setIfInBounds b (.stringIter s' p'))[x]? = _; rw [ho x this]; exact hx, rfl⟩
theorem run_next_over {b : Nat} {s : ByteArray} {p : Nat} {ty : TypeId} (hb : w.heap[b]? = some (.stringIter s p)) (hp : ¬ p < s.size) :
    (Instr.next (.pointer (some ⟨b, 0, none⟩)) true ty).run P w = .ok (.tuple #[.bool false]) w := by
  simp [Instr.next, getObj, Sem.run, hb, hp]
theorem run_next_on {b : Nat} {s : ByteArray} {p : Nat} {ty : TypeId} (hb : w.heap[b]? = some (.stringIter s p)) (hp : p < s.size) :
    (Instr.next (.pointer (some ⟨b, 0, none⟩)) true ty).run P w = .ok (.tuple #[.bool true, .int .i64 p, .int .i32 (Utf8.decode s p).1]) { w with heap := w.heap.setIfInBounds b (.stringIter s (p + (Utf8.decode s p).2)) } := by
  simp [Instr.next, getObj, setObj, Sem.run, hb, hp, goInt]
theorem nxtS_sound {x : EV} {u : Value} {ty : TypeId} (hs : HSim I w ρ h) (hx : Rep w I ρ x u) (ok : SROK post pc (nxtSE stdA x h)) :
    Res I w ρ post pc (((Instr.next u true ty).run P w).andThen fun a w' => .ok (.value a) w') := by
  unfold nxtSE at ok
  split at ok
  · rename_i id
    split at ok
    · rename_i s pos hg
      cases hx with
      | ptr _ _ _ b o hr =>
      have hlive := hs.live id
      rw [hg] at hlive
      obtain ⟨b', k1, k2, k3⟩ := hlive
      rw [hr] at k1; cases k1
      obtain ⟨o1, o2⟩ := ok
      by_cases hp : pos < s.size
      · have hle : stdA.le (stdA.bsz s) pos = false := by simp [stdA]; omega
        obtain ⟨e1, e2, e3⟩ := Keep.setItr (s' := s) (p' := pos + (Utf8.decode s pos).2) k3 k2
        refine .inl ⟨_, _, _, _, [], .inl (by rw [run_next_on k3 hp]; rfl), o2 hle, e1, ?_, ?_⟩
        · rw [List.append_nil]
          exact hs.write e1 (by rw [hg]; simp) hr e3 _ ⟨b, hr, k2, e2⟩
        · refine tup_of_list ⟨.lit _ _, ?_, ?_, trivial⟩
          · exact .lit _ _
          · exact .lit _ _
      · have hle : stdA.le (stdA.bsz s) pos = true := by simp [stdA]; omega
        exact Res.pure hs (v' := .tuple #[.bool false]) (by rw [run_next_over k3 hp]; rfl) (o1 hle) (tup_of_list ⟨.lit _ _, trivial⟩)
    · exact ok.elim
  · exact ok.elim
theorem tassert_sound {t xt : TypeId} {d : TypeDesc} {z : Value} {isA cok : Bool} {x : EV} {u : Value} (hu : P.underlying t = some d) (hni : ∀ ms, d ≠ .interface ms)
    (ha : aggP P t = some isA) (hz : zeP P t = some z) (h1 : isA = true → ∃ cs, z = .agg cs) (h2 : isA = false → z.cells.size = 1 ∧ ∀ cs, z ≠ .agg cs)
    (hx : Rep w I ρ x u) (ok : SROK post pc (tassertE t z.cells.toList isA cok x h)) : Looks I w ρ h post P (Instr.typeAssert u xt t cok) := by
  have hzr : Rep w I ρ (zvE z.cells.toList isA) z := zvE_rep ha hz h1 h2
  have hd1 : ∀ (tt : TypeId) (v : Value), (Instr.typeAssert (.iface tt v) xt t cok).run P w = (if tt = t then (Pure.pure (if cok then .tuple #[v, .bool true] else v) : Sem Value) else
      (if cok then (do Pure.pure (.tuple #[← zeroValue t, .bool false])) else runtimePanic (.typeAssertion (some xt) (some tt) t ""))).run P w := by
    intro tt v
    cases d <;> first | exact absurd rfl (hni _) | (simp only [Instr.typeAssert, Sem.run_bind, run_underlying hu, Result.andThen_ok])
  have hd2 : (Instr.typeAssert .nilIface xt t cok).run P w = (if cok then (do Pure.pure (.tuple #[← zeroValue t, .bool false])) else runtimePanic (.typeAssertion (some xt) none t "")).run P w := by
    cases d <;> first | exact absurd rfl (hni _) | (simp only [Instr.typeAssert, Sem.run_bind, run_underlying hu, Result.andThen_ok])
  unfold tassertE at ok
  split at ok
  · rename_i tt v
    cases hx with
    | iface _ _ _ v' hv =>
    by_cases he : tt = t
    · have hb : Nat.beq tt t = true := by subst he; exact Nat.beq_refl _
      rw [hb] at ok
      simp only [if_true] at ok
      cases cok with
      | true => exact ⟨_, .tuple #[v', .bool true], by rw [hd1]; simp [he], ok, tup_of_list ⟨hv, .lit _ _, trivial⟩⟩
      | false => exact ⟨_, v', by rw [hd1]; simp [he], ok, hv⟩
    · have hb : Nat.beq tt t = false := by
        cases hbb : Nat.beq tt t with
        | true => exact absurd (Nat.eq_of_beq_eq_true hbb) he
        | false => rfl
      rw [hb] at ok
      simp only [Bool.false_eq_true, if_false] at ok
      cases cok with
      | true => exact ⟨_, .tuple #[z, .bool false], by rw [hd1]; simp [he, run_zeP hz], ok, tup_of_list ⟨hzr, .lit _ _, trivial⟩⟩
      | false => exact ok.elim
  · cases hx
    cases cok with
    | true => exact ⟨_, .tuple #[z, .bool false], by rw [hd2]; simp [run_zeP hz], ok, tup_of_list ⟨hzr, .lit _ _, trivial⟩⟩
    | false => exact ok.elim
  · exact ok.elim
theorem toU_sound {s d t : TypeId} {n : Nat} {x : EV} {u : Value} (h1 : P.underlying s = some (.pointer t)) (h2 : P.underlying d = some .unsafePointer) (hsz : szP P t = some n) (hn : n ≠ 0)
    (hs : HSim I w ρ h) (hx : Rep w I ρ x u) (ok : SROK post pc (toUE x h)) : Looks I w ρ h post P (convert s d u) := by
  unfold toUE at ok
  split at ok
  · rename_i id off
    split at ok
    · rename_i c hg
      split at ok
      case isFalse => exact ok.elim
      rename_i hlt
      have hr := hx
      cases hx with
      | ptr _ _ _ b o hb =>
      have hlive := hs.live id
      rw [hg] at hlive
      obtain ⟨b', o', cs, e, fz, k1, k2, k3, k4, k5, _⟩ := hlive
      rw [hb] at k1; cases k1
      have hlt' : off < c.length := by rw [← lenL_eq]; simpa [Nat.blt_eq] using hlt
      have hsh : w.shape? b = some (e, cs.size) := by simp [World.shape?, k3]
      refine ⟨_, .pointer (some ⟨b, o + off, none⟩), ?_, ok, hr⟩
      have hnl : ¬ cs.size ≤ o + off := by omega
      simp [convert, underlying, h1, h2, Conv.unsafePointer, Conv.seenAt, viewAt, hsh, cellsIn, run_szP hsz, hn, hnl]
    · exact ok.elim
  · exact ok.elim
theorem hasNb_at {id e n : Nat} : ∀ {c : List EV}, hasNb id e n c = true → ∃ j : Nat, c[j]? = some (.nb id e n)
  | [], h => by simp [hasNb] at h
  | x :: c, h => by
    have rest : hasNb id e n c = true → ∃ j : Nat, (x :: c)[j]? = some (.nb id e n) := fun h => by
      obtain ⟨j, hj⟩ := hasNb_at h
      exact ⟨j + 1, by simpa using hj⟩
    cases x with
    | nb i a b =>
      simp only [hasNb, Bool.or_eq_true, Bool.and_eq_true] at h
      rcases h with ⟨⟨h1, h2⟩, h3⟩ | h
      · refine ⟨0, ?_⟩
        rw [Nat.eq_of_beq_eq_true h1, Nat.eq_of_beq_eq_true h2, Nat.eq_of_beq_eq_true h3]; rfl
      · exact rest h
    | _ => exact rest (by simpa [hasNb] using h)
theorem inOk_at {id off : Nat} {c : List EV} : ∀ {l : List (Nat × Nat × Nat)}, inOk id off c l = true → ∃ e n, (e, n, off) ∈ l ∧ hasNb id e n c = true
  | [], h => by simp [inOk] at h
  | (e, n, o) :: l, h => by
    simp only [inOk, Bool.or_eq_true, Bool.and_eq_true] at h
    rcases h with ⟨h1, h2⟩ | h
    · have := Nat.eq_of_beq_eq_true h1
      subst this
      exact ⟨e, n, by simp, h2⟩
    · obtain ⟨e', n', h1, h2⟩ := inOk_at h
      exact ⟨e', n', by simp [h1], h2⟩
theorem oklP_spec {u e n o : Nat} (h : (e, n, o) ∈ oklP P u) : o = 0 ∧ szP P e = some n ∧ n ≠ 0 ∧ liesAt P P.depth e 1 0 u 1 = true := by
  unfold oklP at h
  obtain ⟨a, h1, h2⟩ := List.mem_filterMap.1 h
  split at h2
  · rename_i m hm
    split at h2
    · rename_i hc
      cases h2
      simp only [Bool.and_eq_true, bne_iff_ne, ne_eq] at hc
      exact ⟨rfl, hm, hc.1, hc.2⟩
    · cases h2
  · cases h2
theorem fromU_sound {s d u' : TypeId} {n : Nat} {x : EV} {u : Value} (h1 : P.underlying s = some .unsafePointer) (h2 : P.underlying d = some (.pointer u')) (hsz : szP P u' = some n) (hn : n ≠ 0)
    (hs : HSim I w ρ h) (hx : Rep w I ρ x u) (ok : SROK post pc (fromUE (oklP P u') x h)) : Looks I w ρ h post P (convert s d u) := by
  unfold fromUE at ok
  split at ok
  · rename_i id off
    split at ok
    · rename_i c hg
      split at ok
      case isFalse => exact ok.elim
      rename_i hin
      obtain ⟨e, m, hmem, hnb⟩ := inOk_at hin
      obtain ⟨h0, hem, hm0, hlies⟩ := oklP_spec hmem
      subst h0
      obtain ⟨j, hj⟩ := hasNb_at hnb
      have hr := hx
      cases hx with
      | ptr _ _ _ b o hb =>
      obtain ⟨b', o', e1, hcell⟩ := blk_cell hs hg
      rw [hb] at e1; cases e1
      obtain ⟨v, _, _, hrep⟩ := hcell j _ hj
      cases hrep with
      | nb _ _ _ _ b2 hb2 hf =>
      rw [hb] at hb2; cases hb2
      obtain ⟨cs, fz, k1, k2⟩ := hf
      have hsh : w.shape? b = some (e, cs.size) := by simp [World.shape?, k1]
      have hcells : P.cellsOf e = m := by
        unfold szP at hem
        unfold Program.cellsOf
        cases hi : P.info? e with
        | none => simp [hi] at hem
        | some i => simp [hi] at hem ⊢; exact hem
      have hdiv : cs.size / P.cellsOf e = 1 := by rw [hcells, k2]; exact Nat.div_self (by omega)
      refine ⟨_, .pointer (some ⟨b, 0 + 0, none⟩), ?_, ok, hr⟩
      simp [convert, underlying, h1, h2, Conv.unsafePointer, Conv.seenAt, viewAt, hsh, run_szP hsz, hn, variablesAt, hdiv, hlies]
    · exact ok.elim
  · exact ok.elim
theorem sdata_sound {tys : Array TypeId} {ty : TypeId} {x : EV} {u : Value} (hs : HSim I w ρ h) (hx : Rep w I ρ x u) (ok : SROK post pc (sdataE stdA x h)) :
    Looks I w ρ h post P (Builtin.unsafeSliceData_ tys ty #[u]) := by
  unfold sdataE at ok
  split at ok
  · cases hx; exact ⟨_, .pointer none, rfl, ok, .lit _ _⟩
  · cases hx; exact ⟨_, .pointer none, rfl, ok, .lit _ _⟩
  · rename_i id off n cap
    split at ok
    · rename_i s hg
      obtain ⟨h0, hp⟩ := ok
      have hn : n ≠ 0 := by simpa [stdA] using h0
      cases hx with
      | sl _ _ _ _ _ _ ad k b o hb hcap hsp hf =>
      have hk : k ≠ 0 := by have := hcap.1; omega
      obtain ⟨rfl, _⟩ := hf hk
      exact ⟨_, .pointer (some ⟨b, o + off, none⟩), by
        obtain ⟨m, rfl⟩ : ∃ m, k = m + 1 := ⟨k - 1, by omega⟩
        rfl, hp, .eptr _ _ _ _ _ hb⟩
    · exact ok.elim
  · exact ok.elim
theorem liesAt_row {e e' : TypeId} (h1 : P.underlying e = some (.int .u8)) (h2 : P.underlying e' = some (.int .u8)) (hc : P.cellsOf e = 1) (count off n : Nat) (hn : off + n ≤ count) : liesAt P P.depth e count off e' n = true := by
  have hd : P.depth = (2 * (P.types.size + Made.depth) + 1) + 1 := rfl
  rw [hd]
  simp only [liesAt, Bool.or_eq_true]
  left
  rw [hd]
  have hl : ∀ d, sameLayout P (d + 1) e e' = true := fun d => by simp [sameLayout, h1, h2]
  simp [rowAt, hc, hn, hl, Nat.mod_one]
theorem freeze_keep {a : Addr} {n : Nat} (hI : ¬ I a.block) : Keep I w (w.freeze a n) ∧ ∀ b', b' ≠ a.block → (w.freeze a n).heap[b']? = w.heap[b']? := by
  unfold World.freeze
  split
  · exact ⟨.refl I w, fun _ _ => rfl⟩
  · have ho : ∀ b', b' ≠ a.block → (w.heap.modify a.block fun
        | .cells c elem (lo, hi) => .cells c elem (if lo == hi then (a.off, a.off + n) else (min lo a.off, max hi (a.off + n)))
        | o => o)[b']? = w.heap[b']? := fun b' hb => by
      rw [Array.getElem?_modify, if_neg (fun e => hb e.symm)]
    refine ⟨⟨rfl, rfl, rfl, by simp, fun b hb => ho b fun e => hI (e ▸ hb), fun b cs e fz hb => ?_⟩, ho⟩
    by_cases hbb : a.block = b
    · subst hbb
      obtain ⟨lo, hi⟩ := fz
      refine ⟨cs, if (lo == hi) = true then (a.off, a.off + n) else (min lo a.off, max hi (a.off + n)), ?_, rfl⟩
      show (w.heap.modify a.block _)[a.block]? = _
      rw [Array.getElem?_modify, if_pos rfl, hb]
      rfl
    · exact ⟨cs, fz, by rw [← hb]; exact ho b fun e => hbb e.symm, rfl⟩
theorem run_ustr_some (pt it ty e : TypeId) (hp : P.underlying pt = some (.pointer e)) (k : IntKind) (a : Addr) (m : Nat) (h63 : m ≤ 9223372036854775807) (s : ByteArray) (h0 : m = 0 → s = .empty)
    (hv : m ≠ 0 → (variablesAt a e m).run P w = .ok true w) (hl : m ≠ 0 → (loadBytes a .empty m).run P w = .ok s w) :
    (Builtin.unsafeString_ #[pt, it] ty #[.pointer (some a), .int k m]).run P w = .ok (.string s) (if m = 0 then w else w.freeze a m) := by
  have hdef : Builtin.unsafeString_ #[pt, it] ty #[.pointer (some a), .int k m] =
      (do
        let n ← asInt (.int k m)
        if n < 0 then runtimePanic (.error "unsafe.String: len out of range")
        if n > IntKind.i64.max then unsupported (.unsafePointer "String: a length above the largest int")
        if n = 0 then pure (.string .empty)
        else if ← variablesAt a (← elemOf pt) n.toNat then do
          let s ← loadBytes a .empty n.toNat
          freeze a n.toNat
          pure (.string s)
        else unsupported (.unsafePointer "String: not so many bytes at ptr")) := rfl
  rw [hdef]
  have hmax : IntKind.i64.max = 9223372036854775807 := rfl
  have hneg : ¬ (m : Int) < 0 := by omega
  have h63' : ¬ (9223372036854775807 : Int) < (m : Int) := by omega
  by_cases hm : m = 0
  · subst hm; rw [h0 rfl]; simp [asInt, asIntOf, hmax]
  · simp [asInt, asIntOf, hmax, h63', hneg, hm, elemOf, run_underlying hp, hv hm, hl hm]
theorem run_ustr_none (pt it ty : TypeId) (k : IntKind) : (Builtin.unsafeString_ #[pt, it] ty #[.pointer none, .int k 0]).run P w = .ok (.string .empty) w := by
  have hdef : Builtin.unsafeString_ #[pt, it] ty #[.pointer none, .int k 0] =
      (do
        let n ← asInt (.int k 0)
        if n < 0 then runtimePanic (.error "unsafe.String: len out of range")
        if n > IntKind.i64.max then unsupported (.unsafePointer "String: a length above the largest int")
        if n = 0 then pure (.string .empty)
        else runtimePanic (.error "unsafe.String: ptr is nil and len is not zero")) := rfl
  rw [hdef]
  have hmax : IntKind.i64.max = 9223372036854775807 := rfl
  simp [asInt, asIntOf, hmax]
theorem ustr_sound {ty pt it e : TypeId} {x l : EV} {u v : Value} (hp : P.underlying pt = some (.pointer e)) (he : P.underlying e = some (.int .u8)) (hP : I.P = P)
    (hs : HSim I w ρ h) (hx : Rep w I ρ x u) (hl : Rep w I ρ l v) (ok : SROK post pc (ustrE stdA x l h)) :
    Res I w ρ post pc (((Builtin.unsafeString_ #[pt, it] ty #[u, v]).run P w).andThen fun a w' => .ok (.value a) w') := by
  unfold ustrE at ok
  split at ok
  · rename_i k n
    obtain ⟨h1, h2, hpo⟩ := ok
    have hn0 : n = 0 := by
      have a1 : n.toNat = 0 := by simpa [stdA] using h1
      have a2 : 0 ≤ n := by simpa [stdA] using h2
      omega
    subst hn0
    cases hx; cases hl
    refine Res.pure hs (v := .lit (.string .empty)) (v' := .string .empty) ?_ hpo (.lit _ _)
    rw [run_ustr_none]; rfl
  · rename_i id off k n
    split at ok
    · rename_i s hg
      obtain ⟨h1, h3, h2, hpo⟩ := ok
      have h63 : n.toNat ≤ 9223372036854775807 := by
        have : n.toNat * 1 ≤ 140737488355328 ∧ n.toNat ≤ 9223372036854775807 := by simpa [stdA] using h3
        exact this.2
      have hn : 0 ≤ n := by simpa [stdA] using h1
      have hle : off + n.toNat ≤ s.size := by simpa [stdA] using h2
      cases hx with
      | eptr _ _ _ b o hb =>
      cases hl
      have hlive := hs.live id
      rw [hg] at hlive
      obtain ⟨b', o', cs, ety, fz, k1, k2, k3, k4, k5, k6, k7, k8⟩ := hlive
      rw [hb] at k1; cases k1
      rw [hP] at k4 k5
      obtain ⟨m, rfl⟩ : ∃ m : Nat, n = m := ⟨n.toNat, by omega⟩
      have hle : off + m ≤ s.size := by simpa using hle
      have hres : stdA.bex s off (stdA.add off (stdA.tn (m : Int))) = ⟨((s.data.toList.drop off).take m).toArray⟩ := by
        apply ByteArray.ext
        apply Array.ext'
        have : stdA.add off (stdA.tn (m : Int)) = off + m := by simp [stdA]
        rw [this, bex_list]
      have h63 : m ≤ 9223372036854775807 := by simpa using h63
      have hrun := run_ustr_some (P := P) (w := w) pt it ty e hp k ⟨b, o + off, none⟩ m h63 ⟨((s.data.toList.drop off).take m).toArray⟩ (fun hm => by subst hm; simp; rfl) (fun hm => by
          have hcellsE : P.cellsOf ety = 1 := by
            unfold szP at k5
            unfold Program.cellsOf
            cases hi : P.info? ety with
            | none => simp [hi] at k5
            | some i => simp [hi] at k5 ⊢; exact k5
          have hsh : w.shape? b = some (ety, cs.size) := by simp [World.shape?, k3]
          have hlies := liesAt_row (P := P) k4 he hcellsE (cs.size / P.cellsOf ety) (o + off) m (by rw [hcellsE]; simp; omega)
          simp [variablesAt, hsh, hlies]) (fun hm => by
          have hlen : ((s.data.toList.drop off).take m).length = m := by rw [List.length_take, List.length_drop, size_list]; omega
          have hlb := Go.Lib.run_loadBytes (P := P) w ((s.data.toList.drop off).take m) ⟨b, o + off, none⟩ .empty (fun j y hy => by
            rw [List.getElem?_take] at hy
            split at hy
            · rw [List.getElem?_drop] at hy
              have := k8 _ y hy
              rw [add_none]
              simp [World.cell?, k3, Nat.add_assoc, this]
            · cases hy)
          rw [hlen] at hlb
          simpa using hlb)
      obtain ⟨q1, q2⟩ : Keep I w (if m = 0 then w else w.freeze ⟨b, o + off, none⟩ m) ∧ ∀ b', b' ≠ b → (if m = 0 then w else w.freeze ⟨b, o + off, none⟩ m).heap[b']? = w.heap[b']? := by
        split
        · exact ⟨.refl I w, fun _ _ => rfl⟩
        · exact freeze_keep (w := w) (I := I) (a := ⟨b, o + off, none⟩) (n := m) k2
      refine .inl ⟨_, _, _, _, [], .inl (by rw [hrun]; rfl), hpo, q1, ?_, by rw [hres]; exact .lit _ _⟩
      rw [List.append_nil]
      refine (hs.kill id).keep q1 fun i b2 o2 hd hr => q2 b2 fun e => ?_
      have hi : i ≠ id := fun e' => by
        subst e'
        rw [getH_set_same h i _ (getH_lt (by rw [hg]; simp))] at hd
        exact hd rfl
      rw [getH_set_ne h id i _ hi] at hd
      subst e
      exact hi (hs.inj i id _ o2 o hd (by rw [hg]; simp) hr hb)
    · exact ok.elim
  · exact ok.elim
theorem peq_sound {op : BinOp} {t el : TypeId} {n : Nat} {x y : Operand} {a b : EV} {u v : Value} (hu : P.underlying t = some (.pointer el)) (hsz : szP P el = some n) (hn : n ≠ 0)
    (ha : Rep w I ρ a u) (hb : Rep w I ρ b v) (ok : SROK post pc (peqE stdA op el a b h)) : Looks I w ρ h post P (do eqGuard op t x y u v; binOp op t u v) := by
  unfold peqE at ok
  split at ok
  · rename_i i o j p
    split at ok
    case isFalse => exact ok.elim
    rename_i hij
    simp only [Bool.and_eq_true] at hij
    have e1 := Nat.eq_of_beq_eq_true hij.1
    have e2 := Nat.eq_of_beq_eq_true hij.2
    subst e1; subst e2
    cases ha with
    | ptr _ _ _ b1 o1 hr1 =>
    cases hb with
    | ptr _ _ _ b2 o2 hr2 =>
    rw [hr1] at hr2; cases hr2
    have heq : (Op.equal t (.pointer (some ⟨b1, o1 + o, none⟩)) (.pointer (some ⟨b1, o1 + o, none⟩))).run P w = .ok true w :=
      equal_run fun m => by simp [Op.equalIn, underlying, hu, run_szP hsz, sameAddr]
    split at ok
    · refine ⟨_, .bool true, ?_, ok, .lit _ _⟩
      have hb1 : binOp .eql t (.pointer (some ⟨b1, o1 + o, none⟩)) (.pointer (some ⟨b1, o1 + o, none⟩)) = (do Pure.pure (.bool (← Op.equal t (.pointer (some ⟨b1, o1 + o, none⟩)) (.pointer (some ⟨b1, o1 + o, none⟩))))) := rfl
      simp [eqGuard, hb1, heq]
    · refine ⟨_, .bool false, ?_, ok, .lit _ _⟩
      have hb1 : binOp .neq t (.pointer (some ⟨b1, o1 + o, none⟩)) (.pointer (some ⟨b1, o1 + o, none⟩)) = (do Pure.pure (.bool (!(← Op.equal t (.pointer (some ⟨b1, o1 + o, none⟩)) (.pointer (some ⟨b1, o1 + o, none⟩)))))) := rfl
      simp [eqGuard, hb1, heq]
    · exact ok.elim
  · refine bin_sound (P := P) (pc := pc) (td := some (.pointer el)) hu (fun ms he => by cases he) ha hb ?_
    unfold binE
    split
    · exact absurd ok (by unfold eqNil; simp [nilE, SROK])
    · exact absurd ok (by unfold eqNil; simp [nilE, SROK])
    · exact ok
theorem memI_mem {a : Nat} : ∀ {l : List Nat}, memI a l = true → a ∈ l
  | [], h => by simp [memI] at h
  | x :: l, h => by
    simp only [memI, Bool.or_eq_true] at h
    rcases h with h | h
    · have := Nat.eq_of_beq_eq_true h; subst this; simp
    · exact List.mem_cons_of_mem _ (memI_mem h)
theorem intTs_spec {t : TypeId} (h : t ∈ intTs P) : ∃ k i, P.underlying t = some (.int k) ∧ P.info? t = some i ∧ i.comparable = true := by
  simp only [intTs, List.mem_filter] at h
  have h2 := h.2
  split at h2
  · rename_i k i h3 h4; exact ⟨k, i, h3, h4, h2⟩
  · cases h2
theorem ieq_sound {op : BinOp} {t : TypeId} {ms : Array (String × TypeId)} {il : List Nat} {x y : Operand} {a b : EV} {u v : Value} (hu : P.underlying t = some (.interface ms))
    (hil : ∀ t1 ∈ il, ∃ k i, P.underlying t1 = some (.int k) ∧ P.info? t1 = some i ∧ i.comparable = true)
    (ha : Rep w I ρ a u) (hb : Rep w I ρ b v) (ok : SROK post pc (ieqE stdA op il a b h)) : Looks I w ρ h post P (do eqGuard op t x y u v; binOp op t u v) := by
  have fin : ∀ {r : Bool} {e : Bool → EV}, (∀ op : BinOp, ∀ u' v' : Value, u' = u → v' = v → (eqGuard op t x y u v = Pure.pure ()) ∧ binOp .eql t u v = (do Pure.pure (.bool (← Op.equal t u v))) ∧ binOp .neq t u v = (do Pure.pure (.bool (!(← Op.equal t u v))))) →
      (Op.equal t u v).run P w = .ok r w → (∀ b : Bool, Rep w I ρ (e b) (.bool b)) → (op = .eql ∧ post (e r) h) ∨ (op = .neq ∧ post (e (!r)) h) → Looks I w ρ h post P (do eqGuard op t x y u v; binOp op t u v) := by
    intro r e hg heq he hop
    obtain ⟨g1, g2, g3⟩ := hg op u v rfl rfl
    rcases hop with ⟨rfl, hp⟩ | ⟨rfl, hp⟩
    · exact ⟨_, .bool r, by rw [g1, g2]; simp [heq], hp, he r⟩
    · exact ⟨_, .bool (!r), by rw [g1, g3]; simp [heq], hp, he (!r)⟩
  have opF : ∀ {b : Bool}, notIf op false = some b → post (.lit (.bool b)) h → (op = .eql ∧ post (.lit (.bool false)) h) ∨ (op = .neq ∧ post (.lit (.bool (!false))) h) := by
    intro b hn hp
    cases op <;> simp [notIf] at hn <;> subst hn
    · exact .inl ⟨rfl, hp⟩
    · exact .inr ⟨rfl, hp⟩
  have l0 : ∀ b : Bool, Rep w I ρ (.lit (.bool b)) (.bool b) := fun b => .lit _ _
  unfold ieqE at ok
  split at ok
  · rename_i t1 v1 t2 v2
    cases ha with
    | iface _ _ _ u1 h1 =>
    cases hb with
    | iface _ _ _ u2 h2 =>
    have hg : ∀ op : BinOp, ∀ u' v' : Value, u' = .iface t1 u1 → v' = .iface t2 u2 → (eqGuard op t x y (.iface t1 u1) (.iface t2 u2) = Pure.pure ()) ∧
        binOp .eql t (.iface t1 u1) (.iface t2 u2) = (do Pure.pure (.bool (← Op.equal t (.iface t1 u1) (.iface t2 u2)))) ∧ binOp .neq t (.iface t1 u1) (.iface t2 u2) = (do Pure.pure (.bool (!(← Op.equal t (.iface t1 u1) (.iface t2 u2))))) :=
      fun op _ _ _ _ => ⟨by cases op <;> rfl, rfl, rfl⟩
    split at ok
    · rename_i ht
      have ht := Nat.eq_of_beq_eq_true ht
      subst ht
      split at ok
      · rename_i k m k' n
        cases h1; cases h2
        split at ok
        case isFalse => exact ok.elim
        rename_i hm
        split at ok
        case isFalse => exact ok.elim
        rename_i hk
        subst hk
        obtain ⟨kk, i, q1, q2, q3⟩ := hil _ (memI_mem hm)
        have h9 : ∀ d, (Op.equalIn (d + 1 + 1) t (.iface t1 (.int k m)) (.iface t1 (.int k n))).run P w = .ok (m == n) w := fun d => by
          simp [Op.equalIn, underlying, hu, q1, typeInfo, q2, q3]
        have heq : (Op.equal t (.iface t1 (.int k m)) (.iface t1 (.int k n))).run P w = .ok (m == n) w := h9 9998
        refine fin (e := .sb) hg heq (fun b => .sb _ _) ?_
        split at ok
        · exact .inl ⟨rfl, ok⟩
        · exact .inr ⟨rfl, ok⟩
        · exact ok.elim
      · exact ok.elim
    · rename_i ht
      have hne : t1 ≠ t2 := fun e => ht (by subst e; exact Nat.beq_refl _)
      have heq : (Op.equal t (.iface t1 u1) (.iface t2 u2)).run P w = .ok false w :=
        equal_run fun n => by simp [Op.equalIn, underlying, hu, hne]
      split at ok
      · rename_i b hb; exact fin (e := fun b => .lit (.bool b)) hg heq l0 (opF hb ok)
      · exact ok.elim
  · rename_i t1 v1
    cases hb
    cases ha with
    | iface _ _ _ u1 h1 =>
    have heq : (Op.equal t (.iface t1 u1) .nilIface).run P w = .ok false w := equal_run fun n => by simp [Op.equalIn, underlying, hu]
    split at ok
    · rename_i b hb; exact fin (e := fun b => .lit (.bool b)) (fun op _ _ _ _ => ⟨by cases op <;> rfl, rfl, rfl⟩) heq l0 (opF hb ok)
    · exact ok.elim
  · rename_i t1 v1
    cases ha
    cases hb with
    | iface _ _ _ u1 h1 =>
    have heq : (Op.equal t .nilIface (.iface t1 u1)).run P w = .ok false w := equal_run fun n => by simp [Op.equalIn, underlying, hu]
    split at ok
    · rename_i b hb; exact fin (e := fun b => .lit (.bool b)) (fun op _ _ _ _ => ⟨by cases op <;> rfl, rfl, rfl⟩) heq l0 (opF hb ok)
    · exact ok.elim
  · exact ok.elim
end
end Go.Proofs.YtpgeonghlabnhaaGreatDoor.Em
