/- Em20: own memory renumbered, and frozen: what a state says after it. No conditions beyond those written. -/
import Derived.Test.YtpgeonghlabnhaaGreatDoorEm19
set_option linter.unusedVariables false
set_option linter.unusedSimpArgs false
namespace Go.Proofs.YtpgeonghlabnhaaGreatDoor.Em
open Go
mutual
/-- A value with its own memory renumbered (g), or written out (z), or forgotten. -/
def mvE (g : Nat → Option Nat) (z : Nat → Option (List EV)) : EV → EV
  | .ptr id off => match g id with
    | some i => .ptr i off
    | none => match z id with
      | some c => .iptr c off
      | none => .top
  | .eptr id off => match g id with
    | some i => .eptr i off
    | none => match z id with
      | some c => .iptr c off
      | none => .top
  | .sl es id off len cap => match g id with
    | some i => .sl es i off len cap
    | none => match z id with
      | some c => .isl len cap (c.drop off)
      | none => .top
  | .mp id => match g id with
    | some i => .mp i
    | none => .top
  | .fn f a b => .fn f (mvL g z a) (mvL g z b)
  | .iface t e => .iface t (mvE g z e)
  | .agg c => .agg (mvL g z c)
  | .tup c => .tup (mvL g z c)
  | .lit v => .lit v
  | .sb b => .sb b
  | .iptr c off => .iptr c off
  | .isl n cap c => .isl n cap c
  | .top => .top
  | .yl id => match g id with
    | some i => .yl i
    | none => .top
  | .nb id e n => match g id with
    | some i => .nb i e n
    | none => .lit (.pointer none)
  | .nbuf => .nbuf
def mvL (g : Nat → Option Nat) (z : Nat → Option (List EV)) : List EV → List EV
  | [] => []
  | x :: l => mvE g z x :: mvL g z l
end
mutual
/-- no own memory is named -/
def clE : EV → Bool
  | .ptr _ _ | .eptr _ _ | .sl .. | .mp _ | .yl _ | .nb .. => false
  | .fn f a b => clL a && clL b
  | .iface t e => clE e
  | .agg c => clL c
  | .tup c => clL c
  | .lit _ | .sb _ | .iptr _ _ | .isl .. | .top | .nbuf => true
def clL : List EV → Bool
  | [] => true
  | x :: l => clE x && clL l
end
mutual
/-- no handed-in data is named -/
def niE : EV → Bool
  | .iptr _ _ | .isl .. => false
  | .fn f a b => niL a && niL b
  | .iface t e => niE e
  | .agg c => niL c
  | .tup c => niL c
  | .lit _ | .sb _ | .top | .ptr _ _ | .eptr _ _ | .sl .. | .mp _ | .yl _ | .nb .. | .nbuf => true
def niL : List EV → Bool
  | [] => true
  | x :: l => niE x && niL l
end
theorem mvL_length (g z) : ∀ l : List EV, (mvL g z l).length = l.length
  | [] => by simp [mvL]
  | x :: l => by simp [mvL, mvL_length g z l]
theorem mvL_get (g z) : ∀ (l : List EV) (j : Nat), (mvL g z l)[j]? = (l[j]?).map (mvE g z)
  | [], j => by simp [mvL]
  | x :: l, 0 => by simp [mvL]
  | x :: l, j + 1 => by simpa [mvL] using mvL_get g z l j
theorem clL_get : ∀ {l : List EV}, clL l = true → ∀ (j : Nat) (x : EV), l[j]? = some x → clE x = true
  | [], _, j, x, hx => by simp at hx
  | y :: l, h, 0, x, hx => by simp [clL] at h hx; subst hx; exact h.1
  | y :: l, h, j + 1, x, hx => by simp [clL] at h; exact clL_get h.2 j x (by simpa using hx)
theorem niL_get : ∀ {l : List EV}, niL l = true → ∀ (j : Nat) (x : EV), l[j]? = some x → niE x = true
  | [], _, j, x, hx => by simp at hx
  | y :: l, h, 0, x, hx => by simp [niL] at h hx; subst hx; exact h.1
  | y :: l, h, j + 1, x, hx => by simp [niL] at h; exact niL_get h.2 j x (by simpa using hx)
theorem clL_of : ∀ {l : List EV}, (∀ x ∈ l, clE x = true) → clL l = true
  | [], _ => by simp [clL]
  | x :: l, h => by simp [clL, h x (by simp), clL_of (l := l) fun y hy => h y (by simp [hy])]
theorem niL_of : ∀ {l : List EV}, (∀ x ∈ l, niE x = true) → niL l = true
  | [], _ => by simp [niL]
  | x :: l, h => by simp [niL, h x (by simp), niL_of (l := l) fun y hy => h y (by simp [hy])]
mutual
theorem mvE_cl (g z) : ∀ (e : EV), clE e = true → mvE g z e = e
  | .lit _, _ => by simp [mvE]
  | .sb _, _ => by simp [mvE]
  | .iptr _ _, _ => by simp [mvE]
  | .isl _ _ _, _ => by simp [mvE]
  | .top, _ => by simp [mvE]
  | .ptr _ _, h => by simp [clE] at h
  | .eptr _ _, h => by simp [clE] at h
  | .sl _ _ _ _ _, h => by simp [clE] at h
  | .mp _, h => by simp [clE] at h
  | .yl _, h => by simp [clE] at h
  | .nb _ _ _, h => by simp [clE] at h
  | .nbuf, _ => by simp [mvE]
  | .fn f a b, h => by simp [clE] at h; simp [mvE, mvL_cl g z a h.1, mvL_cl g z b h.2]
  | .iface t e, h => by simp [clE] at h; simp [mvE, mvE_cl g z e h]
  | .agg c, h => by simp [clE] at h; simp [mvE, mvL_cl g z c h]
  | .tup c, h => by simp [clE] at h; simp [mvE, mvL_cl g z c h]
theorem mvL_cl (g z) : ∀ (l : List EV), clL l = true → mvL g z l = l
  | [], _ => by simp [mvL]
  | x :: l, h => by simp [clL] at h; simp [mvL, mvE_cl g z x h.1, mvL_cl g z l h.2]
end
theorem clE_rep {w : World} {I : Imm} {ρ : Ren} {e : EV} {v : Value} (h : Rep w I ρ e v) : clE e = true → Rep w I [] e v := by
  induction h with
  | lit ρ v => intro _; exact .lit _ _
  | sb ρ b => intro _; exact .sb _ _
  | ptr => intro h; simp [clE] at h
  | eptr => intro h; simp [clE] at h
  | sl => intro h; simp [clE] at h
  | mp => intro h; simp [clE] at h
  | iptr ρ c off b o vs hb hc hr ih => intro _; exact .iptr _ c off b o vs hb hc hr
  | isl ρ n cap c a m vs hc hs hf hr ih => intro _; exact .isl _ n cap c a m vs hc hs hf hr
  | isln ρ c => intro _; exact .isln _ c
  | fn ρ f x y xs ys h1 h2 _ _ i1 i2 => intro h; simp [clE] at h; exact .fn _ f x y xs ys h1 h2 (fun j e v a b => i1 j e v a b (clL_get h.1 j e a)) (fun j e v a b => i2 j e v a b (clL_get h.2 j e a))
  | iface ρ t e v _ ih => intro h; exact .iface _ t e v (ih (by simpa [clE] using h))
  | agg ρ c vs h _ ih => intro hh; simp [clE] at hh; exact .agg _ c vs h (fun j e v a b => ih j e v a b (clL_get hh j e a))
  | tup ρ c vs h _ ih => intro hh; simp [clE] at hh; exact .tup _ c vs h (fun j e v a b => ih j e v a b (clL_get hh j e a))
  | top ρ v => intro _; exact .top _ _
  | yl => intro h; simp [clE] at h
  | nb => intro h; simp [clE] at h
  | nbuf => intro _; exact .nbuf _
theorem niE_rep {w : World} {I : Imm} (J : Imm) {ρ : Ren} {e : EV} {v : Value} (h : Rep w I ρ e v) : niE e = true → Rep w J ρ e v := by
  induction h with
  | lit ρ v => intro _; exact .lit _ _
  | sb ρ b => intro _; exact .sb _ _
  | ptr ρ id off b o h => intro _; exact .ptr _ id off b o h
  | eptr ρ id off b o h => intro _; exact .eptr _ id off b o h
  | sl ρ es id off len cap a n b o h hc hs hf => intro _; exact .sl _ es id off len cap a n b o h hc hs hf
  | mp ρ id b o h => intro _; exact .mp _ id b o h
  | iptr => intro h; simp [niE] at h
  | isl => intro h; simp [niE] at h
  | isln => intro h; simp [niE] at h
  | fn ρ f x y xs ys h1 h2 _ _ i1 i2 => intro h; simp [niE] at h; exact .fn _ f x y xs ys h1 h2 (fun j e v a b => i1 j e v a b (niL_get h.1 j e a)) (fun j e v a b => i2 j e v a b (niL_get h.2 j e a))
  | iface ρ t e v _ ih => intro h; exact .iface _ t e v (ih (by simpa [niE] using h))
  | agg ρ c vs h _ ih => intro hh; simp [niE] at hh; exact .agg _ c vs h (fun j e v a b => ih j e v a b (niL_get hh j e a))
  | tup ρ c vs h _ ih => intro hh; simp [niE] at hh; exact .tup _ c vs h (fun j e v a b => ih j e v a b (niL_get hh j e a))
  | top ρ v => intro _; exact .top _ _
  | yl ρ id b h => intro _; exact .yl _ id b h
  | nb ρ id e n b h hf => intro _; exact .nb _ id e n b h hf
  | nbuf ρ => intro _; exact .nbuf _
/-- What a frozen block holds. -/
def Frz (w : World) (J : Imm) (b o : Nat) (c : List EV) : Prop :=
  J.j b ∧ ∀ (j : Nat) (x : EV), c[j]? = some x → ∃ v, w.cell? ⟨b, o + j, none⟩ = some v ∧ v.oneCell' = true ∧ Rep w J [] x v
theorem Frz.vals {w : World} {J : Imm} {b o : Nat} {c : List EV} (h : Frz w J b o c) (off : Nat) : ∃ vs : Nat → Value,
    (∀ (j : Nat) (x : EV), c[off + j]? = some x → w.cell? ⟨b, o + off + j, none⟩ = some (vs j) ∧ (vs j).oneCell' = true) ∧ ∀ (j : Nat) (x : EV), c[off + j]? = some x → Rep w J [] x (vs j) := by
  refine ⟨fun j => (w.cell? ⟨b, o + off + j, none⟩).getD undef, fun j x hx => ?_, fun j x hx => ?_⟩
  · obtain ⟨v, h1, h2, _⟩ := h.2 _ x hx
    have e : w.cell? ⟨b, o + off + j, none⟩ = some v := by rw [Nat.add_assoc]; exact h1
    simp only [e, Option.getD_some]; exact ⟨trivial, h2⟩
  · obtain ⟨v, h1, _, h3⟩ := h.2 _ x hx
    have e : w.cell? ⟨b, o + off + j, none⟩ = some v := by rw [Nat.add_assoc]; exact h1
    simp only [e, Option.getD_some]; exact h3
/-- A renumbered value stands for the same. -/
theorem mv_rep {w : World} {I J : Imm} {ρ ρ' : Ren} {g : Nat → Option Nat} {z : Nat → Option (List EV)} (hI : ∀ b, I.j b → J.j b)
    (hg : ∀ (id i : Nat) (x : Nat × Nat), g id = some i → ρ[id]? = some x → ρ'[i]? = some x)
    (hz : ∀ (id : Nat) (c : List EV) (b o : Nat), g id = none → z id = some c → ρ[id]? = some (b, o) → Frz w J b o c) {e : EV} {v : Value} (h : Rep w I ρ e v) : Rep w J ρ' (mvE g z e) v := by
  induction h with
  | lit ρ v => simp only [mvE]; exact .lit _ _
  | sb ρ b => simp only [mvE]; exact .sb _ _
  | ptr ρ id off b o h =>
    simp only [mvE]
    split
    · rename_i i hi; exact .ptr _ i off b o (hg _ _ _ hi h)
    · rename_i hi
      split
      · rename_i c hc
        have hf := hz _ _ _ _ hi hc h
        obtain ⟨vs, k1, k2⟩ := hf.vals 0
        exact .iptr _ c off b o vs hf.1 (by simpa using k1) (by simpa using k2)
      · exact .top _ _
  | eptr ρ id off b o h =>
    simp only [mvE]
    split
    · rename_i i hi; exact .eptr _ i off b o (hg _ _ _ hi h)
    · rename_i hi
      split
      · rename_i c hc
        have hf := hz _ _ _ _ hi hc h
        obtain ⟨vs, k1, k2⟩ := hf.vals 0
        exact .iptr _ c off b o vs hf.1 (by simpa using k1) (by simpa using k2)
      · exact .top _ _
  | sl ρ es id off len cap a k b o h hc hs hf =>
    simp only [mvE]
    split
    · rename_i i hi; exact .sl _ es i off len cap a k b o (hg _ _ _ hi h) hc hs hf
    · rename_i hi
      split
      · rename_i c hcz
        have hfz := hz _ _ _ _ hi hcz h
        obtain ⟨vs, k1, k2⟩ := hfz.vals off
        refine .isl _ len cap _ a k vs hc (fun _ => hs) (fun hk => ?_) (fun hk j x hx => ?_)
        · obtain ⟨rfl, _⟩ := hf hk
          exact ⟨hfz.1, fun j x hx => k1 j x (by simpa using hx)⟩
        · exact k2 j x (by simpa using hx)
      · exact .top _ _
  | mp ρ id b o h =>
    simp only [mvE]
    split
    · rename_i i hi; exact .mp _ i b o (hg _ _ _ hi h)
    · exact .top _ _
  | iptr ρ c off b o vs hb hc hr ih =>
    simp only [mvE]; exact .iptr _ c off b o vs (hI _ hb) hc fun j x hx => (hr j x hx).imm hI
  | isl ρ n cap c a m vs hc hs hf hr ih =>
    simp only [mvE]; exact .isl _ n cap c a m vs hc hs (fun hn => ⟨hI _ (hf hn).1, (hf hn).2⟩) fun hn j x hx => (hr hn j x hx).imm hI
  | isln ρ c => simp only [mvE]; exact .isln _ c
  | fn ρ f x y xs ys h1 h2 _ _ i1 i2 =>
    simp only [mvE]
    refine .fn _ f _ _ xs ys (by rw [mvL_length, h1]) (by rw [mvL_length, h2]) (fun j e v a b => ?_) (fun j e v a b => ?_)
    · rw [mvL_get] at a
      obtain ⟨e0, he, rfl⟩ := Option.map_eq_some_iff.1 a
      exact i1 j e0 v he b hg hz
    · rw [mvL_get] at a
      obtain ⟨e0, he, rfl⟩ := Option.map_eq_some_iff.1 a
      exact i2 j e0 v he b hg hz
  | iface ρ t e v _ ih => simp only [mvE]; exact .iface _ t _ v (ih hg hz)
  | agg ρ c vs h _ ih =>
    simp only [mvE]
    refine .agg _ _ vs (by rw [mvL_length, h]) fun j e v a b => ?_
    rw [mvL_get] at a
    obtain ⟨e0, he, rfl⟩ := Option.map_eq_some_iff.1 a
    exact ih j e0 v he b hg hz
  | tup ρ c vs h _ ih =>
    simp only [mvE]
    refine .tup _ _ vs (by rw [mvL_length, h]) fun j e v a b => ?_
    rw [mvL_get] at a
    obtain ⟨e0, he, rfl⟩ := Option.map_eq_some_iff.1 a
    exact ih j e0 v he b hg hz
  | top ρ v => simp only [mvE]; exact .top _ _
  | yl ρ id b h =>
    simp only [mvE]
    split
    · rename_i i hi; exact .yl _ i b (hg _ _ _ hi h)
    · exact .top _ _
  | nb ρ id e n b h hf =>
    simp only [mvE]
    split
    · rename_i i hi; exact .nb _ i e n b (hg _ _ _ hi h) hf
    · exact .lit _ _
  | nbuf ρ => simp only [mvE]; exact .nbuf _
def ixL : List Nat → Nat → Nat → Option Nat
  | [], _, _ => none
  | x :: l, id, k => if Nat.beq x id then some k else ixL l id (k + 1)
def inL : List Nat → Nat → Bool
  | [], _ => false
  | x :: l, id => if Nat.beq x id then true else inL l id
/-- σ: the old numbers, in the new order; fr: those that are frozen. -/
def mvG (σ fr : List Nat) (id : Nat) : Option Nat := if inL fr id then none else ixL σ id 0
def mvZ (fr : List Nat) (h : EH) (id : Nat) : Option (List EV) :=
  if inL fr id then match getH h id with
    | .blk c => some c
    | _ => none
  else none
def mvM (g : Nat → Option Nat) (z : Nat → Option (List EV)) : List (EV × EV) → List (EV × EV)
  | [] => []
  | (k, v) :: l => (mvE g z k, mvE g z v) :: mvM g z l
def mvO (g : Nat → Option Nat) (z : Nat → Option (List EV)) : EO → EO
  | .dead => .dead
  | .blk c => .blk (mvL g z c)
  | .emap es => .emap (mvM g z es)
  | .lp t ps asg body st pd => .lp (mvL g z t) ps asg body st pd
  | .row s => .row s
  | .itr s p => .itr s p
def mvH (σ fr : List Nat) (h : EH) : List Nat → EH
  | [] => []
  | id :: l => (if inL fr id then .dead else mvO (mvG σ fr) (mvZ fr h) (getH h id)) :: mvH σ fr h l
theorem mvM_length (g z) : ∀ l, (mvM g z l).length = l.length
  | [] => rfl
  | (k, v) :: l => by simp [mvM, mvM_length g z l]
theorem mvM_get (g z) : ∀ (l : List (EV × EV)) (j : Nat), (mvM g z l)[j]? = (l[j]?).map fun p => (mvE g z p.1, mvE g z p.2)
  | [], j => by simp [mvM]
  | (k, v) :: l, 0 => by simp [mvM]
  | (k, v) :: l, j + 1 => by simpa [mvM] using mvM_get g z l j
theorem mvH_size (σ fr h) : ∀ l, sizeH (mvH σ fr h l) = l.length
  | [] => rfl
  | id :: l => by simp [mvH, sizeH, mvH_size σ fr h l]
theorem mvH_get (σ fr h) : ∀ (l : List Nat) (i : Nat), getH (mvH σ fr h l) i = match l[i]? with
    | some id => if inL fr id then .dead else mvO (mvG σ fr) (mvZ fr h) (getH h id)
    | none => .dead
  | [], i => by simp [mvH, getH]
  | id :: l, 0 => by simp [mvH, getH]
  | id :: l, i + 1 => by simpa [mvH, getH] using mvH_get σ fr h l i
theorem inL_iff {l : List Nat} {id : Nat} : inL l id = true ↔ id ∈ l := by
  induction l with
  | nil => simp [inL]
  | cons x l ih =>
    simp only [inL]
    split
    · rename_i hb; simp [Nat.eq_of_beq_eq_true hb]
    · rename_i hb
      rw [ih]
      have : x ≠ id := fun e => hb (by subst e; exact Nat.beq_refl x)
      simp [Ne.symm this]
theorem ixL_spec : ∀ {l : List Nat} {id k i : Nat}, ixL l id k = some i → k ≤ i ∧ l[i - k]? = some id
  | [], _, _, _, h => by simp [ixL] at h
  | x :: l, id, k, i, h => by
    simp only [ixL] at h
    split at h
    · rename_i hb; cases h; simp [Nat.eq_of_beq_eq_true hb]
    · obtain ⟨h1, h2⟩ := ixL_spec h
      refine ⟨by omega, ?_⟩
      rw [show i - k = (i - (k + 1)) + 1 by omega]
      simpa using h2
/-- May memory be renumbered so? -/
def okMv (σ fr : List Nat) (h : EH) : Prop := σ.Nodup ∧ (∀ id ∈ σ, id < sizeH h) ∧ ∀ id ∈ fr, ∃ c, getH h id = .blk c ∧ clL c = true
def renOf (ρ : Ren) (σ : List Nat) : Ren := σ.map fun id => ρ.getD id (0, 0)
theorem renOf_get {ρ : Ren} {σ : List Nat} (hs : ∀ id ∈ σ, id < ρ.length) {i id : Nat} (hi : σ[i]? = some id) : (renOf ρ σ)[i]? = ρ[id]? := by
  have := hs id (List.mem_of_getElem? hi)
  simp [renOf, hi, List.getD_eq_getElem?_getD, List.getElem?_eq_getElem this]
theorem renOf_inv {ρ : Ren} {σ : List Nat} (hs : ∀ id ∈ σ, id < ρ.length) {i : Nat} {x : Nat × Nat} (hx : (renOf ρ σ)[i]? = some x) : ∃ id, σ[i]? = some id ∧ ρ[id]? = some x := by
  cases hi : σ[i]? with
  | none =>
    simp [renOf, hi] at hx
  | some id => exact ⟨id, rfl, by rw [← renOf_get hs hi]; exact hx⟩
theorem mvL_repW {w : World} {J I : Imm} {ρ ρ' : Ren} {g z} (h : ∀ e v, Rep w I ρ e v → Rep w J ρ' (mvE g z e) v) : ∀ {t : List EV} {us : List Value}, RepL w I ρ t us → RepL w J ρ' (mvL g z t) us
  | [], [], _ => by simp [mvL, RepL]
  | _ :: _, _ :: _, hr => by simp only [mvL]; exact ⟨h _ _ hr.1, mvL_repW h hr.2⟩
/-- **Own memory renumbered and frozen.** -/
theorem mv_sim {I : Imm} {w : World} {ρ : Ren} {h : EH} {σ fr : List Nat} (hs : HSim I w ρ h) (hI : ∀ b, I b → b < w.heap.size) (ok : okMv σ fr h) :
    ∃ J : Imm, Imm.le I J ∧ (∀ b, J b → b < w.heap.size) ∧ (∀ b, J b → I b ∨ ∃ id ∈ fr, ∃ o, ρ[id]? = some (b, o) ∧ getH h id ≠ .dead) ∧ HSim J w (renOf ρ σ) (mvH σ fr h σ) ∧
      ∀ e v, Rep w I ρ e v → Rep w J (renOf ρ σ) (mvE (mvG σ fr) (mvZ fr h) e) v := by
  obtain ⟨ok1, ok2, ok3⟩ := ok
  let F : Nat → Prop := fun b => ∃ id ∈ fr, ∃ o, ρ[id]? = some (b, o) ∧ getH h id ≠ .dead
  let J : Imm := ⟨fun b => I b ∨ F b, fun b => I.j b ∨ F b, fun b hb => hb.imp (I.sub b) id, I.P, I.D, I.T⟩
  have hle : Imm.le I J := ⟨fun b hb => .inl hb, fun b hb => .inl hb, fun b hb => by
    rcases hb with hb | ⟨id, hid, o, hr, hd⟩
    · exact .inl hb
    · obtain ⟨b', o', h1, h2, _⟩ := OS.lt (hs.live id) hd
      rw [hr] at h1; cases h1
      exact .inr h2, rfl⟩
  have hsl : ∀ id ∈ σ, id < ρ.length := fun id hid => by rw [hs.len]; exact ok2 id hid
  have hFr : ∀ id c b o, mvZ fr h id = some c → ρ[id]? = some (b, o) → Frz w J b o c := by
    intro id c b o hz hr
    unfold mvZ at hz
    split at hz
    · rename_i hin
      have hin' := inL_iff.1 hin
      split at hz
      · rename_i c' hc
        cases hz
        obtain ⟨c2, hc2, hcl⟩ := ok3 id hin'
        rw [hc] at hc2; cases hc2
        have hos := hs.live id
        rw [hc] at hos
        obtain ⟨b', o', cs, e, fz, k1, k2, k3, k4, k5, k6⟩ := hos
        rw [hr] at k1; cases k1
        refine ⟨.inr ⟨id, hin', o, hr, by rw [hc]; simp⟩, fun j x hx => ?_⟩
        obtain ⟨v, q1, q2, q3⟩ := k6 j x hx
        refine ⟨v, ?_, q2, (clE_rep q3 (clL_get hcl j x hx)).imm fun b hb => (Or.inl hb : I.j b ∨ F b)⟩
        simp [World.cell?, k3, q1]
      · cases hz
    · cases hz
  have hrep : ∀ e v, Rep w I ρ e v → Rep w J (renOf ρ σ) (mvE (mvG σ fr) (mvZ fr h) e) v := by
    intro e v hr
    refine mv_rep (fun b hb => (Or.inl hb : I.j b ∨ F b)) (fun id i x hg hx => ?_) (fun id c b o _ hz hr => hFr id c b o hz hr) hr
    unfold mvG at hg
    split at hg
    · cases hg
    · have := (ixL_spec hg).2
      simp at this
      rw [renOf_get hsl this]; exact hx
  have live' : ∀ i, getH (mvH σ fr h σ) i ≠ .dead → ∃ id, σ[i]? = some id ∧ ¬ id ∈ fr ∧ getH h id ≠ .dead ∧ getH (mvH σ fr h σ) i = mvO (mvG σ fr) (mvZ fr h) (getH h id) := by
    intro i hi
    rw [mvH_get] at hi ⊢
    cases hx : σ[i]? with
    | none => rw [hx] at hi; simp at hi
    | some id =>
      rw [hx] at hi
      simp only at hi ⊢
      by_cases hin : inL fr id = true
      · rw [if_pos hin] at hi; exact absurd rfl hi
      · rw [if_neg hin] at hi ⊢
        exact ⟨id, rfl, fun hm => hin (inL_iff.2 hm), fun hd => by rw [hd] at hi; exact hi rfl, rfl⟩
  have notJ : ∀ id b o, ¬ id ∈ fr → getH h id ≠ .dead → ρ[id]? = some (b, o) → ¬ I b → ¬ J b := by
    intro id b o hnf hd hr hni hj
    rcases hj with hj | ⟨id', hid', o', hr', hd'⟩
    · exact hni hj
    · have := hs.inj id id' b o o' hd hd' hr hr'
      subst this; exact hnf hid'
  refine ⟨J, hle, ?_, fun b hb => hb, ⟨by simp [renOf, mvH_size], fun i => ?_, fun i j b o o' hi hj h1 h2 => ?_⟩, hrep⟩
  · intro b hb
    rcases hb with hb | ⟨id, hid, o, hr, hd⟩
    · exact hI b hb
    · obtain ⟨b', o', h1, _, h3⟩ := OS.lt (hs.live id) hd
      rw [hr] at h1; cases h1
      exact h3
  · by_cases hd : getH (mvH σ fr h σ) i = .dead
    · rw [hd]; trivial
    · obtain ⟨id, h1, h2, h3, h4⟩ := live' i hd
      rw [h4]
      have hos := hs.live id
      cases hk : getH h id with
      | dead => exact absurd hk h3
      | blk c =>
        rw [hk] at hos
        obtain ⟨b, o, cs, e, fz, k1, k2, k3, k4, k5, k6⟩ := hos
        refine ⟨b, o, cs, e, fz, by rw [renOf_get hsl h1]; exact k1, notJ id b o h2 h3 k1 k2, k3, k4, by rw [mvL_length]; exact k5, fun j x hx => ?_⟩
        rw [mvL_get] at hx
        obtain ⟨x0, hx0, rfl⟩ := Option.map_eq_some_iff.1 hx
        obtain ⟨v, q1, q2, q3⟩ := k6 j x0 hx0
        exact ⟨v, q1, q2, hrep _ _ q3⟩
      | emap es =>
        rw [hk] at hos
        obtain ⟨b, o, ents, cl, k1, k2, k3, k4, k5⟩ := hos
        refine ⟨b, o, ents, cl, by rw [renOf_get hsl h1]; exact k1, notJ id b o h2 h3 k1 k2, k3, by rw [mvM_length]; exact k4, fun j x hx => ?_⟩
        rw [mvM_get] at hx
        obtain ⟨x0, hx0, rfl⟩ := Option.map_eq_some_iff.1 hx
        obtain ⟨v, q1, q2, q3⟩ := k5 j x0 hx0
        exact ⟨v, q1, hrep _ _ q2, hrep _ _ q3⟩
      | lp t ps asg body st pd =>
        rw [hk] at hos
        obtain ⟨b, r, k1, k2, k3, k4, k5, k6, k7, k8⟩ := hos
        exact ⟨b, r, by rw [renOf_get hsl h1]; exact k1, notJ id b 0 h2 h3 k1 k2, k3, mvL_repW hrep k4, k5, k6, k7, k8⟩
      | row s =>
        rw [hk] at hos
        obtain ⟨b, o, cs, e, fz, k1, k2, k3⟩ := hos
        exact ⟨b, o, cs, e, fz, by rw [renOf_get hsl h1]; exact k1, notJ id b o h2 h3 k1 k2, k3⟩
      | itr s p =>
        rw [hk] at hos
        obtain ⟨b, k1, k2, k3⟩ := hos
        exact ⟨b, by rw [renOf_get hsl h1]; exact k1, notJ id b 0 h2 h3 k1 k2, k3⟩
  · obtain ⟨id, a1, _, a3, _⟩ := live' i hi
    obtain ⟨jd, b1, _, b3, _⟩ := live' j hj
    rw [renOf_get hsl a1] at h1
    rw [renOf_get hsl b1] at h2
    have := hs.inj id jd b o o' a3 b3 h1 h2
    subst this
    exact (List.getElem?_inj (by
      have := List.getElem?_eq_some_iff.1 a1
      exact this.1) ok1).1 (a1.trans b1.symm)
/-- temporaries that are of no more use -/
def maskT : List Bool → List EV → List EV
  | [], l => l
  | _, [] => []
  | true :: m, x :: l => x :: maskT m l
  | false :: m, _ :: l => .top :: maskT m l
theorem maskT_rep {w : World} {I : Imm} {ρ : Ren} : ∀ {m : List Bool} {t : List EV} {us : List Value}, RepL w I ρ t us → RepL w I ρ (maskT m t) us
  | [], _, _, h => by simpa [maskT] using h
  | _ :: _, [], [], _ => by simp [maskT, RepL]
  | true :: m, _ :: _, _ :: _, h => ⟨h.1, maskT_rep h.2⟩
  | false :: m, _ :: _, _ :: _, h => ⟨.top _ _, maskT_rep h.2⟩
def mvSt (σ fr : List Nat) (s : St) : St := ⟨mvL (mvG σ fr) (mvZ fr s.h) s.t, mvH σ fr s.h σ⟩
section
variable {P : Program} {G : List (List EV)} {ro : Option Nat} {I0 : Imm} {ρ0 : Ren} {w0 : World} {Q : Exit → Act → World → Prop}
theorem mvL_rep {w : World} {J I : Imm} {ρ ρ' : Ren} {g z} (h : ∀ e v, Rep w I ρ e v → Rep w J ρ' (mvE g z e) v) : ∀ {t : List EV} {us : List Value}, RepL w I ρ t us → RepL w J ρ' (mvL g z t) us
  | [], [], _ => by simp [mvL, RepL]
  | _ :: _, _ :: _, hr => by simp only [mvL]; exact ⟨h _ _ hr.1, mvL_rep h hr.2⟩
theorem SimX.mask {t : List EV} {h : EH} {a : Act} {w : World} (m : List Bool) (hs : SimX P G I0 ρ0 w0 ⟨t, h⟩ a w) : SimX P G I0 ρ0 w0 ⟨maskT m t, h⟩ a w := by
  obtain ⟨I, ρ1, h1, h2, h3, h4, h5, h6, h7⟩ := hs
  exact ⟨I, ρ1, h1, h2, h3, maskT_rep h4, h5, h6, h7⟩
theorem SimX.mv {s : St} {a : Act} {w : World} {σ fr : List Nat} (hs : SimX P G I0 ρ0 w0 s a w) (hσ : σ.take ρ0.length = List.range ρ0.length) (ok : okMv σ fr s.h) :
    SimX P G I0 ρ0 w0 (mvSt σ fr s) a w := by
  obtain ⟨I, ρ1, h1, h2, h3, h4, h5, h6, h7⟩ := hs
  obtain ⟨J, j1, j2, j3, j4, j5⟩ := mv_sim h3 h2 ok
  have hlen : ρ0.length ≤ σ.length := by
    have := congrArg List.length hσ
    simp at this; omega
  have hren : renOf (ρ0 ++ ρ1) σ = ρ0 ++ renOf (ρ0 ++ ρ1) (σ.drop ρ0.length) := by
    have : σ = List.range ρ0.length ++ σ.drop ρ0.length := by rw [← hσ]; exact (List.take_append_drop _ _).symm
    conv => lhs; rw [this]
    simp only [renOf, List.map_append]
    congr 1
    apply List.ext_getElem?
    intro i
    by_cases hi : i < ρ0.length
    · simp [hi, List.getElem?_append_left hi]
    · simp [hi]
  refine ⟨J, renOf (ρ0 ++ ρ1) (σ.drop ρ0.length), h1.trans j1, j2, by rw [← hren]; exact j4, by rw [← hren]; exact mvL_rep j5 h4, h5.keep (Keep.refl _ w) j1, h6, h7.keep (Keep.refl _ w) j1⟩
theorem OKs.mask {k : List KI} {s : St} (m : List Bool) (h : OKs P G ro I0 ρ0 w0 Q k ⟨maskT m s.t, s.h⟩) : OKs P G ro I0 ρ0 w0 Q k s :=
  fun Φ hk a w hs => h Φ hk a w (hs.mask m)
theorem OKs.mv {k : List KI} {s : St} (σ fr : List Nat) (hσ : σ.take ρ0.length = List.range ρ0.length) (ok : okMv σ fr s.h) (h : OKs P G ro I0 ρ0 w0 Q k (mvSt σ fr s)) : OKs P G ro I0 ρ0 w0 Q k s :=
  fun Φ hk a w hs => h Φ hk a w (hs.mv hσ ok)
/-- A loop: what holds at each round's head. -/
theorem OKs.loop {c : EC} {k : List KI} (Inv : St → Prop) (μ : St → Nat)
    (step : ∀ s, Inv s → (∀ s', Inv s' → μ s' < μ s → OKs P G ro I0 ρ0 w0 Q (.lp c :: k) s') → OKs P G ro I0 ρ0 w0 Q (.c c :: .lp c :: k) s) {s : St} (h0 : Inv s) :
    OKs P G ro I0 ρ0 w0 Q (.c (.loop c) :: k) s := by
  have key : ∀ n s, μ s = n → Inv s → OKs P G ro I0 ρ0 w0 Q (.lp c :: k) s := by
    intro n
    induction n using Nat.strongRecOn with
    | _ n ih =>
      intro s hn hs
      have hst := step s hs fun s' hs' hlt => ih (μ s') (by omega) s' rfl hs'
      intro Φ hΦ a w hsim
      cases hΦ with
      | lp hc hnd hk =>
        rename_i c' Φ
        rw [then_normal]
        exact loopWp_of (hst _ (KW.c hc hnd (KW.lp hc hnd hk)) a w hsim)
  intro Φ hΦ a w hsim
  cases hΦ with
  | c hc hnd hk =>
    rename_i cc Φ
    rcases compC_inv hc with ⟨h, _⟩ | ⟨id, ops, draw, l, _, h⟩ | ⟨a1, b1, x, y, _, h, _⟩ | ⟨o, a1, b1, x, y, _, h, _⟩ | ⟨id, a1, x, _, h, _⟩ | ⟨a1, x, rfl, h, hx⟩ | ⟨id, _, h⟩ | ⟨_, h⟩ | ⟨_, _, _, _, _, _, _, h, _⟩ | ⟨_, h, _⟩
    all_goals (try (cases h; done))
    cases h
    rw [then_normal]
    exact wp_of_loopWp (key (μ s) s rfl h0 _ (KW.lp hx (fun h => by simpa [noDraw] using hnd h) hk) a w hsim)
end
end Go.Proofs.YtpgeonghlabnhaaGreatDoor.Em
