/- Pr14: what was packed comes out again: the plain law. No conditions beyond those written. -/
import Derived.Test.YtplibngmgebigaaPr13
set_option linter.unusedVariables false
set_option linter.unusedSimpArgs false
namespace Go.Proofs.Ytplibngmgebigaa.Press
open Go Go.Proofs.Ytplibngmgebigaa Go.Proofs.Ytplibngmgebigaa.Em

/-- Steps enough are enough. -/
theorem lyL_fuel (two : Bool) (most more : Int) : ∀ (n m : Nat) (b out : List Nat), b.length ≤ n → b.length ≤ m → lyL two most more n b out = lyL two most more m b out
  | 0, m, b, out, h, _ => by
    have : b = [] := List.length_eq_zero_iff.1 (by omega)
    subst this; cases m <;> rfl
  | n + 1, 0, b, out, _, h => by
    have : b = [] := List.length_eq_zero_iff.1 (by omega)
    subst this; rfl
  | n + 1, m + 1, [], out, _, _ => rfl
  | n + 1, m + 1, c :: b, out, h1, h2 => by
    simp only [List.length_cons] at h1 h2
    have ih := fun b' out' (h : b'.length ≤ b.length) => lyL_fuel two most more n m b' out' (by omega) (by omega)
    simp only [lyL]
    rw [ih (b.drop (c + 1)) _ (by simp), ih (b.drop 2) _ (by simp), ih (b.drop 1) _ (by simp)]

def ly (two : Bool) (most more : Int) (b out : List Nat) : List Nat × Int := lyL two most more b.length b out

theorem ly_nil (two : Bool) (most more : Int) (out : List Nat) : ly two most more [] out = (out, 0) := rfl

theorem ly_cons (two : Bool) (most more : Int) (c : Nat) (b out : List Nat) : ly two most more (c :: b) out =
    if c < 128 then
      if b.length < c + 1 then ([], 60) else if most < (out.length : Int) + (c + 1) then ([], more) else ly two most more (b.drop (c + 1)) (out ++ b.take (c + 1))
    else if two = true then
      if b.length < 2 then ([], 60)
      else if (out.length : Int) < b.getD 0 0 + 256 * b.getD 1 0 + 1 then ([], 63)
      else if most < (out.length : Int) + ((c : Int) - 124) then ([], more)
      else ly two most more (b.drop 2) (cpB (c - 124) out (out.length - (b.getD 0 0 + 256 * b.getD 1 0 + 1)))
    else if b.length < 1 then ([], 60)
    else if most < (out.length : Int) + ((c : Int) - 125) then ([], more)
    else ly two most more (b.drop 1) (out ++ List.replicate (c - 125) (b.getD 0 0)) := by
  unfold ly
  rw [List.length_cons, lyL]
  rw [lyL_fuel two most more b.length (b.drop (c + 1)).length (b.drop (c + 1)) _ (by simp) (Nat.le_refl _), lyL_fuel two most more b.length (b.drop 2).length (b.drop 2) _ (by simp) (Nat.le_refl _),
    lyL_fuel two most more b.length (b.drop 1).length (b.drop 1) _ (by simp) (Nat.le_refl _)]

/-- Packed bytes that stand for these. -/
def Dec (two : Bool) (most more : Int) (E o : List Nat) : Prop := ∀ rest, ly two most more (E ++ rest) [] = ly two most more rest o

theorem Dec.nil (two : Bool) (most more : Int) : Dec two most more [] [] := fun _ => rfl

theorem Dec.lit {two : Bool} {most more : Int} {E o x : List Nat} (h : Dec two most more E o) (h1 : 1 ≤ x.length) (h2 : x.length ≤ 128) (h3 : (o.length : Int) + x.length ≤ most) :
    Dec two most more (E ++ (x.length - 1) :: x) (o ++ x) := fun rest => by
  rw [List.append_assoc, h, List.cons_append, ly_cons, if_pos (by omega), if_neg (by rw [List.length_append]; omega), if_neg (by omega)]
  rw [show x.length - 1 + 1 = x.length by omega, List.drop_left, List.take_left]

theorem Dec.run {most more : Int} {E o : List Nat} (h : Dec false most more E o) {n x : Nat} (h1 : 3 ≤ n) (h2 : n ≤ 130) (h3 : (o.length : Int) + n ≤ most) :
    Dec false most more (E ++ [n + 125, x]) (o ++ List.replicate n x) := fun rest => by
  rw [List.append_assoc, h]
  show ly false most more ((n + 125) :: x :: rest) o = _
  rw [ly_cons, if_neg (by omega), if_neg (by simp), if_neg (by simp), if_neg (by omega)]
  rw [show n + 125 - 125 = n by omega]; rfl

theorem Dec.ref {most more : Int} {E o : List Nat} (h : Dec true most more E o) {n far : Nat} (h1 : 4 ≤ n) (h2 : n ≤ 131) (h3 : (o.length : Int) + n ≤ most) (h4 : far + 1 ≤ o.length) (h5 : far < 65536) :
    Dec true most more (E ++ [n + 124, far % 256, far / 256 % 256]) (cpB n o (o.length - (far + 1))) := fun rest => by
  rw [List.append_assoc, h]
  show ly true most more ((n + 124) :: (far % 256) :: (far / 256 % 256) :: rest) o = _
  have e : far % 256 + 256 * (far / 256 % 256) = far := by omega
  rw [ly_cons, if_neg (by omega), if_pos rfl, if_neg (by simp)]
  have g0 : (far % 256 :: far / 256 % 256 :: rest).getD 0 0 = far % 256 := rfl
  have g1 : (far % 256 :: far / 256 % 256 :: rest).getD 1 0 = far / 256 % 256 := rfl
  rw [g0, g1, if_neg (by omega), if_neg (by omega), e]
  rw [show n + 124 - 124 = n by omega]; rfl

theorem Dec.lay {two : Bool} {most more : Int} {b : List Nat} : ∀ (f fr to : Nat) (E : List Nat), Dec two most more E (b.take fr) → to - fr ≤ f → fr ≤ to → to ≤ b.length → (b.length : Int) ≤ most →
    Dec two most more (layF b f fr to E) (b.take to)
  | 0, fr, to, E, h, hf, h1, h2, h3 => by
    have : fr = to := by omega
    subst this; exact h
  | f + 1, fr, to, E, h, hf, h1, h2, h3 => by
    simp only [layF]
    split
    · rename_i hlt
      obtain ⟨k, hk⟩ : ∃ k, k = min (to - fr) 128 := ⟨_, rfl⟩
      rw [← hk]
      have hx : ((b.drop fr).take k).length = k := by rw [List.length_take, List.length_drop]; omega
      have h4 := h.lit (x := (b.drop fr).take k) (by omega) (by omega) (by rw [hx, List.length_take]; omega)
      rw [hx] at h4
      have h5 : b.take fr ++ (b.drop fr).take k = b.take (fr + k) := List.take_add.symm
      rw [h5] at h4
      exact Dec.lay f (fr + k) to _ h4 (by omega) (by omega) h2 h3
    · have : fr = to := by omega
      subst this; exact h

/-- What a finder finds, undone. -/
def FindDec (two : Bool) (b : List Nat) (find : Nat → Nat × List Nat) : Prop :=
  ∀ (most more : Int) (E : List Nat) (p : Nat), p < b.length → (find p).1 ≠ 0 → (b.length : Int) ≤ most → Dec two most more E (b.take p) → Dec two most more (E ++ (find p).2) (b.take (p + (find p).1))

theorem Dec.pk {two : Bool} {most more : Int} {b : List Nat} {find : Nat → Nat × List Nat} (hok : FindOK b find) (hd : FindDec two b find) (hm : (b.length : Int) ≤ most) : ∀ (f i fr : Nat) (E : List Nat), b.length - i ≤ f → fr ≤ i → i ≤ b.length →
    Dec two most more E (b.take fr) → Dec two most more (pkF find b f i fr E) b
  | 0, i, fr, E, hf, h1, h2, h => by
    have := Dec.lay (b.length - fr) fr b.length E h (Nat.le_refl _) (by omega) (Nat.le_refl _) hm
    rw [List.take_length] at this; exact this
  | f + 1, i, fr, E, hf, h1, h2, h => by
    simp only [pkF]
    split
    · rename_i hi
      split
      · exact Dec.pk hok hd hm f (i + 1) fr E (by omega) (by omega) (by omega) h
      · rename_i hn
        obtain ⟨k1, k2, _⟩ := hok i hi hn
        have h3 := Dec.lay (i - fr) fr i E h (Nat.le_refl _) h1 (by omega) hm
        exact Dec.pk hok hd hm f _ _ _ (by omega) (Nat.le_refl _) k1 (hd most more _ i hi hn hm h3)
    · have := Dec.lay (b.length - fr) fr b.length E h (Nat.le_refl _) (by omega) (Nat.le_refl _) hm
      rw [List.take_length] at this; exact this

theorem runF_same (b : List Nat) (x p : Nat) : ∀ f n j, n ≤ j → j < runF b x p f n → b.getD (p + j) 0 = x
  | 0, n, j, h1, h2 => by simp only [runF] at h2; omega
  | f + 1, n, j, h1, h2 => by
    simp only [runF] at h2
    split at h2
    · rename_i hc
      by_cases hj : j = n
      · subst hj; exact hc.2
      · exact runF_same b x p f (n + 1) j (by omega) h2
    · omega

theorem mtF_same (b : List Nat) (q p : Nat) : ∀ f n j, n ≤ j → j < mtF b q p f n → b.getD (p + j) 0 = b.getD (q + j) 0
  | 0, n, j, h1, h2 => by simp only [mtF] at h2; omega
  | f + 1, n, j, h1, h2 => by
    simp only [mtF] at h2
    split at h2
    · rename_i hc
      by_cases hj : j = n
      · subst hj; exact hc.2
      · exact mtF_same b q p f (n + 1) j (by omega) h2
    · omega

theorem take_rep (b : List Nat) (x p : Nat) : ∀ n, p + n ≤ b.length → (∀ j, j < n → b.getD (p + j) 0 = x) → b.take p ++ List.replicate n x = b.take (p + n)
  | 0, _, _ => by simp
  | n + 1, h1, h2 => by
    rw [List.replicate_succ', ← List.append_assoc, take_rep b x p n (by omega) (fun j hj => h2 j (by omega)), ← Nat.add_assoc, List.take_add (i := p + n) (j := 1), drop_cons_getD b (p + n) (by omega), h2 n (by omega)]
    rfl

theorem take_cp (b : List Nat) : ∀ n p q, q < p → p + n ≤ b.length → (∀ j, j < n → b.getD (p + j) 0 = b.getD (q + j) 0) → cpB n (b.take p) q = b.take (p + n)
  | 0, p, q, _, _, _ => rfl
  | n + 1, p, q, h1, h2, h3 => by
    have e : (b.take p).getD q 0 = b.getD p 0 := by
      have := h3 0 (by omega)
      simp only [Nat.add_zero] at this
      rw [this]
      simp [List.getD_eq_getElem?_getD, List.getElem?_take, h1]
    have e2 : b.take p ++ [b.getD p 0] = b.take (p + 1) := by
      rw [List.take_add (i := p) (j := 1), drop_cons_getD b p (by omega)]; rfl
    rw [cpB, e, e2, take_cp b n (p + 1) (q + 1) (by omega) (by omega) (fun j hj => by
      have := h3 (j + 1) (by omega)
      rw [show p + 1 + j = p + (j + 1) by omega, show q + 1 + j = q + (j + 1) by omega]; exact this)]
    rw [show p + 1 + n = p + (n + 1) by omega]

theorem fdR_dec (b : List Nat) : FindDec false b (fdR b) := by
  intro most more E p hp h hm hd
  have h1 := runF_ge b (b.getD p 0) p 129 1
  have h2 := runF_le b (b.getD p 0) p 129 1 (by omega)
  have h5 := runF_same b (b.getD p 0) p 129 1
  simp only [fdR] at h ⊢
  split at h
  · exact absurd rfl h
  · rename_i h3
    rw [if_neg h3]
    have h4 := hd.run (n := runF b (b.getD p 0) p 129 1) (x := b.getD p 0) (by omega) (by omega) (by rw [List.length_take]; omega)
    rw [take_rep b (b.getD p 0) p _ h2 (fun j hj => by
      by_cases hj0 : j = 0
      · subst hj0; rfl
      · exact h5 j (by omega) hj)] at h4
    exact h4

theorem fdB_dec (b : List Nat) (hl : b.length ≤ 65536) : FindDec true b (fdB b (lastL b)) := by
  intro most more E p hp h hm hd
  unfold fdB at h ⊢
  rw [lastL_get b p hp] at h ⊢
  split at h
  · exact absurd rfl h
  · rename_i h3
    rw [if_neg h3]
    have h4 := lastA_room b p h3
    obtain ⟨q, hq, hql, hqw⟩ : ∃ q : Nat, lastA b p = q ∧ q < p ∧ (b.drop q).take 4 = (b.drop p).take 4 := by
      unfold lastA at h3 ⊢
      rw [if_pos h4] at h3 ⊢
      split at h3
      · rename_i j hj
        have := lastW_lt _ _ _ _ hj
        exact ⟨j, rfl, this.1, this.2.2⟩
      · omega
    rw [hq]
    simp only [Int.toNat_natCast]
    have h1 := mtF_ge b q p 127 4
    have h2 := mtF_le b q p 127 4 (by omega)
    have h5 := mtF_same b q p 127 4
    have h6 := hd.ref (n := mtF b q p 127 4) (far := p - q - 1) (by omega) (by omega) (by rw [List.length_take]; omega) (by rw [List.length_take]; omega) (by omega)
    rw [List.length_take, show min p b.length - (p - q - 1 + 1) = q by omega, take_cp b _ p q hql h2 (fun j hj => by
      by_cases hj4 : j < 4
      · rw [take4 b q (by omega), take4 b p (by omega)] at hqw
        simp only [List.cons.injEq] at hqw
        match j, hj4 with
        | 0, _ => exact hqw.1.symm
        | 1, _ => exact hqw.2.1.symm
        | 2, _ => exact hqw.2.2.1.symm
        | 3, _ => exact hqw.2.2.2.1.symm
      · exact h5 j (by omega) hj)] at h6
    exact h6

theorem pack_all (how : Int) (b : List Nat) (hb : AllB b) : AllB (packL how b).1 := by
  have key : ∀ find, FindOK b find → ∀ f i fr E, AllB E → AllB (pkF find b f i fr E) := by
    intro find hok f
    induction f with
    | zero => intro i fr E hE; exact layF_all b hb _ _ _ _ hE
    | succ f ih =>
      intro i fr E hE
      simp only [pkF]
      split
      · rename_i hi
        split
        · exact ih _ _ _ hE
        · rename_i hn; exact ih _ _ _ ((layF_all b hb _ _ _ _ hE).app (hok i hi hn).2.2.2.2)
      · exact layF_all b hb _ _ _ _ hE
  unfold packL
  repeat' split
  all_goals first | exact AllB.nil | exact key _ (fdR_ok b hb) _ _ _ _ AllB.nil | exact key _ (fdB_ok b hb) _ _ _ _ AllB.nil | exact hb

/-- **What was packed comes out again.** -/
theorem op_pack (how : Int) (hh : 0 ≤ how ∧ how ≤ 2) (b : List Nat) (hb : AllB b) (hl : b.length ≤ 65536) (most more : Int) (hm : (b.length : Int) ≤ most) : opL how (packL how b).1 most more = (b, 0) := by
  unfold packL
  rw [if_neg (by omega), if_neg (by omega)]
  unfold opL
  by_cases h1 : how = 1
  · rw [if_pos h1, if_neg (by omega)]
    have := Dec.pk (more := more) (fdR_ok b hb) (fdR_dec b) hm b.length 0 0 [] (by omega) (Nat.le_refl _) (by omega) (by simpa using Dec.nil false most more)
    have := this []
    rw [List.append_nil, ly_nil] at this
    rw [show decide (how = 2) = false by simp; omega]
    exact this
  · rw [if_neg h1]
    by_cases h2 : how = 2
    · rw [if_pos h2, if_neg (by omega)]
      have := Dec.pk (more := more) (fdB_ok b hb) (fdB_dec b hl) hm b.length 0 0 [] (by omega) (Nat.le_refl _) (by omega) (by simpa using Dec.nil true most more)
      have := this []
      rw [List.append_nil, ly_nil] at this
      rw [show decide (how = 2) = true by simp [h2]]
      exact this
    · rw [if_neg h2, if_pos (by omega), if_neg (by simp only; omega)]

end Go.Proofs.Ytplibngmgebigaa.Press
