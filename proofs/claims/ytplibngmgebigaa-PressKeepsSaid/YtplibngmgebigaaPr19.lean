/- Pr19: the document's packing (a literal of 128 at most as soon as it is full) is packing as it stands in Pr11. No conditions beyond those written. -/
import Derived.Test.YtplibngmgebigaaPr18
set_option linter.unusedVariables false
set_option linter.unusedSimpArgs false
namespace Go.Proofs.Ytplibngmgebigaa.Press
open Go Go.Proofs.Ytplibngmgebigaa Go.Proofs.Ytplibngmgebigaa.Em

/-- where the next literal ends -/
def endF (find : Nat → Nat × List Nat) (b : List Nat) : Nat → Nat → Nat
  | 0, e => e
  | f + 1, e => if e < b.length ∧ (find e).1 = 0 then endF find b f (e + 1) else e

def rkF (find : Nat → Nat × List Nat) (b : List Nat) : Nat → Nat → List Nat → List Nat
  | 0, _, out => out
  | f + 1, i, out => if i < b.length then
      if (find i).1 = 0 then rkF find b f (endF find b 128 i) (out ++ (endF find b 128 i - i - 1) :: (b.drop i).take (endF find b 128 i - i)) else rkF find b f (i + (find i).1) (out ++ (find i).2)
    else out

theorem rkF_stop (find : Nat → Nat × List Nat) (b : List Nat) (f i : Nat) (out : List Nat) (h : ¬ i < b.length) : rkF find b f i out = out := by
  cases f with
  | zero => rfl
  | succ f => rw [rkF, if_neg h]

theorem endF_stop (find : Nat → Nat × List Nat) (b : List Nat) (f e : Nat) (h : ¬ (e < b.length ∧ (find e).1 = 0)) : endF find b f e = e := by
  cases f with
  | zero => rfl
  | succ f => rw [endF, if_neg h]

theorem endF_le (find : Nat → Nat × List Nat) (b : List Nat) : ∀ f e, e ≤ b.length → e ≤ endF find b f e ∧ endF find b f e ≤ e + f ∧ endF find b f e ≤ b.length
  | 0, e, h => by simp [endF, h]
  | f + 1, e, h => by
    simp only [endF]
    split
    · rename_i hc; have := endF_le find b f (e + 1) (by omega); omega
    · omega

theorem endF_none (find : Nat → Nat × List Nat) (b : List Nat) : ∀ f e j, e ≤ j → j < endF find b f e → j < b.length ∧ (find j).1 = 0
  | 0, e, j, h1, h2 => by simp [endF] at h2; omega
  | f + 1, e, j, h1, h2 => by
    simp only [endF] at h2
    split at h2
    · rename_i hc
      by_cases hj : j = e
      · subst hj; exact hc
      · exact endF_none find b f (e + 1) j (by omega) h2
    · omega

theorem endF_end (find : Nat → Nat × List Nat) (b : List Nat) : ∀ f e, e ≤ b.length → endF find b f e = e + f ∨ ¬ (endF find b f e < b.length ∧ (find (endF find b f e)).1 = 0)
  | 0, e, _ => .inl rfl
  | f + 1, e, h => by
    simp only [endF]
    split
    · rename_i hc
      rcases endF_end find b f (e + 1) (by omega) with h1 | h1
      · left; omega
      · right; exact h1
    · rename_i hc; right; exact hc

theorem endF_pos (find : Nat → Nat × List Nat) (b : List Nat) (e : Nat) (h : e < b.length ∧ (find e).1 = 0) : e + 1 ≤ endF find b 128 e := by
  rw [endF, if_pos h]; exact (endF_le find b 127 (e + 1) (by omega)).1

theorem layF_one (b : List Nat) (f fr to : Nat) (out : List Nat) (h : fr < to) (h2 : to - fr ≤ 128) (hf : 1 ≤ f) : layF b f fr to out = out ++ (to - fr - 1) :: (b.drop fr).take (to - fr) := by
  obtain ⟨g, rfl⟩ : ∃ g, f = g + 1 := ⟨f - 1, by omega⟩
  rw [layF, if_pos h, layF_stop _ _ _ _ _ (by omega), show min (to - fr) 128 = to - fr by omega]

theorem layF_fuel (b : List Nat) : ∀ (f g fr to : Nat) (out : List Nat), to - fr ≤ f → to - fr ≤ g → layF b f fr to out = layF b g fr to out
  | 0, g, fr, to, out, h1, h2 => by rw [layF_stop _ _ _ _ _ (by omega), layF_stop _ _ _ _ _ (by omega)]
  | f + 1, 0, fr, to, out, h1, h2 => by rw [layF_stop _ _ _ _ _ (by omega), layF_stop _ _ _ _ _ (by omega)]
  | f + 1, g + 1, fr, to, out, h1, h2 => by
    simp only [layF]
    split
    · exact layF_fuel b f g _ _ _ (by omega) (by omega)
    · rfl

/-- A full literal laid at once is laid later. -/
theorem layF_chunk (b : List Nat) (f g fr to : Nat) (out : List Nat) (h : fr + 128 ≤ to) (hf : to - fr ≤ f) (hg : to - (fr + 128) ≤ g) :
    layF b f fr to out = layF b g (fr + 128) to (out ++ 127 :: (b.drop fr).take 128) := by
  obtain ⟨k, rfl⟩ : ∃ k, f = k + 1 := ⟨f - 1, by omega⟩
  rw [layF, if_pos (by omega), show min (to - fr) 128 = 128 by omega]
  exact layF_fuel b _ _ _ _ _ (by omega) (by omega)

theorem pkF_chunk (find : Nat → Nat × List Nat) (b : List Nat) : ∀ (f i fr : Nat) (out : List Nat), fr + 128 ≤ i → i ≤ b.length → pkF find b f i fr out = pkF find b f i (fr + 128) (out ++ 127 :: (b.drop fr).take 128)
  | 0, i, fr, out, h, hi => by simp only [pkF]; exact layF_chunk b _ _ _ _ _ (by omega) (by omega) (by omega)
  | f + 1, i, fr, out, h, hi => by
    simp only [pkF]
    split
    · split
      · exact pkF_chunk find b f (i + 1) fr out (by omega) (by omega)
      · rw [layF_chunk b _ (i - (fr + 128)) fr i out h (by omega) (by omega)]
    · exact layF_chunk b _ _ _ _ _ (by omega) (by omega) (by omega)

theorem pkF_skip (find : Nat → Nat × List Nat) (b : List Nat) (fr : Nat) (out : List Nat) : ∀ (n f i : Nat), (∀ j, i ≤ j → j < i + n → j < b.length ∧ (find j).1 = 0) → pkF find b (f + n) i fr out = pkF find b f (i + n) fr out
  | 0, f, i, h => rfl
  | n + 1, f, i, h => by
    have h0 := h i (by omega) (by omega)
    rw [show f + (n + 1) = (f + n) + 1 by omega, pkF, if_pos h0.1, if_pos h0.2, pkF_skip find b fr out n f (i + 1) (fun j h1 h2 => h j (by omega) (by omega)), show i + 1 + n = i + (n + 1) by omega]

theorem pkF_fuel (find : Nat → Nat × List Nat) (b : List Nat) (hfd : ∀ p, (find p).1 ≠ 0 → 1 ≤ (find p).1) : ∀ (f g i fr : Nat) (out : List Nat), b.length - i ≤ f → b.length - i ≤ g → pkF find b f i fr out = pkF find b g i fr out
  | 0, g, i, fr, out, h1, h2 => by rw [pkF_stop _ _ _ _ _ _ (by omega), pkF_stop _ _ _ _ _ _ (by omega)]
  | f + 1, 0, i, fr, out, h1, h2 => by rw [pkF_stop _ _ _ _ _ _ (by omega), pkF_stop _ _ _ _ _ _ (by omega)]
  | f + 1, g + 1, i, fr, out, h1, h2 => by
    simp only [pkF]
    split
    · split
      · exact pkF_fuel find b hfd f g _ _ _ (by omega) (by omega)
      · rename_i hc; have := hfd i hc; exact pkF_fuel find b hfd f g _ _ _ (by omega) (by omega)
    · rfl

theorem rkF_pkF (find : Nat → Nat × List Nat) (b : List Nat) (hok : ∀ p, p < b.length → (find p).1 ≠ 0 → p + (find p).1 ≤ b.length) : ∀ (f i : Nat) (out : List Nat), i ≤ b.length → b.length - i ≤ f → rkF find b f i out = pkF find b (b.length - i) i i out
  | 0, i, out, hi, hf => by rw [pkF_stop _ _ _ _ _ _ (by omega), layF_stop _ _ _ _ _ (by omega)]; rfl
  | f + 1, i, out, hi, hf => by
    have hfd : ∀ p, (find p).1 ≠ 0 → 1 ≤ (find p).1 := fun p h => by omega
    rw [rkF]
    split
    · rename_i hlt
      split
      · rename_i hz
        obtain ⟨e, he⟩ : ∃ e, e = endF find b 128 i := ⟨_, rfl⟩
        have e1 := endF_le find b 128 i hi
        have e2 := endF_pos find b i ⟨hlt, hz⟩
        have e3 := endF_none find b 128 i
        have e4 := endF_end find b 128 i hi
        rw [← he] at e1 e2 e3 e4
        rw [← he, rkF_pkF find b hok f e _ (by omega) (by omega)]
        rw [show b.length - i = (b.length - e) + (e - i) by omega, pkF_skip find b i out (e - i) (b.length - e) i (fun j h1 h2 => e3 j h1 (by omega)), show i + (e - i) = e by omega]
        rcases e4 with e4 | e4
        · subst e4
          rw [pkF_chunk find b _ _ _ out (Nat.le_refl _) (by omega), show i + 128 - i - 1 = 127 by omega, show i + 128 - i = 128 by omega]
        · by_cases hel : e < b.length
          · have hz2 : (find e).1 ≠ 0 := fun h => e4 ⟨hel, h⟩
            obtain ⟨g, hg⟩ : ∃ g, b.length - e = g + 1 := ⟨b.length - e - 1, by omega⟩
            rw [hg, pkF, if_pos hel, if_neg hz2, pkF, if_pos hel, if_neg hz2, layF_stop b _ e e _ (by omega), layF_one b _ i e out (by omega) (by omega) (by omega)]
          · rw [pkF_stop _ _ _ _ _ _ hel, pkF_stop _ _ _ _ _ _ hel, layF_stop b _ e _ _ (by omega), show b.length = e by omega, layF_one b _ i e out (by omega) (by omega) (by omega)]
      · rename_i hz
        have := hok i hlt hz
        have := hfd i hz
        rw [rkF_pkF find b hok f _ _ (by omega) (by omega)]
        obtain ⟨g, hg⟩ : ∃ g, b.length - i = g + 1 := ⟨b.length - i - 1, by omega⟩
        rw [hg, pkF, if_pos hlt, if_neg hz, layF_stop b _ i i _ (by omega)]
        exact pkF_fuel find b hfd _ _ _ _ _ (by omega) (by omega)
    · rename_i hlt
      rw [pkF_stop _ _ _ _ _ _ hlt, layF_stop _ _ _ _ _ (by omega)]

end Go.Proofs.Ytplibngmgebigaa.Press
