/- Lc2: what the kit's shelf tells of five functions of the library, as contracts. No conditions beyond those written. -/
import Derived.Test.YtpgeonghlabnhaaGreatDoorLc1
import Derived.Test.YtpgeonghlabnhaaGreatDoorEm53
import Derived.Shelf.Strings.OnBuilder
import Derived.Shelf.Strings.IndexAnyAll
import Derived.Shelf.Strings.Count
import Derived.Shelf.Strings.Search1
import Derived.Shelf.Strconv.Clone
set_option linter.unusedVariables false
namespace Go.Proofs.YtpgeonghlabnhaaGreatDoor.Lin
open Go Go.Proofs Go.Proofs.YtpgeonghlabnhaaGreatDoor Go.Proofs.YtpgeonghlabnhaaGreatDoor.Em
def rhoL : Go.Shelf.Ren := ⟨fun n => match n with | 119 => 194 | 137 => 193 | 138 => 155 | 143 => 156 | 150 => 63 | 152 => 151 | 153 => 104 | 156 => 25 | 165 => 56 | 166 => 57 | 169 => 58 | 195 => 197 | 217 => 229 | 218 => 198 | 219 => 199 | 224 => 195 | 225 => 196 | 226 => 152 | 227 => 153 | 228 => 154 | 240 => 97 | 241 => 98 | 266 => 257 | 267 => 230 | 276 => 139 | 277 => 140 | 314 => 258 | 316 => 259 | n => n, fun n => match n with | 0 => 0 | 3 => 3 | 4 => 4 | 5 => 5 | 9 => 9 | 20 => 20 | 21 => 21 | 31 => 23 | 37 => 87 | 46 => 168 | 51 => 363 | 70 => 137 | 72 => 139 | 75 => 142 | 76 => 143 | 80 => 145 | 116 => 276 | 117 => 277 | 124 => 312 | 127 => 190 | 146 => 366 | 164 => 258 | n => n, fun n => match n with | 1 => 3 | n => n⟩
theorem lay_Laysn156 : Go.Proofs.Lays.n156 Tryz.prog rhoL := by
  constructor
  all_goals first | (intro w; kernel_rfl) | kernel_rfl
theorem lay_Laysn150 : Go.Proofs.Lays.n150 Tryz.prog rhoL := by
  constructor
  all_goals first | (intro w; kernel_rfl) | kernel_rfl
theorem lay_Laysn138 : Go.Proofs.Lays.n138 Tryz.prog rhoL := by
  constructor
  all_goals first | (intro w; kernel_rfl) | kernel_rfl
theorem lay_Laysn217 : Go.Proofs.Lays.n217 Tryz.prog rhoL := by
  constructor
  all_goals first | (intro w; kernel_rfl) | kernel_rfl
theorem lay_Laysn316 : Go.Proofs.Lays.n316 Tryz.prog rhoL := by
  constructor
  all_goals first | (intro w; kernel_rfl) | kernel_rfl
theorem lay_LaysMn316 : Go.Proofs.LaysM.n316 Tryz.prog rhoL := by
  apply Go.Proofs.LaysM.n316.mk lay_Laysn316
  all_goals first | (intro w; kernel_rfl) | kernel_rfl
theorem lay_X72 : Go.Proofs.Builder.X72 Tryz.prog rhoL := ⟨by kernel_rfl, by kernel_rfl⟩
theorem lay_Extra : Go.Proofs.Builder.Extra Tryz.prog rhoL := by
  apply Go.Proofs.Builder.Extra.mk lay_X72
  all_goals first | (intro w; kernel_rfl) | kernel_rfl | decide
theorem clone_ok (s : ByteArray) (hs : s.size ≤ 281474976710656) (h : EH) : Tri Tryz.prog gs 259 [.lit (.string s)] h fun v h' => v = .lit (.string s) ∧ h' = h :=
  Tri.shelfL (vs := [.string s]) fun w => Any.stringslite_Clone lay_LaysMn316 s w hs
theorem indexByte_ok (s : ByteArray) (c : Int) (h : EH) : Tri Tryz.prog gs 229 [.lit (.string s), .lit (.int .u8 c)] h fun v h' => v = .lit (.int .i64 (Lib.indexByte s.data.toList c.toNat.toUInt8)) ∧ h' = h :=
  Tri.shelfL (vs := [.string s, .int .u8 c]) fun w => (Any.stringslite_IndexByte lay_Laysn217 s c w).mono fun e w' hx => ⟨hx.1, hx.2 ▸ RowKit.Below.refl _ _⟩
theorem count_ok (s : ByteArray) (c : UInt8) (h : EH) : Tri Tryz.prog gs 155 [.lit (.string s), .lit (.string ⟨#[c]⟩)] h fun v h' => v = .lit (.int .i64 (Lib.countByte s.data.toList c)) ∧ h' = h :=
  Tri.shelfL (vs := [.string s, .string ⟨#[c]⟩]) fun w => (Any.strings_Count_one lay_Laysn138 s c w).mono fun e w' hx => ⟨hx.1, hx.2 ▸ RowKit.Below.refl _ _⟩
theorem containsAny_ok (s chars : ByteArray) (hs : s.size < 4294967281) (hcs : chars.size < 4294967281) (has : ∀ (j : Nat) b, s.data.toList[j]? = some b → b.toNat < 128) (hac : ∀ (j : Nat) b, chars.data.toList[j]? = some b → b.toNat < 128) (h : EH) :
    Tri Tryz.prog gs 63 [.lit (.string s), .lit (.string chars)] h fun v h' => v = .lit (.bool (Lib.containsAny s.data.toList chars.data.toList)) ∧ h' = h :=
  Tri.shelfL (vs := [.string s, .string chars]) fun w => Any.strings_ContainsAny_laid lay_Laysn150 (by kernel_rfl) s chars w hs hcs has hac
theorem join_ok (xs : List ByteArray) (sep : ByteArray) (cap : Option Nat) (hne : xs ≠ []) (hN : xs.length ≤ 140737488355328) (hlen : (Lib.join (xs.map (·.data.toList)) sep.data.toList).length ≤ 140737488355328) (h : EH) :
    Tri Tryz.prog gs 25 [.isl xs.length cap (xs.map fun x => .lit (.string x)), .lit (.string sep)] h fun v h' => v = .lit (.string ⟨(Lib.join (xs.map (·.data.toList)) sep.data.toList).toArray⟩) ∧ h' = h :=
  Tri.shelf fun I ρ w cargs hI ha => by
    match cargs, ha with
    | ⟨[x, y]⟩, ha =>
      obtain ⟨h1, h2, _⟩ := ha
      cases h2
      generalize hn : xs.length = n at h1
      cases h1 with
      | isln => exact absurd (List.length_eq_zero_iff.1 hn) hne
      | isl _ _ _ _ a k vs hc hsp hb hr =>
        subst hn
        have hk : k ≠ 0 := by
          have := hc.1
          have : xs.length ≠ 0 := fun e => hne (List.length_eq_zero_iff.1 e)
          omega
        obtain ⟨ab, ao, asp⟩ := a
        have hsp := hsp hk
        simp only at hsp
        subst hsp
        obtain ⟨hj, hcell⟩ := hb hk
        refine ⟨_, Any.strings_Join lay_Laysn156 lay_Extra ab ao k xs sep w (fun j x hx => ?_) (hI _ (I.sub _ hj)) hN hc.1 hlen, fun _ _ _ => .lit _ _⟩
        have hx' : (xs.map fun x => EV.lit (.string x))[j]? = some (.lit (.string x)) := by simp [hx]
        have h1 := (hcell j _ hx').1
        have h2 := hr hk j _ hx'
        generalize vs j = u at h1 h2
        cases h2
        exact h1
end Go.Proofs.YtpgeonghlabnhaaGreatDoor.Lin
