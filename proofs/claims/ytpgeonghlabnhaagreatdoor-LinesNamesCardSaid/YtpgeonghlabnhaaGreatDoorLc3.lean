/- Lc3: what is known of the calls of the library that awake() reaches; value.may by closed runs. No conditions. -/
import Derived.Test.YtpgeonghlabnhaaGreatDoorLc2
import Derived.Test.YtpgeonghlabnhaaGreatDoorEm32
set_option linter.unusedVariables false
namespace Go.Proofs.YtpgeonghlabnhaaGreatDoor.Lin
open Go Go.Proofs Go.Proofs.YtpgeonghlabnhaaGreatDoor Go.Proofs.YtpgeonghlabnhaaGreatDoor.Em
abbrev sE (l : List UInt8) : EV := .lit (.string ⟨l.toArray⟩)
abbrev iE (n : Int) : EV := .lit (.int .i64 n)
def nilE0 : EV := .lit (.slice none 0 0)
/-- a field of a plain kind -/
def fldE (name : List UInt8) (nullable : Bool) (kind : Int) : EV := .agg [sE name, .lit (.bool nullable), iE kind, iE 0, iE 0, iE 0, nilE0]
theorem draws : DrawSound Tryz.prog gs := draw_sound (by kernel_rfl)
def o1 : List (Nat × List (List EV × EV)) := [
  (25, [([.isl 2 none [sE [97], sE [98]], sE [44]], sE [97, 44, 98])]),
  (63, [([sE [49], sE [44, 34, 10, 13]], .lit (.bool false)), ([sE [120], sE [44, 34, 10, 13]], .lit (.bool false)), ([sE [50], sE [44, 34, 10, 13]], .lit (.bool false)), ([sE [97, 44, 98], sE [44, 34, 10, 13]], .lit (.bool true))]),
  (155, [([sE [], sE [34]], iE 0), ([sE [97, 44, 98], sE [34]], iE 0)]),
  (259, [([sE [120]], sE [120]), ([sE []], sE [])]),
  (229, [([sE [120], .lit (.int .u8 112)], iE (-1))])]
theorem ascii_of {s : ByteArray} (h : (s.data.toList.all fun b => decide (b.toNat < 128)) = true) : ∀ (j : Nat) b, s.data.toList[j]? = some b → b.toNat < 128 := fun j b hb => by
  rw [List.all_eq_true] at h
  exact of_decide_eq_true (h b (List.mem_of_getElem? hb))
theorem o1_ok : orcOK Tryz.prog gs o1 := by
  have ca : ∀ (s : ByteArray) (b : Bool), (s.data.toList.all fun b => decide (b.toNat < 128)) = true → s.size < 4294967281 → Lib.containsAny s.data.toList [44, 34, 10, 13] = b →
      Tri Tryz.prog gs 63 [.lit (.string s), sE [44, 34, 10, 13]] [] fun v h' => v = .lit (.bool b) ∧ h' = [] := fun s b h1 h2 h3 => by
    have := containsAny_ok s ⟨#[44, 34, 10, 13]⟩ h2 (by decide) (ascii_of h1) (ascii_of (by decide)) []
    subst h3
    exact this
  refine ⟨⟨by kernel_rfl, ?_, trivial⟩, ⟨by kernel_rfl, ca _ _ (by decide) (by decide) (by decide), ca _ _ (by decide) (by decide) (by decide), ca _ _ (by decide) (by decide) (by decide), ca _ _ (by decide) (by decide) (by decide), trivial⟩,
    ⟨by kernel_rfl, ?_, ?_, trivial⟩, ⟨by kernel_rfl, clone_ok _ (by decide) [], clone_ok _ (by decide) [], trivial⟩, ⟨by kernel_rfl, ?_, trivial⟩, trivial⟩
  · exact join_ok [⟨#[97]⟩, ⟨#[98]⟩] ⟨#[44]⟩ none (by simp) (by decide) (by decide) []
  · exact count_ok ⟨#[]⟩ 34 []
  · exact count_ok ⟨#[97, 44, 98]⟩ 34 []
  · exact indexByte_ok ⟨#[120]⟩ 112 []
def tab1 : Tab := { tab with o := findF o1 }
theorem tab1_ok : tab1.OK Tryz.prog gs := Tab.with tab_ok o1_ok
theorem may_a : valX gs tab1 100000 70 [fldE [97] true 3] = some (.sb true) := by kernel_rfl
theorem may_b : valX gs tab1 100000 70 [fldE [98] false 12] = some (.sb true) := by kernel_rfl
theorem may_2 : valX gs tab1 100000 70 [fldE [97] false 2] = some (.sb true) := by kernel_rfl
theorem may_6 : valX gs tab1 100000 70 [fldE [97] false 6] = some (.sb true) := by kernel_rfl
theorem may_11 : valX gs tab1 100000 70 [fldE [97] false 11] = some (.sb true) := by kernel_rfl
end Go.Proofs.YtpgeonghlabnhaaGreatDoor.Lin
