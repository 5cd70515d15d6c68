/- Lc5: value.Parse where it gives up, by closed runs. No conditions. -/
import Derived.Test.YtpgeonghlabnhaaGreatDoorLc4
import Derived.Test.YtpgeonghlabnhaaGreatDoorEm54
set_option linter.unusedVariables false
namespace Go.Proofs.YtpgeonghlabnhaaGreatDoor.Lin
open Go Go.Proofs Go.Proofs.YtpgeonghlabnhaaGreatDoor Go.Proofs.YtpgeonghlabnhaaGreatDoor.Em
theorem num_21 : valX gs tab2 100000 116 [iE 2, sE [49]] = some (.tup [iE 0, .sb false]) := by kernel_rfl
theorem num_2x : valX gs tab2 100000 116 [iE 2, sE [120]] = some (.tup [iE 0, .sb false]) := by kernel_rfl
theorem num_6x : valX gs tab2 100000 116 [iE 6, sE [120]] = some (.tup [iE 0, .lit (.bool false)]) := by kernel_rfl
theorem num_11x : valX gs tab2 100000 116 [iE 11, sE [120]] = some (.tup [iE 0, .lit (.bool false)]) := by kernel_rfl
def o3 : List (Nat × List (List EV × EV)) := (116, [([iE 2, sE [49]], .tup [iE 0, .sb false]), ([iE 2, sE [120]], .tup [iE 0, .sb false]), ([iE 6, sE [120]], .tup [iE 0, .lit (.bool false)]), ([iE 11, sE [120]], .tup [iE 0, .lit (.bool false)])]) :: o2
theorem o3_ok : orcOK Tryz.prog gs o3 :=
  ⟨⟨by kernel_rfl, closedV tab2_ok num_21 rfl, closedV tab2_ok num_2x rfl, closedV tab2_ok num_6x rfl, closedV tab2_ok num_11x rfl, trivial⟩, o2_ok⟩
def tab3 : Tab := { tab with o := findF o3 }
theorem tab3_ok : tab3.OK Tryz.prog gs := Tab.with tab_ok o3_ok
noncomputable def gaveUp (args : List EV) : Option EV := match exDP kA gs tab3 [72, 73] 10000 10000 71 D33 R71 [] args with | some (v, _) => some v | none => none
theorem up_21 : gaveUp [fldE [97] false 2, sE [49]] = some (.tup [numE 0, iE 8, iE 0]) := by kernel_rfl
theorem up_2x : gaveUp [fldE [97] false 2, sE [120]] = some (.tup [numE 0, iE 8, iE 0]) := by kernel_rfl
theorem up_6x : gaveUp [fldE [97] false 6, sE [120]] = some (.tup [numE 0, iE 8, iE 0]) := by kernel_rfl
theorem up_11x : gaveUp [fldE [97] false 11, sE [120]] = some (.tup [numE 0, iE 8, iE 0]) := by kernel_rfl
theorem parse_nd : ndD Tryz.prog 33 = true := by kernel_rfl
theorem parse_up {args : List EV} {v : EV} (h : gaveUp args = some v) (hv : clE v = true) : Tri Tryz.prog gs 33 args [] fun v1 h1 => v1 = v ∧ h1 = [] :=
  Tri.closedDP draws tab3_ok D33_ok parse_nd R71_ok (by rw [← kA_eq]; exact h) hv
def o4 : List (Nat × List (List EV × EV)) := (33, [
  ([fldE [97] true 3, sE [49]], .tup [numE 1, iE 0, iE 0]), ([fldE [97] true 3, sE [50]], .tup [numE 2, iE 0, iE 0]),
  ([fldE [97] false 2, sE [49]], .tup [numE 0, iE 8, iE 0]), ([fldE [97] false 6, sE [49]], .tup [numE 1, iE 0, iE 0]), ([fldE [97] false 6, sE [50]], .tup [numE 2, iE 0, iE 0]),
  ([fldE [97] false 2, sE [120]], .tup [numE 0, iE 8, iE 0]), ([fldE [97] false 6, sE [120]], .tup [numE 0, iE 8, iE 0]), ([fldE [97] false 11, sE [120]], .tup [numE 0, iE 8, iE 0])]) :: o2
theorem o4_ok : orcOK Tryz.prog gs o4 :=
  ⟨⟨by kernel_rfl, closedV tab2_ok parse_a1 rfl, closedV tab2_ok parse_a2 rfl, parse_up up_21 rfl, closedV tab2_ok parse_61 rfl, closedV tab2_ok parse_62 rfl, parse_up up_2x rfl, parse_up up_6x rfl, parse_up up_11x rfl, trivial⟩, o2_ok⟩
def tab4 : Tab := { tab with o := findF o4 }
theorem tab4_ok : tab4.OK Tryz.prog gs := Tab.with tab_ok o4_ok
end Go.Proofs.YtpgeonghlabnhaaGreatDoor.Lin
