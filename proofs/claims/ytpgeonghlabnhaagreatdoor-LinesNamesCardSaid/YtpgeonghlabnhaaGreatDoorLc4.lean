/- Lc4: value.Parse where it does not give up, by closed runs. No conditions. -/
import Derived.Test.YtpgeonghlabnhaaGreatDoorLc3
set_option linter.unusedVariables false
namespace Go.Proofs.YtpgeonghlabnhaaGreatDoor.Lin
open Go Go.Proofs Go.Proofs.YtpgeonghlabnhaaGreatDoor Go.Proofs.YtpgeonghlabnhaaGreatDoor.Em
/-- a closed call that names no memory -/
theorem closedV {T : Tab} (hT : T.OK Tryz.prog gs) {f : FuncId} {args : List EV} {V : EV} (hv : valX gs T 100000 f args = some V) (hV : clE V = true) : Tri Tryz.prog gs f args [] fun v h' => v = V ∧ h' = [] :=
  (Tri.closed draws hT (valX_exec hv) hV).2
def o2 : List (Nat × List (List EV × EV)) := (70, [([fldE [97] true 3], .sb true), ([fldE [98] false 12], .sb true), ([fldE [97] false 2], .sb true), ([fldE [97] false 6], .sb true), ([fldE [97] false 11], .sb true)]) :: o1
theorem o2_ok : orcOK Tryz.prog gs o2 :=
  ⟨⟨by kernel_rfl, closedV tab1_ok may_a rfl, closedV tab1_ok may_b rfl, closedV tab1_ok may_2 rfl, closedV tab1_ok may_6 rfl, closedV tab1_ok may_11 rfl, trivial⟩, o1_ok⟩
def tab2 : Tab := { tab with o := findF o2 }
theorem tab2_ok : tab2.OK Tryz.prog gs := Tab.with tab_ok o2_ok
/-- a value that is a number -/
def numE (n : Int) : EV := .agg [.lit (.bool false), iE n, sE [], nilE0]
theorem parse_a1 : valX gs tab2 100000 33 [fldE [97] true 3, sE [49]] = some (.tup [numE 1, iE 0, iE 0]) := by kernel_rfl
theorem parse_a2 : valX gs tab2 100000 33 [fldE [97] true 3, sE [50]] = some (.tup [numE 2, iE 0, iE 0]) := by kernel_rfl
theorem parse_61 : valX gs tab2 100000 33 [fldE [97] false 6, sE [49]] = some (.tup [numE 1, iE 0, iE 0]) := by kernel_rfl
theorem parse_62 : valX gs tab2 100000 33 [fldE [97] false 6, sE [50]] = some (.tup [numE 2, iE 0, iE 0]) := by kernel_rfl
end Go.Proofs.YtpgeonghlabnhaaGreatDoor.Lin
