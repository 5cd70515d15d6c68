/- Lc6: kind.CheckField, value.Fits and value.Print at what awake() hands them, by closed runs. No conditions. -/
import Derived.Test.YtpgeonghlabnhaaGreatDoorLc5
set_option linter.unusedVariables false
namespace Go.Proofs.YtpgeonghlabnhaaGreatDoor.Lin
open Go Go.Proofs Go.Proofs.YtpgeonghlabnhaaGreatDoor Go.Proofs.YtpgeonghlabnhaaGreatDoor.Em
def txtE (l : List UInt8) : EV := .agg [.lit (.bool false), iE 0, sE l, nilE0]
def nulE : EV := .agg [.lit (.bool true), iE 0, sE [], nilE0]
def okE : EV := .agg [iE 0, nilE0, iE 0]
theorem chk (name : List UInt8) (nu : Bool) (k : Int) (h : (match valX gs tab4 100000 106 [fldE name nu k] with | some v => eqE v okE | none => false) = true) :
    Tri Tryz.prog gs 106 [fldE name nu k] [] fun v h' => v = okE ∧ h' = [] := by
  split at h
  · rename_i v hv
    have := eqE_eq _ _ h
    subst this
    exact closedV tab4_ok hv rfl
  · cases h
theorem fit (f v : EV) (h : (match valX gs tab4 100000 133 [f, v] with | some v => eqE v (iE 0) | none => false) = true) :
    Tri Tryz.prog gs 133 [f, v] [] fun v h' => v = iE 0 ∧ h' = [] := by
  split at h
  · rename_i v hv
    have := eqE_eq _ _ h
    subst this
    exact closedV tab4_ok hv rfl
  · cases h
theorem prt (f v : EV) (l : List UInt8) (h : (match valX gs tab4 100000 62 [f, v] with | some v => eqE v (.tup [sE l, iE 0]) | none => false) = true) :
    Tri Tryz.prog gs 62 [f, v] [] fun v h' => v = .tup [sE l, iE 0] ∧ h' = [] := by
  split at h
  · rename_i v hv
    have := eqE_eq _ _ h
    subst this
    exact closedV tab4_ok hv rfl
  · cases h
def o5 : List (Nat × List (List EV × EV)) :=
  (106, [([fldE [97] true 3], okE), ([fldE [98] false 12], okE), ([fldE [97] false 3], okE), ([fldE [97] false 12], okE), ([fldE [97] false 2], okE), ([fldE [97] false 6], okE), ([fldE [97] false 11], okE)]) ::
  (133, [([fldE [97] true 3, numE 1], iE 0), ([fldE [98] false 12, txtE [120]], iE 0), ([fldE [97] true 3, nulE], iE 0), ([fldE [98] false 12, txtE []], iE 0), ([fldE [97] true 3, numE 2], iE 0), ([fldE [98] false 12, txtE [97, 44, 98]], iE 0)]) ::
  (62, [([fldE [97] true 3, numE 1], .tup [sE [49], iE 0]), ([fldE [97] true 3, numE 2], .tup [sE [50], iE 0])]) :: o4
theorem o5_ok : orcOK Tryz.prog gs o5 :=
  ⟨⟨by kernel_rfl, chk _ _ _ (by kernel_rfl), chk _ _ _ (by kernel_rfl), chk _ _ _ (by kernel_rfl), chk _ _ _ (by kernel_rfl), chk _ _ _ (by kernel_rfl), chk _ _ _ (by kernel_rfl), chk _ _ _ (by kernel_rfl), trivial⟩,
   ⟨by kernel_rfl, fit _ _ (by kernel_rfl), fit _ _ (by kernel_rfl), fit _ _ (by kernel_rfl), fit _ _ (by kernel_rfl), fit _ _ (by kernel_rfl), fit _ _ (by kernel_rfl), trivial⟩,
   ⟨by kernel_rfl, prt _ _ _ (by kernel_rfl), prt _ _ _ (by kernel_rfl), trivial⟩, o4_ok⟩
def tab5 : Tab := { tab with o := findF o5 }
theorem tab5_ok : tab5.OK Tryz.prog gs := Tab.with tab_ok o5_ok
end Go.Proofs.YtpgeonghlabnhaaGreatDoor.Lin
