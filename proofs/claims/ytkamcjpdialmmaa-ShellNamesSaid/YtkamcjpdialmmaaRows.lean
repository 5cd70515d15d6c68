/-
  No cell of these rows narrows 'for every input' (looked for: loops, veiled, ifaces, maps, wideKeys, modest, calm, conditions, laid).
  DERIVED. THE GIVEN ROWS OF THIS SEAT. 4 by the template 'for every input the law returns true; each argument reads behind the call as it read before'; 0 by the template 'total and deterministic' (their statements: YtkamcjpdialmmaaTotals.lean).
  GIVEN WITH THE SEED: the statements are not yours to turn. If you find one false, say at which input.
  Laid BY PROGRAM, IN A SANDBOX (cutbox-rows.mjs): the forced cells as the released guide's own fill.sh prints them over the translation adba0a98f1bce3c0… (all of the seat's roots in one cut). By AI agents, Wed Nov 11 2026. No macro, syntax, notation, axiom, sorry.
-/
import Derived.Test.YtkamcjpdialmmaaChecked
import GoSem.Claim
import GoSem.ClaimJoined
import GoSem.ClaimMapViews
import Derived.JoinedTies
import Derived.KernelRfl
namespace Go.Proofs.Ytkamcjpdialmmaa
/- THE CELL 'sum', in the pinned program and in every row, IS THE sha256 OF THE DUMP (.gsa) THAT YtkamcjpdialmmaaProg.lean LOADS. Nothing in Lean hashes anything: it is a label: what it is worth is what the hold of that sum in a sandbox is worth. -/
noncomputable def Try.pinned : Pinned := { name := "ytkamcjpdialmmaa", sum := "adba0a98f1bce3c0ef9f73e1c2eb5d151413b5395955f62f12ac6c3ee60904cd", checked := Try.checked }
namespace Rows
def none {H : Type} : Left H := { results := [], args := [] }

/-- 'colonnadelaw22.ExprNames': WHATEVER THE INPUT: true; the input reads as it did. -/
def exprNamesSpec : ChangeSpec := { name := "exprNames", fn := fun _ => fun
  | [] => { results := [.lit (.bool true)], args := [] }
  | _ => none }
def exprNamesRow : OpenClaim := { program := "ytkamcjpdialmmaa", sum := "adba0a98f1bce3c0ef9f73e1c2eb5d151413b5395955f62f12ac6c3ee60904cd", func := "colonnade/colonnadelaw22.ExprNames", spec := "exprNames", apart := false }
def ExprNamesSaid : Prop := exprNamesRow.holds Try.pinned (OpenSpec.ofChange exprNamesSpec)

/-- ITS FALSE NEIGHBOUR: 'it returns false'. Refute it at one input. -/
def exprNamesWrong : ChangeSpec := { name := "exprNames", fn := fun _ => fun
  | [] => { results := [.lit (.bool false)], args := [] }
  | _ => none }
def ExprNamesWrongFalsely : Prop := exprNamesRow.holds Try.pinned (OpenSpec.ofChange exprNamesWrong)

/-- 'colonnadelaw24.ScanNames': WHATEVER THE INPUT: true; the input reads as it did. -/
def scanNamesSpec : ChangeSpec := { name := "scanNames", fn := fun _ => fun
  | [] => { results := [.lit (.bool true)], args := [] }
  | _ => none }
def scanNamesRow : OpenClaim := { program := "ytkamcjpdialmmaa", sum := "adba0a98f1bce3c0ef9f73e1c2eb5d151413b5395955f62f12ac6c3ee60904cd", func := "colonnade/colonnadelaw24.ScanNames", spec := "scanNames", apart := false }
def ScanNamesSaid : Prop := scanNamesRow.holds Try.pinned (OpenSpec.ofChange scanNamesSpec)

/-- ITS FALSE NEIGHBOUR: 'it returns false'. Refute it at one input. -/
def scanNamesWrong : ChangeSpec := { name := "scanNames", fn := fun _ => fun
  | [] => { results := [.lit (.bool false)], args := [] }
  | _ => none }
def ScanNamesWrongFalsely : Prop := scanNamesRow.holds Try.pinned (OpenSpec.ofChange scanNamesWrong)

/-- 'colonnadelaw26.PlanNames': WHATEVER THE INPUT: true; the input reads as it did. -/
def planNamesSpec : ChangeSpec := { name := "planNames", fn := fun _ => fun
  | [] => { results := [.lit (.bool true)], args := [] }
  | _ => none }
def planNamesRow : OpenClaim := { program := "ytkamcjpdialmmaa", sum := "adba0a98f1bce3c0ef9f73e1c2eb5d151413b5395955f62f12ac6c3ee60904cd", func := "colonnade/colonnadelaw26.PlanNames", spec := "planNames", apart := false }
def PlanNamesSaid : Prop := planNamesRow.holds Try.pinned (OpenSpec.ofChange planNamesSpec)

/-- ITS FALSE NEIGHBOUR: 'it returns false'. Refute it at one input. -/
def planNamesWrong : ChangeSpec := { name := "planNames", fn := fun _ => fun
  | [] => { results := [.lit (.bool false)], args := [] }
  | _ => none }
def PlanNamesWrongFalsely : Prop := planNamesRow.holds Try.pinned (OpenSpec.ofChange planNamesWrong)

/-- 'colonnadelaw27.ShellNames': WHATEVER THE INPUT: true; the input reads as it did. -/
def shellNamesSpec : ChangeSpec := { name := "shellNames", fn := fun _ => fun
  | [] => { results := [.lit (.bool true)], args := [] }
  | _ => none }
def shellNamesRow : OpenClaim := { program := "ytkamcjpdialmmaa", sum := "adba0a98f1bce3c0ef9f73e1c2eb5d151413b5395955f62f12ac6c3ee60904cd", func := "colonnade/colonnadelaw27.ShellNames", spec := "shellNames", apart := false }
def ShellNamesSaid : Prop := shellNamesRow.holds Try.pinned (OpenSpec.ofChange shellNamesSpec)

/-- ITS FALSE NEIGHBOUR: 'it returns false'. Refute it at one input. -/
def shellNamesWrong : ChangeSpec := { name := "shellNames", fn := fun _ => fun
  | [] => { results := [.lit (.bool false)], args := [] }
  | _ => none }
def ShellNamesWrongFalsely : Prop := shellNamesRow.holds Try.pinned (OpenSpec.ofChange shellNamesWrong)

/- THE SECOND FORM. 'bulk': how many values and letters a reading holds, each counted each time it is reached (what is shared counts as often as it is met; a slice's spare places count too). A statement '..UptoSaid' is the law's where the arguments, and the package variables that the reading takes, are together of bulk at most 1048576: NARROWER than '..Said'. Prove '..Said' where nothing that the law and all that it calls make is longer than what came in: it says more and counts as full. Else prove '..UptoSaid'. A law counts once. -/
mutual
def uptoBulk {H : Type} : DataW H → Nat
  | .lit (.string bytes) => bytes.length + 1
  | .lit _ => 1
  | .nil => 1
  | .ptr d => uptoBulk d + 1
  | .slice elems spare => uptoBulkAll elems + uptoBulkAll spare + 1
  | .agg parts => uptoBulkAll parts + 1
  | .iface _ d => uptoBulk d + 1
  | .map entries => uptoBulkEntries entries + 1
  | .held _ => 1
def uptoBulkAll {H : Type} : List (DataW H) → Nat
  | [] => 0
  | d :: r => uptoBulk d + uptoBulkAll r
def uptoBulkEntries {H : Type} : List (Lit × DataW H) → Nat
  | [] => 0
  | x :: r => uptoBulkEntry x + uptoBulkEntries r
def uptoBulkEntry {H : Type} : Lit × DataW H → Nat
  | (.string bytes, d) => bytes.length + uptoBulk d + 1
  | (_, d) => uptoBulk d + 1
 end
def uptoSmall : (H : Type) → List (DataW H) → Bool := fun _ ds => decide (uptoBulkAll ds ≤ 1048576)
def OpenSpec.upto (s : _root_.Go.ChangeSpec) : _root_.Go.OpenSpec := { _root_.Go.OpenSpec.ofChange s with cond := some uptoSmall }

/-- 'colonnadelaw22.ExprNames', WHERE WHAT IT READS IS OF BULK AT MOST 1048576: true; the input reads as it did. -/
def exprNamesUptoRow : OpenClaim := { program := "ytkamcjpdialmmaa", sum := "adba0a98f1bce3c0ef9f73e1c2eb5d151413b5395955f62f12ac6c3ee60904cd", func := "colonnade/colonnadelaw22.ExprNames", spec := "exprNames", apart := false, narrowed := true }
def ExprNamesUptoSaid : Prop := exprNamesUptoRow.holds Try.pinned (OpenSpec.upto exprNamesSpec)

/-- 'colonnadelaw24.ScanNames', WHERE WHAT IT READS IS OF BULK AT MOST 1048576: true; the input reads as it did. -/
def scanNamesUptoRow : OpenClaim := { program := "ytkamcjpdialmmaa", sum := "adba0a98f1bce3c0ef9f73e1c2eb5d151413b5395955f62f12ac6c3ee60904cd", func := "colonnade/colonnadelaw24.ScanNames", spec := "scanNames", apart := false, narrowed := true }
def ScanNamesUptoSaid : Prop := scanNamesUptoRow.holds Try.pinned (OpenSpec.upto scanNamesSpec)

/-- 'colonnadelaw26.PlanNames', WHERE WHAT IT READS IS OF BULK AT MOST 1048576: true; the input reads as it did. -/
def planNamesUptoRow : OpenClaim := { program := "ytkamcjpdialmmaa", sum := "adba0a98f1bce3c0ef9f73e1c2eb5d151413b5395955f62f12ac6c3ee60904cd", func := "colonnade/colonnadelaw26.PlanNames", spec := "planNames", apart := false, narrowed := true }
def PlanNamesUptoSaid : Prop := planNamesUptoRow.holds Try.pinned (OpenSpec.upto planNamesSpec)

/-- 'colonnadelaw27.ShellNames', WHERE WHAT IT READS IS OF BULK AT MOST 1048576: true; the input reads as it did. -/
def shellNamesUptoRow : OpenClaim := { program := "ytkamcjpdialmmaa", sum := "adba0a98f1bce3c0ef9f73e1c2eb5d151413b5395955f62f12ac6c3ee60904cd", func := "colonnade/colonnadelaw27.ShellNames", spec := "shellNames", apart := false, narrowed := true }
def ShellNamesUptoSaid : Prop := shellNamesUptoRow.holds Try.pinned (OpenSpec.upto shellNamesSpec)

end Rows
end Go.Proofs.Ytkamcjpdialmmaa
