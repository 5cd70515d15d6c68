/-
  NARROWER THAN 'FOR EVERY INPUT', by the rows' own cells (each row's printed sentence says how): CalcFloats: laid.
  DERIVED. THE GIVEN ROWS OF THIS SEAT. 1 by the template 'for every input the law returns true; each argument reads behind the call as it read before'; 0 by the template 'total and deterministic' (their statements: YtkjhfefbklcciaaGreatDoorTotals.lean).
  GIVEN WITH THE SEED: the statements are not yours to turn. If you find one false, say at which input.
  Laid BY PROGRAM, IN A SANDBOX (cutbox-rows.mjs): the forced cells as the released guide's own fill.sh prints them over the translation 455849fa29cd3228… (all of the seat's roots in one cut). By AI agents, Wed Nov 11 2026. No macro, syntax, notation, axiom, sorry.
-/
import Derived.Test.YtkjhfefbklcciaaGreatDoorChecked
import GoSem.PinnedTables
import GoSem.Claim
import GoSem.ClaimJoined
import GoSem.ClaimMapViews
import Derived.JoinedTies
import Derived.KernelRfl
namespace Go.Proofs.YtkjhfefbklcciaaGreatDoor
/- THE CELL 'sum', in the pinned program and in every row, IS THE sha256 OF THE DUMP (.gsa) THAT YtkjhfefbklcciaaGreatDoorProg.lean LOADS. Nothing in Lean hashes anything: it is a label: what it is worth is what the hold of that sum in a sandbox is worth. -/
noncomputable def Tryz.pinned : Pinned := { name := "ytkjhfefbklcciaagreatdoor", sum := "455849fa29cd3228d54acd45980f6e0257c3a809ec68819fceb5bbb4903852db", checked := Tryz.checked }
namespace Rows
def none {H : Type} : Left H := { results := [], args := [] }

/- WHAT THE LISTED PACKAGE-LEVEL VARIABLES READ AS WHEN THE CALL BEGINS. Each datum BY PROGRAM (the guide's laid-datum.mjs) off the statement by which the dump's own 'gosem.cut.vars' lays the variable. In a bare row this is a premise. The card (YtkjhfefbklcciaaGreatDoorCards.lean) ties it to the program's text. -/
def laid_unicode_utf8_acceptRanges {H : Type} : DataW H := .agg [.agg [.lit (.int .u8 128), .lit (.int .u8 191)], .agg [.lit (.int .u8 160), .lit (.int .u8 191)], .agg [.lit (.int .u8 128), .lit (.int .u8 159)], .agg [.lit (.int .u8 144), .lit (.int .u8 191)], .agg [.lit (.int .u8 128), .lit (.int .u8 143)], .agg [.lit (.int .u8 0), .lit (.int .u8 0)], .agg [.lit (.int .u8 0), .lit (.int .u8 0)], .agg [.lit (.int .u8 0), .lit (.int .u8 0)], .agg [.lit (.int .u8 0), .lit (.int .u8 0)], .agg [.lit (.int .u8 0), .lit (.int .u8 0)], .agg [.lit (.int .u8 0), .lit (.int .u8 0)], .agg [.lit (.int .u8 0), .lit (.int .u8 0)], .agg [.lit (.int .u8 0), .lit (.int .u8 0)], .agg [.lit (.int .u8 0), .lit (.int .u8 0)], .agg [.lit (.int .u8 0), .lit (.int .u8 0)], .agg [.lit (.int .u8 0), .lit (.int .u8 0)]]
def laid_colonnade_kind_says {H : Type} : DataW H := .agg [.agg [.lit (.string []), .lit (.int .i64 0), .lit (.int .i64 0), .lit (.bool false)], .agg [.lit (.string [110, 117, 108, 108]), .lit (.int .i64 0), .lit (.int .i64 0), .lit (.bool false)], .agg [.lit (.string [98, 111, 111, 108]), .lit (.int .i64 0), .lit (.int .i64 2), .lit (.bool false)], .agg [.lit (.string [105, 110, 116, 56]), .lit (.int .i64 1), .lit (.int .i64 2), .lit (.bool true)], .agg [.lit (.string [105, 110, 116, 49, 54]), .lit (.int .i64 2), .lit (.int .i64 2), .lit (.bool true)], .agg [.lit (.string [105, 110, 116, 51, 50]), .lit (.int .i64 4), .lit (.int .i64 2), .lit (.bool true)], .agg [.lit (.string [105, 110, 116, 54, 52]), .lit (.int .i64 8), .lit (.int .i64 2), .lit (.bool true)], .agg [.lit (.string [117, 105, 110, 116, 56]), .lit (.int .i64 1), .lit (.int .i64 2), .lit (.bool true)], .agg [.lit (.string [117, 105, 110, 116, 49, 54]), .lit (.int .i64 2), .lit (.int .i64 2), .lit (.bool true)], .agg [.lit (.string [117, 105, 110, 116, 51, 50]), .lit (.int .i64 4), .lit (.int .i64 2), .lit (.bool true)], .agg [.lit (.string [117, 105, 110, 116, 54, 52]), .lit (.int .i64 8), .lit (.int .i64 2), .lit (.bool true)], .agg [.lit (.string [102, 108, 111, 97, 116, 54, 52]), .lit (.int .i64 8), .lit (.int .i64 2), .lit (.bool false)], .agg [.lit (.string [116, 101, 120, 116]), .lit (.int .i64 0), .lit (.int .i64 3), .lit (.bool false)], .agg [.lit (.string [98, 121, 116, 101, 115]), .lit (.int .i64 0), .lit (.int .i64 3), .lit (.bool false)], .agg [.lit (.string [102, 105, 120, 101, 100]), .lit (.int .i64 0), .lit (.int .i64 2), .lit (.bool false)], .agg [.lit (.string [108, 105, 115, 116]), .lit (.int .i64 0), .lit (.int .i64 2), .lit (.bool false)], .agg [.lit (.string [115, 112, 97, 110]), .lit (.int .i64 0), .lit (.int .i64 1), .lit (.bool false)], .agg [.lit (.string [115, 116, 114, 117, 99, 116]), .lit (.int .i64 0), .lit (.int .i64 1), .lit (.bool false)], .agg [.lit (.string [99, 104, 111, 105, 99, 101]), .lit (.int .i64 0), .lit (.int .i64 2), .lit (.bool false)], .agg [.lit (.string [100, 105, 99, 116]), .lit (.int .i64 0), .lit (.int .i64 2), .lit (.bool false)], .agg [.lit (.string [114, 117, 110, 115]), .lit (.int .i64 0), .lit (.int .i64 0), .lit (.bool false)]]
/-- One of Go's own tables, pinned by name: the form's constant. -/
def laid_unicode_utf8_first : DataW Unit := Go.Pinned.utf8First

/-- 'colonnadelaw17.CalcFloats': WHATEVER THE INPUT: true; the input reads as it did. -/
def calcFloatsSpec : ChangeSpec := { name := "calcFloats", fn := fun _ => fun
  | [d1, d2] => { results := [.lit (.bool true)], args := [d1, d2] }
  | _ => none }
def calcFloatsRow : OpenClaim := { program := "ytkjhfefbklcciaagreatdoor", sum := "455849fa29cd3228d54acd45980f6e0257c3a809ec68819fceb5bbb4903852db", func := "colonnade/colonnadelaw17.CalcFloats", spec := "calcFloats", inPlace := ["math.Float64frombits", "math.Float64bits", "internal/bytealg.abigen_runtime_cmpstring", "internal/bytealg.IndexByteString", "internal/bytealg.IndexString", "internal/abi.NoEscape", "internal/bytealg.MakeNoZero"], unfollowed := true, recurses := true, named := ["colonnade/kind.says", "unicode/utf8.first", "unicode/utf8.acceptRanges", "internal/bytealg.MaxLen"], apart := false, laid := [("unicode/utf8.acceptRanges", laid_unicode_utf8_acceptRanges), ("colonnade/kind.says", laid_colonnade_kind_says), ("unicode/utf8.first", laid_unicode_utf8_first)] }
def CalcFloatsSaid : Prop := calcFloatsRow.holds Tryz.pinned (OpenSpec.ofChange calcFloatsSpec)

/-- ITS FALSE NEIGHBOUR: 'it returns false'. Refute it at one input. -/
def calcFloatsWrong : ChangeSpec := { name := "calcFloats", fn := fun _ => fun
  | [d1, d2] => { results := [.lit (.bool false)], args := [d1, d2] }
  | _ => none }
def CalcFloatsWrongFalsely : Prop := calcFloatsRow.holds Tryz.pinned (OpenSpec.ofChange calcFloatsWrong)

/- THE SECOND FORM. 'bulk': how many values and letters a reading holds, each counted each time it is reached (what is shared counts as often as it is met; a slice's spare places count too). A statement '..UptoSaid' is the law's where the arguments, and the package variables that the reading takes, are together of bulk at most 1048576: NARROWER than '..Said'. Prove '..Said' where nothing that the law and all that it calls make is longer than what came in: it says more and counts as full. Else prove '..UptoSaid'. A law counts once. -/
mutual
def uptoBulk {H : Type} : DataW H → Nat
  | .lit (.string bytes) => bytes.length + 1
  | .lit _ => 1
  | .nil => 1
  | .ptr d => uptoBulk d + 1
  | .slice elems spare => uptoBulkAll elems + uptoBulkAll spare + 1
  | .agg parts => uptoBulkAll parts + 1
  | .iface _ d => uptoBulk d + 1
  | .map entries => uptoBulkEntries entries + 1
  | .held _ => 1
def uptoBulkAll {H : Type} : List (DataW H) → Nat
  | [] => 0
  | d :: r => uptoBulk d + uptoBulkAll r
def uptoBulkEntries {H : Type} : List (Lit × DataW H) → Nat
  | [] => 0
  | x :: r => uptoBulkEntry x + uptoBulkEntries r
def uptoBulkEntry {H : Type} : Lit × DataW H → Nat
  | (.string bytes, d) => bytes.length + uptoBulk d + 1
  | (_, d) => uptoBulk d + 1
 end
def uptoSmall : (H : Type) → List (DataW H) → Bool := fun _ ds => decide (uptoBulkAll ds ≤ 1048576)
def OpenSpec.upto (s : _root_.Go.ChangeSpec) : _root_.Go.OpenSpec := { _root_.Go.OpenSpec.ofChange s with cond := some uptoSmall }

/-- 'colonnadelaw17.CalcFloats', WHERE WHAT IT READS IS OF BULK AT MOST 1048576: true; the input reads as it did. -/
def calcFloatsUptoRow : OpenClaim := { program := "ytkjhfefbklcciaagreatdoor", sum := "455849fa29cd3228d54acd45980f6e0257c3a809ec68819fceb5bbb4903852db", func := "colonnade/colonnadelaw17.CalcFloats", spec := "calcFloats", inPlace := ["math.Float64frombits", "math.Float64bits", "internal/bytealg.abigen_runtime_cmpstring", "internal/bytealg.IndexByteString", "internal/bytealg.IndexString", "internal/abi.NoEscape", "internal/bytealg.MakeNoZero"], unfollowed := true, recurses := true, named := ["colonnade/kind.says", "unicode/utf8.first", "unicode/utf8.acceptRanges", "internal/bytealg.MaxLen"], apart := false, laid := [("unicode/utf8.acceptRanges", laid_unicode_utf8_acceptRanges), ("colonnade/kind.says", laid_colonnade_kind_says), ("unicode/utf8.first", laid_unicode_utf8_first)], narrowed := true }
def CalcFloatsUptoSaid : Prop := calcFloatsUptoRow.holds Tryz.pinned (OpenSpec.upto calcFloatsSpec)

end Rows
end Go.Proofs.YtkjhfefbklcciaaGreatDoor
