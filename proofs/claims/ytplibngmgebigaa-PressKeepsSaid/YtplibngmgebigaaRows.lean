/-
  No cell of these rows narrows 'for every input' (looked for: loops, veiled, ifaces, maps, wideKeys, modest, calm, conditions, laid).
  DERIVED. THE GIVEN ROWS OF THIS SEAT. 8 by the template 'for every input the law returns true; each argument reads behind the call as it read before'; 0 by the template 'total and deterministic' (their statements: YtplibngmgebigaaTotals.lean).
  GIVEN WITH THE SEED: the statements are not yours to turn. If you find one false, say at which input.
  Laid BY PROGRAM, IN A SANDBOX (cutbox-rows.mjs): the forced cells as the released guide's own fill.sh prints them over the translation b6a2eb8058a4283f… (all of the seat's roots in one cut). By AI agents, Wed Nov 11 2026. No macro, syntax, notation, axiom, sorry.
-/
import Derived.Test.YtplibngmgebigaaChecked
import GoSem.Claim
import GoSem.ClaimJoined
import GoSem.ClaimMapViews
import Derived.JoinedTies
import Derived.KernelRfl
namespace Go.Proofs.Ytplibngmgebigaa
/- THE CELL 'sum', in the pinned program and in every row, IS THE sha256 OF THE DUMP (.gsa) THAT YtplibngmgebigaaProg.lean LOADS. Nothing in Lean hashes anything: it is a label: what it is worth is what the hold of that sum in a sandbox is worth. -/
noncomputable def Try.pinned : Pinned := { name := "ytplibngmgebigaa", sum := "b6a2eb8058a4283f25adb9cf172112938353b489cacf220e44239aa7b047431b", checked := Try.checked }
namespace Rows
def none {H : Type} : Left H := { results := [], args := [] }

/-- 'colonnadelaw06.PressNames': WHATEVER THE INPUT: true; the input reads as it did. -/
def pressNamesSpec : ChangeSpec := { name := "pressNames", fn := fun _ => fun
  | [] => { results := [.lit (.bool true)], args := [] }
  | _ => none }
def pressNamesRow : OpenClaim := { program := "ytplibngmgebigaa", sum := "b6a2eb8058a4283f25adb9cf172112938353b489cacf220e44239aa7b047431b", func := "colonnade/colonnadelaw06.PressNames", spec := "pressNames", unfollowed := true, recurses := true, plainKeys := false, apart := false }
def PressNamesSaid : Prop := pressNamesRow.holds Try.pinned (OpenSpec.ofChange pressNamesSpec)

/-- ITS FALSE NEIGHBOUR: 'it returns false'. Refute it at one input. -/
def pressNamesWrong : ChangeSpec := { name := "pressNames", fn := fun _ => fun
  | [] => { results := [.lit (.bool false)], args := [] }
  | _ => none }
def PressNamesWrongFalsely : Prop := pressNamesRow.holds Try.pinned (OpenSpec.ofChange pressNamesWrong)

/-- 'colonnadelaw06.PressPacks': WHATEVER THE INPUT: true; the input reads as it did. -/
def pressPacksSpec : ChangeSpec := { name := "pressPacks", fn := fun _ => fun
  | [d1, d2] => { results := [.lit (.bool true)], args := [d1, d2] }
  | _ => none }
def pressPacksRow : OpenClaim := { program := "ytplibngmgebigaa", sum := "b6a2eb8058a4283f25adb9cf172112938353b489cacf220e44239aa7b047431b", func := "colonnade/colonnadelaw06.PressPacks", spec := "pressPacks", unfollowed := true, recurses := true, plainKeys := false, apart := false }
def PressPacksSaid : Prop := pressPacksRow.holds Try.pinned (OpenSpec.ofChange pressPacksSpec)

/-- ITS FALSE NEIGHBOUR: 'it returns false'. Refute it at one input. -/
def pressPacksWrong : ChangeSpec := { name := "pressPacks", fn := fun _ => fun
  | [d1, d2] => { results := [.lit (.bool false)], args := [d1, d2] }
  | _ => none }
def PressPacksWrongFalsely : Prop := pressPacksRow.holds Try.pinned (OpenSpec.ofChange pressPacksWrong)

/-- 'colonnadelaw06.PressUnpacks': WHATEVER THE INPUT: true; the input reads as it did. -/
def pressUnpacksSpec : ChangeSpec := { name := "pressUnpacks", fn := fun _ => fun
  | [d] => { results := [.lit (.bool true)], args := [d] }
  | _ => none }
def pressUnpacksRow : OpenClaim := { program := "ytplibngmgebigaa", sum := "b6a2eb8058a4283f25adb9cf172112938353b489cacf220e44239aa7b047431b", func := "colonnade/colonnadelaw06.PressUnpacks", spec := "pressUnpacks", unfollowed := true, recurses := true, plainKeys := false, apart := false }
def PressUnpacksSaid : Prop := pressUnpacksRow.holds Try.pinned (OpenSpec.ofChange pressUnpacksSpec)

/-- ITS FALSE NEIGHBOUR: 'it returns false'. Refute it at one input. -/
def pressUnpacksWrong : ChangeSpec := { name := "pressUnpacks", fn := fun _ => fun
  | [d] => { results := [.lit (.bool false)], args := [d] }
  | _ => none }
def PressUnpacksWrongFalsely : Prop := pressUnpacksRow.holds Try.pinned (OpenSpec.ofChange pressUnpacksWrong)

/-- 'colonnadelaw06.PressSizes': WHATEVER THE INPUT: true; the input reads as it did. -/
def pressSizesSpec : ChangeSpec := { name := "pressSizes", fn := fun _ => fun
  | [d] => { results := [.lit (.bool true)], args := [d] }
  | _ => none }
def pressSizesRow : OpenClaim := { program := "ytplibngmgebigaa", sum := "b6a2eb8058a4283f25adb9cf172112938353b489cacf220e44239aa7b047431b", func := "colonnade/colonnadelaw06.PressSizes", spec := "pressSizes", unfollowed := true, recurses := true, plainKeys := false, apart := false }
def PressSizesSaid : Prop := pressSizesRow.holds Try.pinned (OpenSpec.ofChange pressSizesSpec)

/-- ITS FALSE NEIGHBOUR: 'it returns false'. Refute it at one input. -/
def pressSizesWrong : ChangeSpec := { name := "pressSizes", fn := fun _ => fun
  | [d] => { results := [.lit (.bool false)], args := [d] }
  | _ => none }
def PressSizesWrongFalsely : Prop := pressSizesRow.holds Try.pinned (OpenSpec.ofChange pressSizesWrong)

/-- 'colonnadelaw06.PressReturns': WHATEVER THE INPUT: true; the input reads as it did. -/
def pressReturnsSpec : ChangeSpec := { name := "pressReturns", fn := fun _ => fun
  | [d1, d2] => { results := [.lit (.bool true)], args := [d1, d2] }
  | _ => none }
def pressReturnsRow : OpenClaim := { program := "ytplibngmgebigaa", sum := "b6a2eb8058a4283f25adb9cf172112938353b489cacf220e44239aa7b047431b", func := "colonnade/colonnadelaw06.PressReturns", spec := "pressReturns", unfollowed := true, recurses := true, plainKeys := false, apart := false }
def PressReturnsSaid : Prop := pressReturnsRow.holds Try.pinned (OpenSpec.ofChange pressReturnsSpec)

/-- ITS FALSE NEIGHBOUR: 'it returns false'. Refute it at one input. -/
def pressReturnsWrong : ChangeSpec := { name := "pressReturns", fn := fun _ => fun
  | [d1, d2] => { results := [.lit (.bool false)], args := [d1, d2] }
  | _ => none }
def PressReturnsWrongFalsely : Prop := pressReturnsRow.holds Try.pinned (OpenSpec.ofChange pressReturnsWrong)

/-- 'colonnadelaw06.PressAgrees': WHATEVER THE INPUT: true; the input reads as it did. -/
def pressAgreesSpec : ChangeSpec := { name := "pressAgrees", fn := fun _ => fun
  | [d] => { results := [.lit (.bool true)], args := [d] }
  | _ => none }
def pressAgreesRow : OpenClaim := { program := "ytplibngmgebigaa", sum := "b6a2eb8058a4283f25adb9cf172112938353b489cacf220e44239aa7b047431b", func := "colonnade/colonnadelaw06.PressAgrees", spec := "pressAgrees", unfollowed := true, recurses := true, plainKeys := false, apart := false }
def PressAgreesSaid : Prop := pressAgreesRow.holds Try.pinned (OpenSpec.ofChange pressAgreesSpec)

/-- ITS FALSE NEIGHBOUR: 'it returns false'. Refute it at one input. -/
def pressAgreesWrong : ChangeSpec := { name := "pressAgrees", fn := fun _ => fun
  | [d] => { results := [.lit (.bool false)], args := [d] }
  | _ => none }
def PressAgreesWrongFalsely : Prop := pressAgreesRow.holds Try.pinned (OpenSpec.ofChange pressAgreesWrong)

/-- 'colonnadelaw06.PressCuts': WHATEVER THE INPUT: true; the input reads as it did. -/
def pressCutsSpec : ChangeSpec := { name := "pressCuts", fn := fun _ => fun
  | [d1, d2, d3] => { results := [.lit (.bool true)], args := [d1, d2, d3] }
  | _ => none }
def pressCutsRow : OpenClaim := { program := "ytplibngmgebigaa", sum := "b6a2eb8058a4283f25adb9cf172112938353b489cacf220e44239aa7b047431b", func := "colonnade/colonnadelaw06.PressCuts", spec := "pressCuts", unfollowed := true, recurses := true, plainKeys := false, apart := false }
def PressCutsSaid : Prop := pressCutsRow.holds Try.pinned (OpenSpec.ofChange pressCutsSpec)

/-- ITS FALSE NEIGHBOUR: 'it returns false'. Refute it at one input. -/
def pressCutsWrong : ChangeSpec := { name := "pressCuts", fn := fun _ => fun
  | [d1, d2, d3] => { results := [.lit (.bool false)], args := [d1, d2, d3] }
  | _ => none }
def PressCutsWrongFalsely : Prop := pressCutsRow.holds Try.pinned (OpenSpec.ofChange pressCutsWrong)

/-- 'colonnadelaw06.PressKeeps': WHATEVER THE INPUT: true; the input reads as it did. -/
def pressKeepsSpec : ChangeSpec := { name := "pressKeeps", fn := fun _ => fun
  | [d1, d2] => { results := [.lit (.bool true)], args := [d1, d2] }
  | _ => none }
def pressKeepsRow : OpenClaim := { program := "ytplibngmgebigaa", sum := "b6a2eb8058a4283f25adb9cf172112938353b489cacf220e44239aa7b047431b", func := "colonnade/colonnadelaw06.PressKeeps", spec := "pressKeeps", unfollowed := true, recurses := true, plainKeys := false, apart := false }
def PressKeepsSaid : Prop := pressKeepsRow.holds Try.pinned (OpenSpec.ofChange pressKeepsSpec)

/-- ITS FALSE NEIGHBOUR: 'it returns false'. Refute it at one input. -/
def pressKeepsWrong : ChangeSpec := { name := "pressKeeps", fn := fun _ => fun
  | [d1, d2] => { results := [.lit (.bool false)], args := [d1, d2] }
  | _ => none }
def PressKeepsWrongFalsely : Prop := pressKeepsRow.holds Try.pinned (OpenSpec.ofChange pressKeepsWrong)

/- THE SECOND FORM. 'bulk': how many values and letters a reading holds, each counted each time it is reached (what is shared counts as often as it is met; a slice's spare places count too). A statement '..UptoSaid' is the law's where the arguments, and the package variables that the reading takes, are together of bulk at most 1048576: NARROWER than '..Said'. Prove '..Said' where nothing that the law and all that it calls make is longer than what came in: it says more and counts as full. Else prove '..UptoSaid'. A law counts once. -/
mutual
def uptoBulk {H : Type} : DataW H → Nat
  | .lit (.string bytes) => bytes.length + 1
  | .lit _ => 1
  | .nil => 1
  | .ptr d => uptoBulk d + 1
  | .slice elems spare => uptoBulkAll elems + uptoBulkAll spare + 1
  | .agg parts => uptoBulkAll parts + 1
  | .iface _ d => uptoBulk d + 1
  | .map entries => uptoBulkEntries entries + 1
  | .held _ => 1
def uptoBulkAll {H : Type} : List (DataW H) → Nat
  | [] => 0
  | d :: r => uptoBulk d + uptoBulkAll r
def uptoBulkEntries {H : Type} : List (Lit × DataW H) → Nat
  | [] => 0
  | x :: r => uptoBulkEntry x + uptoBulkEntries r
def uptoBulkEntry {H : Type} : Lit × DataW H → Nat
  | (.string bytes, d) => bytes.length + uptoBulk d + 1
  | (_, d) => uptoBulk d + 1
 end
def uptoSmall : (H : Type) → List (DataW H) → Bool := fun _ ds => decide (uptoBulkAll ds ≤ 1048576)
def OpenSpec.upto (s : _root_.Go.ChangeSpec) : _root_.Go.OpenSpec := { _root_.Go.OpenSpec.ofChange s with cond := some uptoSmall }

/-- 'colonnadelaw06.PressNames', WHERE WHAT IT READS IS OF BULK AT MOST 1048576: true; the input reads as it did. -/
def pressNamesUptoRow : OpenClaim := { program := "ytplibngmgebigaa", sum := "b6a2eb8058a4283f25adb9cf172112938353b489cacf220e44239aa7b047431b", func := "colonnade/colonnadelaw06.PressNames", spec := "pressNames", unfollowed := true, recurses := true, plainKeys := false, apart := false, narrowed := true }
def PressNamesUptoSaid : Prop := pressNamesUptoRow.holds Try.pinned (OpenSpec.upto pressNamesSpec)

/-- 'colonnadelaw06.PressPacks', WHERE WHAT IT READS IS OF BULK AT MOST 1048576: true; the input reads as it did. -/
def pressPacksUptoRow : OpenClaim := { program := "ytplibngmgebigaa", sum := "b6a2eb8058a4283f25adb9cf172112938353b489cacf220e44239aa7b047431b", func := "colonnade/colonnadelaw06.PressPacks", spec := "pressPacks", unfollowed := true, recurses := true, plainKeys := false, apart := false, narrowed := true }
def PressPacksUptoSaid : Prop := pressPacksUptoRow.holds Try.pinned (OpenSpec.upto pressPacksSpec)

/-- 'colonnadelaw06.PressUnpacks', WHERE WHAT IT READS IS OF BULK AT MOST 1048576: true; the input reads as it did. -/
def pressUnpacksUptoRow : OpenClaim := { program := "ytplibngmgebigaa", sum := "b6a2eb8058a4283f25adb9cf172112938353b489cacf220e44239aa7b047431b", func := "colonnade/colonnadelaw06.PressUnpacks", spec := "pressUnpacks", unfollowed := true, recurses := true, plainKeys := false, apart := false, narrowed := true }
def PressUnpacksUptoSaid : Prop := pressUnpacksUptoRow.holds Try.pinned (OpenSpec.upto pressUnpacksSpec)

/-- 'colonnadelaw06.PressSizes', WHERE WHAT IT READS IS OF BULK AT MOST 1048576: true; the input reads as it did. -/
def pressSizesUptoRow : OpenClaim := { program := "ytplibngmgebigaa", sum := "b6a2eb8058a4283f25adb9cf172112938353b489cacf220e44239aa7b047431b", func := "colonnade/colonnadelaw06.PressSizes", spec := "pressSizes", unfollowed := true, recurses := true, plainKeys := false, apart := false, narrowed := true }
def PressSizesUptoSaid : Prop := pressSizesUptoRow.holds Try.pinned (OpenSpec.upto pressSizesSpec)

/-- 'colonnadelaw06.PressReturns', WHERE WHAT IT READS IS OF BULK AT MOST 1048576: true; the input reads as it did. -/
def pressReturnsUptoRow : OpenClaim := { program := "ytplibngmgebigaa", sum := "b6a2eb8058a4283f25adb9cf172112938353b489cacf220e44239aa7b047431b", func := "colonnade/colonnadelaw06.PressReturns", spec := "pressReturns", unfollowed := true, recurses := true, plainKeys := false, apart := false, narrowed := true }
def PressReturnsUptoSaid : Prop := pressReturnsUptoRow.holds Try.pinned (OpenSpec.upto pressReturnsSpec)

/-- 'colonnadelaw06.PressAgrees', WHERE WHAT IT READS IS OF BULK AT MOST 1048576: true; the input reads as it did. -/
def pressAgreesUptoRow : OpenClaim := { program := "ytplibngmgebigaa", sum := "b6a2eb8058a4283f25adb9cf172112938353b489cacf220e44239aa7b047431b", func := "colonnade/colonnadelaw06.PressAgrees", spec := "pressAgrees", unfollowed := true, recurses := true, plainKeys := false, apart := false, narrowed := true }
def PressAgreesUptoSaid : Prop := pressAgreesUptoRow.holds Try.pinned (OpenSpec.upto pressAgreesSpec)

/-- 'colonnadelaw06.PressCuts', WHERE WHAT IT READS IS OF BULK AT MOST 1048576: true; the input reads as it did. -/
def pressCutsUptoRow : OpenClaim := { program := "ytplibngmgebigaa", sum := "b6a2eb8058a4283f25adb9cf172112938353b489cacf220e44239aa7b047431b", func := "colonnade/colonnadelaw06.PressCuts", spec := "pressCuts", unfollowed := true, recurses := true, plainKeys := false, apart := false, narrowed := true }
def PressCutsUptoSaid : Prop := pressCutsUptoRow.holds Try.pinned (OpenSpec.upto pressCutsSpec)

/-- 'colonnadelaw06.PressKeeps', WHERE WHAT IT READS IS OF BULK AT MOST 1048576: true; the input reads as it did. -/
def pressKeepsUptoRow : OpenClaim := { program := "ytplibngmgebigaa", sum := "b6a2eb8058a4283f25adb9cf172112938353b489cacf220e44239aa7b047431b", func := "colonnade/colonnadelaw06.PressKeeps", spec := "pressKeeps", unfollowed := true, recurses := true, plainKeys := false, apart := false, narrowed := true }
def PressKeepsUptoSaid : Prop := pressKeepsUptoRow.holds Try.pinned (OpenSpec.upto pressKeepsSpec)

end Rows
end Go.Proofs.Ytplibngmgebigaa
