/- YtecephhhjhpcjaaGreatDoorMa: the texts Sca, brought together. No conditions. -/
import Derived.Test.YtecephhhjhpcjaaGreatDoorX22
import Derived.Test.YtecephhhjhpcjaaGreatDoorProg
import Derived.KernelRfl
section
set_option linter.unusedVariables false
namespace Go.Proofs.YtecephhhjhpcjaaGreatDoor.Stats
open Go Go.Proofs.YtecephhhjhpcjaaGreatDoor Go.Proofs.YtecephhhjhpcjaaGreatDoor.Em
/-- what the program's variables hold -/
def gs : List (List EV) := [[], [.lit (.string ⟨#[]⟩), .lit (.int .i64 0), .lit (.int .i64 0), .lit (.bool false), .lit (.string ⟨#[110, 117, 108, 108]⟩), .lit (.int .i64 0), .lit (.int .i64 0), .lit (.bool false), .lit (.string ⟨#[98, 111, 111, 108]⟩), .lit (.int .i64 0), .lit (.int .i64 2), .lit (.bool false), .lit (.string ⟨#[105, 110, 116, 56]⟩), .lit (.int .i64 1), .lit (.int .i64 2), .lit (.bool true), .lit (.string ⟨#[105, 110, 116, 49, 54]⟩), .lit (.int .i64 2), .lit (.int .i64 2), .lit (.bool true), .lit (.string ⟨#[105, 110, 116, 51, 50]⟩), .lit (.int .i64 4), .lit (.int .i64 2), .lit (.bool true), .lit (.string ⟨#[105, 110, 116, 54, 52]⟩), .lit (.int .i64 8), .lit (.int .i64 2), .lit (.bool true), .lit (.string ⟨#[117, 105, 110, 116, 56]⟩), .lit (.int .i64 1), .lit (.int .i64 2), .lit (.bool true), .lit (.string ⟨#[117, 105, 110, 116, 49, 54]⟩), .lit (.int .i64 2), .lit (.int .i64 2), .lit (.bool true), .lit (.string ⟨#[117, 105, 110, 116, 51, 50]⟩), .lit (.int .i64 4), .lit (.int .i64 2), .lit (.bool true), .lit (.string ⟨#[117, 105, 110, 116, 54, 52]⟩), .lit (.int .i64 8), .lit (.int .i64 2), .lit (.bool true), .lit (.string ⟨#[102, 108, 111, 97, 116, 54, 52]⟩), .lit (.int .i64 8), .lit (.int .i64 2), .lit (.bool false), .lit (.string ⟨#[116, 101, 120, 116]⟩), .lit (.int .i64 0), .lit (.int .i64 3), .lit (.bool false), .lit (.string ⟨#[98, 121, 116, 101, 115]⟩), .lit (.int .i64 0), .lit (.int .i64 3), .lit (.bool false), .lit (.string ⟨#[102, 105, 120, 101, 100]⟩), .lit (.int .i64 0), .lit (.int .i64 2), .lit (.bool false), .lit (.string ⟨#[108, 105, 115, 116]⟩), .lit (.int .i64 0), .lit (.int .i64 2), .lit (.bool false), .lit (.string ⟨#[115, 112, 97, 110]⟩), .lit (.int .i64 0), .lit (.int .i64 1), .lit (.bool false), .lit (.string ⟨#[115, 116, 114, 117, 99, 116]⟩), .lit (.int .i64 0), .lit (.int .i64 1), .lit (.bool false), .lit (.string ⟨#[99, 104, 111, 105, 99, 101]⟩), .lit (.int .i64 0), .lit (.int .i64 2), .lit (.bool false), .lit (.string ⟨#[100, 105, 99, 116]⟩), .lit (.int .i64 0), .lit (.int .i64 2), .lit (.bool false), .lit (.string ⟨#[114, 117, 110, 115]⟩), .lit (.int .i64 0), .lit (.int .i64 0), .lit (.bool false)], [], [.lit (.int .u8 128), .lit (.int .u8 191), .lit (.int .u8 160), .lit (.int .u8 191), .lit (.int .u8 128), .lit (.int .u8 159), .lit (.int .u8 144), .lit (.int .u8 191), .lit (.int .u8 128), .lit (.int .u8 143), .lit (.int .u8 0), .lit (.int .u8 0), .lit (.int .u8 0), .lit (.int .u8 0), .lit (.int .u8 0), .lit (.int .u8 0), .lit (.int .u8 0), .lit (.int .u8 0), .lit (.int .u8 0), .lit (.int .u8 0), .lit (.int .u8 0), .lit (.int .u8 0), .lit (.int .u8 0), .lit (.int .u8 0), .lit (.int .u8 0), .lit (.int .u8 0), .lit (.int .u8 0), .lit (.int .u8 0), .lit (.int .u8 0), .lit (.int .u8 0), .lit (.int .u8 0), .lit (.int .u8 0)]]
abbrev o (n : Nat) (i : EI) : EOp := ⟨some n, i, none⟩
abbrev q (n : Nat) : Operand := .tmp n
/-- colonnade/colonnadelaw23.StatsMerges -/
def F3 : FC := ⟨36, [.tmp 6],
  (.seq (.ops [o 3 (.box (q 0)), o 4 (.box (q 1)), o 5 (.box (q 2)), o 6 (.mov (.const (.bool false)))])
  (.seq (.ops [o 12 (.load true 7 (q 3)), o 13 (.load true 11 (q 4)), o 14 (.load true 11 (q 5)), o 15 (.call 6 [.tmp 12, .tmp 13, .tmp 14]), o 11 (.mov (q 15)), o 16 (.extract (q 11) 0), o 17 (.extract (q 11) 1), o 7 (.alloc [(.int .i64 0), (.int .i64 0), (.bool false), (.bool false), (.int .i64 0), (.string ⟨#[]⟩), (.slice none 0 0), (.bool false), (.int .i64 0), (.string ⟨#[]⟩), (.slice none 0 0)]), ⟨none, .store 11 (q 7) (q 16), none⟩, o 8 (.mov (q 17))])
  (.seq (.ops [o 19 (.load true 7 (q 3)), o 20 (.load true 11 (q 4)), o 21 (.load true 11 (q 5)), o 22 (.call 7 [.tmp 19, .tmp 20, .tmp 21]), o 18 (.mov (q 22)), o 23 (.extract (q 18) 0), o 24 (.extract (q 18) 1), o 9 (.alloc [(.int .i64 0), (.int .i64 0), (.bool false), (.bool false), (.int .i64 0), (.string ⟨#[]⟩), (.slice none 0 0), (.bool false), (.int .i64 0), (.string ⟨#[]⟩), (.slice none 0 0)]), ⟨none, .store 11 (q 9) (q 23), none⟩, o 10 (.mov (q 24))])
  (.seq (.ops [o 25 (.mov (q 8)), o 26 (.mov (q 10)), o 27 (.bin .eql (q 25) (q 26) (some (.int .i64))), o 28 (.mov (q 27)), ⟨some 29, .load true 11 (q 7), some (28, true)⟩, ⟨some 30, .load true 11 (q 9), some (28, true)⟩, ⟨some 31, .call 8 [.tmp 29, .tmp 30], some (28, true)⟩, o 32 (.pick (q 28) (q 31) (.const (.bool false))), o 33 (.mov (q 32)), ⟨some 34, .call 9 [], some (33, true)⟩, o 35 (.pick (q 33) (q 34) (.const (.bool false))), o 6 (.mov (q 35))])
  .ret))))⟩
theorem F3_ok : compF Tryz.prog 3 = some F3 := by kernel_rfl
/-- colonnade/stats.Merge -/
def F6 : FC := ⟨118, [.cell 6 true 11, .tmp 7],
  (.seq (.ops [o 3 (.box (q 0)), o 4 (.box (q 1)), o 5 (.box (q 2)), o 6 (.alloc [(.int .i64 0), (.int .i64 0), (.bool false), (.bool false), (.int .i64 0), (.string ⟨#[]⟩), (.slice none 0 0), (.bool false), (.int .i64 0), (.string ⟨#[]⟩), (.slice none 0 0)]), o 7 (.mov (.const (.int .i64 0)))])
  (.seq (.block 0 (.seq (.ops [o 11 (.load true 7 (q 3)), o 12 (.call 15 [.tmp 11]), o 13 (.field false 0 1 (q 12)), o 14 (.bin .neq (q 13) (.const (.int .i64 0)) (some (.int .i64))), o 10 (.mov (q 14))])
  (.cond (q 10)
  (.seq (.ops [o 15 (.build [(.int .i64 0), (.int .i64 0), (.bool false), (.bool false), (.int .i64 0), (.string ⟨#[]⟩), (.slice none 0 0), (.bool false), (.int .i64 0), (.string ⟨#[]⟩), (.slice none 0 0)] []), ⟨none, .store 11 (q 6) (q 15), none⟩, o 7 (.mov (.const (.int .i64 5)))])
  .ret)
  (.seq (.ops [o 17 (.load true 7 (q 3)), o 18 (.load true 11 (q 4)), o 19 (.call 16 [.tmp 17, .tmp 18]), o 20 (.un .not (q 19)), o 21 (.mov (q 20)), ⟨some 22, .load true 7 (q 3), some (21, false)⟩, ⟨some 23, .load true 11 (q 5), some (21, false)⟩, ⟨some 24, .call 16 [.tmp 22, .tmp 23], some (21, false)⟩, ⟨some 25, .un .not (q 24), some (21, false)⟩, o 26 (.pick (q 21) (.const (.bool true)) (q 25)), o 16 (.mov (q 26))])
  (.cond (q 16)
  (.seq (.ops [o 27 (.build [(.int .i64 0), (.int .i64 0), (.bool false), (.bool false), (.int .i64 0), (.string ⟨#[]⟩), (.slice none 0 0), (.bool false), (.int .i64 0), (.string ⟨#[]⟩), (.slice none 0 0)] []), ⟨none, .store 11 (q 6) (q 27), none⟩, o 7 (.mov (.const (.int .i64 7)))])
  .ret)
  (.seq (.ops [o 29 (.fieldAddr 0 (q 4)), o 30 (.load false 1 (q 29)), o 31 (.fieldAddr 0 (q 5)), o 32 (.load false 1 (q 31)), o 33 (.bin .add (q 30) (q 32) (some (.int .i64))), o 34 (.bin .gtr (q 33) (.const (.int .i64 1048576)) (some (.int .i64))), o 28 (.mov (q 34))])
  (.cond (q 28)
  (.seq (.ops [o 35 (.build [(.int .i64 0), (.int .i64 0), (.bool false), (.bool false), (.int .i64 0), (.string ⟨#[]⟩), (.slice none 0 0), (.bool false), (.int .i64 0), (.string ⟨#[]⟩), (.slice none 0 0)] []), ⟨none, .store 11 (q 6) (q 35), none⟩, o 7 (.mov (.const (.int .i64 3)))])
  .ret)
  .skip)))))))
  (.seq (.ops [o 36 (.fieldAddr 0 (q 4)), o 37 (.load false 1 (q 36)), o 38 (.fieldAddr 0 (q 5)), o 39 (.load false 1 (q 38)), o 40 (.bin .add (q 37) (q 39) (some (.int .i64))), o 41 (.fieldAddr 1 (q 4)), o 42 (.load false 1 (q 41)), o 43 (.fieldAddr 1 (q 5)), o 44 (.load false 1 (q 43)), o 45 (.bin .add (q 42) (q 44) (some (.int .i64))), o 46 (.build [(.int .i64 0), (.int .i64 0), (.bool false), (.bool false), (.int .i64 0), (.string ⟨#[]⟩), (.slice none 0 0), (.bool false), (.int .i64 0), (.string ⟨#[]⟩), (.slice none 0 0)] [(0, 1, (q 40)), (1, 1, (q 45))]), o 8 (.alloc [(.int .i64 0), (.int .i64 0), (.bool false), (.bool false), (.int .i64 0), (.string ⟨#[]⟩), (.slice none 0 0), (.bool false), (.int .i64 0), (.string ⟨#[]⟩), (.slice none 0 0)]), ⟨none, .store 11 (q 8) (q 46), none⟩])
  (.seq (.ops [o 47 (.load true 7 (q 3)), o 48 (.call 17 [.tmp 47]), o 9 (.alloc [(.string ⟨#[]⟩), (.bool false), (.int .i64 0), (.int .i64 0), (.int .i64 0), (.int .i64 0), (.slice none 0 0)]), ⟨none, .store 7 (q 9) (q 48), none⟩])
  (.seq (.block 1 (.seq (.ops [o 50 (.fieldAddr 1 (q 4)), o 51 (.load false 1 (q 50)), o 52 (.fieldAddr 0 (q 4)), o 53 (.load false 1 (q 52)), o 54 (.bin .eql (q 51) (q 53) (some (.int .i64))), o 49 (.mov (q 54))])
  (.cond (q 49)
  (.ops [o 55 (.fieldAddr 2 (q 5)), o 56 (.load false 1 (q 55)), o 57 (.fieldAddr 3 (q 5)), o 58 (.load true 4 (q 57)), o 59 (.fieldAddr 7 (q 5)), o 60 (.load true 4 (q 59)), o 61 (.fieldAddr 2 (q 8)), ⟨none, .store 1 (q 61) (q 56), none⟩, ⟨none, .again 60 true 4 (q 59), none⟩, ⟨none, .again 58 true 4 (q 57), none⟩, o 62 (.fieldAddr 3 (q 8)), ⟨none, .store 4 (q 62) (q 58), none⟩, ⟨none, .again 60 true 4 (q 59), none⟩, o 63 (.fieldAddr 7 (q 8)), ⟨none, .store 4 (q 63) (q 60), none⟩])
  (.seq (.ops [o 65 (.fieldAddr 1 (q 5)), o 66 (.load false 1 (q 65)), o 67 (.fieldAddr 0 (q 5)), o 68 (.load false 1 (q 67)), o 69 (.bin .eql (q 66) (q 68) (some (.int .i64))), o 64 (.mov (q 69))])
  (.cond (q 64)
  (.ops [o 70 (.fieldAddr 2 (q 4)), o 71 (.load false 1 (q 70)), o 72 (.fieldAddr 3 (q 4)), o 73 (.load true 4 (q 72)), o 74 (.fieldAddr 7 (q 4)), o 75 (.load true 4 (q 74)), o 76 (.fieldAddr 2 (q 8)), ⟨none, .store 1 (q 76) (q 71), none⟩, ⟨none, .again 75 true 4 (q 74), none⟩, ⟨none, .again 73 true 4 (q 72), none⟩, o 77 (.fieldAddr 3 (q 8)), ⟨none, .store 4 (q 77) (q 73), none⟩, ⟨none, .again 75 true 4 (q 74), none⟩, o 78 (.fieldAddr 7 (q 8)), ⟨none, .store 4 (q 78) (q 75), none⟩])
  (.seq (.ops [o 80 (.fieldAddr 2 (q 4)), o 81 (.load false 1 (q 80)), o 82 (.mov (q 81)), ⟨some 83, .fieldAddr 2 (q 5), some (82, true)⟩, ⟨some 84, .load false 1 (q 83), some (82, true)⟩, o 85 (.pick (q 82) (q 84) (.const (.bool false))), o 79 (.mov (q 85))])
  (.cond (q 79)
  (.seq (.ops [o 86 (.fieldAddr 3 (q 4)), o 87 (.load true 4 (q 86)), o 88 (.fieldAddr 7 (q 4)), o 89 (.load true 4 (q 88)), o 90 (.fieldAddr 2 (q 8)), ⟨none, .store 1 (q 90) (.const (.bool true)), none⟩, ⟨none, .again 89 true 4 (q 88), none⟩, ⟨none, .again 87 true 4 (q 86), none⟩, o 91 (.fieldAddr 3 (q 8)), ⟨none, .store 4 (q 91) (q 87), none⟩, ⟨none, .again 89 true 4 (q 88), none⟩, o 92 (.fieldAddr 7 (q 8)), ⟨none, .store 4 (q 92) (q 89), none⟩])
  (.seq (.seq (.ops [o 93 (.load true 7 (q 9)), o 94 (.fieldAddr 3 (q 5)), o 95 (.load true 4 (q 94)), o 96 (.fieldAddr 3 (q 8)), o 97 (.load true 4 (q 96)), o 98 (.call 18 [.tmp 93, .tmp 95, .tmp 97]), o 99 (.bin .lss (q 98) (.const (.int .i64 0)) (some (.int .i64)))])
  (.cond (q 99)
  (.ops [o 100 (.fieldAddr 3 (q 5)), o 101 (.load true 4 (q 100)), o 102 (.fieldAddr 3 (q 8)), ⟨none, .store 4 (q 102) (q 101), none⟩])
  .skip))
  (.seq (.ops [o 103 (.load true 7 (q 9)), o 104 (.fieldAddr 7 (q 5)), o 105 (.load true 4 (q 104)), o 106 (.fieldAddr 7 (q 8)), o 107 (.load true 4 (q 106)), o 108 (.call 18 [.tmp 103, .tmp 105, .tmp 107]), o 109 (.bin .gtr (q 108) (.const (.int .i64 0)) (some (.int .i64)))])
  (.cond (q 109)
  (.ops [o 110 (.fieldAddr 7 (q 5)), o 111 (.load true 4 (q 110)), o 112 (.fieldAddr 7 (q 8)), ⟨none, .store 4 (q 112) (q 111), none⟩])
  .skip))))
  .skip)))))))
  (.seq (.ops [o 113 (.fieldAddr 3 (q 8)), o 114 (.fieldAddr 3 (q 113)), ⟨none, .store 1 (q 114) (.const (.slice none 0 0)), none⟩, o 115 (.fieldAddr 7 (q 8)), o 116 (.fieldAddr 3 (q 115)), ⟨none, .store 1 (q 116) (.const (.slice none 0 0)), none⟩])
  (.seq (.ops [o 117 (.load true 11 (q 8)), ⟨none, .store 11 (q 6) (q 117), none⟩, o 7 (.mov (.const (.int .i64 0)))])
  .ret)))))))⟩
theorem F6_ok : compF Tryz.prog 6 = some F6 := by kernel_rfl
/-- colonnade/colonnaderef23.Merge -/
def F7 : FC := ⟨113, [.cell 6 true 11, .tmp 7],
  (.seq (.ops [o 3 (.box (q 0)), o 4 (.box (q 1)), o 5 (.box (q 2)), o 6 (.alloc [(.int .i64 0), (.int .i64 0), (.bool false), (.bool false), (.int .i64 0), (.string ⟨#[]⟩), (.slice none 0 0), (.bool false), (.int .i64 0), (.string ⟨#[]⟩), (.slice none 0 0)]), o 7 (.mov (.const (.int .i64 0)))])
  (.seq (.ops [o 13 (.load true 7 (q 3)), o 14 (.call 19 [.tmp 13]), o 8 (.mov (q 14))])
  (.seq (.seq (.ops [o 15 (.mov (q 8)), o 16 (.un .not (q 15))])
  (.cond (q 16)
  (.seq (.ops [o 17 (.build [(.int .i64 0), (.int .i64 0), (.bool false), (.bool false), (.int .i64 0), (.string ⟨#[]⟩), (.slice none 0 0), (.bool false), (.int .i64 0), (.string ⟨#[]⟩), (.slice none 0 0)] []), ⟨none, .store 11 (q 6) (q 17), none⟩, o 7 (.mov (.const (.int .i64 5)))])
  .ret)
  .skip))
  (.seq (.ops [o 18 (.load true 7 (q 3)), o 19 (.load true 11 (q 4)), o 20 (.call 20 [.tmp 18, .tmp 19]), o 9 (.mov (q 20))])
  (.seq (.ops [o 21 (.load true 7 (q 3)), o 22 (.load true 11 (q 5)), o 23 (.call 20 [.tmp 21, .tmp 22]), o 10 (.mov (q 23))])
  (.seq (.seq (.ops [o 24 (.mov (q 9)), o 25 (.un .not (q 24)), o 26 (.mov (q 25)), ⟨some 27, .mov (q 10), some (26, false)⟩, ⟨some 28, .un .not (q 27), some (26, false)⟩, o 29 (.pick (q 26) (.const (.bool true)) (q 28))])
  (.cond (q 29)
  (.seq (.ops [o 30 (.build [(.int .i64 0), (.int .i64 0), (.bool false), (.bool false), (.int .i64 0), (.string ⟨#[]⟩), (.slice none 0 0), (.bool false), (.int .i64 0), (.string ⟨#[]⟩), (.slice none 0 0)] []), ⟨none, .store 11 (q 6) (q 30), none⟩, o 7 (.mov (.const (.int .i64 7)))])
  .ret)
  .skip))
  (.seq (.ops [o 31 (.fieldAddr 0 (q 4)), o 32 (.load false 1 (q 31)), o 33 (.fieldAddr 0 (q 5)), o 34 (.load false 1 (q 33)), o 35 (.bin .add (q 32) (q 34) (some (.int .i64))), o 36 (.fieldAddr 1 (q 4)), o 37 (.load false 1 (q 36)), o 38 (.fieldAddr 1 (q 5)), o 39 (.load false 1 (q 38)), o 40 (.bin .add (q 37) (q 39) (some (.int .i64))), o 41 (.build [(.int .i64 0), (.int .i64 0), (.bool false), (.bool false), (.int .i64 0), (.string ⟨#[]⟩), (.slice none 0 0), (.bool false), (.int .i64 0), (.string ⟨#[]⟩), (.slice none 0 0)] [(0, 1, (q 35)), (1, 1, (q 40))]), o 11 (.alloc [(.int .i64 0), (.int .i64 0), (.bool false), (.bool false), (.int .i64 0), (.string ⟨#[]⟩), (.slice none 0 0), (.bool false), (.int .i64 0), (.string ⟨#[]⟩), (.slice none 0 0)]), ⟨none, .store 11 (q 11) (q 41), none⟩])
  (.seq (.seq (.ops [o 42 (.fieldAddr 0 (q 11)), o 43 (.load false 1 (q 42)), o 44 (.bin .gtr (q 43) (.const (.int .i64 1048576)) (some (.int .i64)))])
  (.cond (q 44)
  (.seq (.ops [o 45 (.build [(.int .i64 0), (.int .i64 0), (.bool false), (.bool false), (.int .i64 0), (.string ⟨#[]⟩), (.slice none 0 0), (.bool false), (.int .i64 0), (.string ⟨#[]⟩), (.slice none 0 0)] []), ⟨none, .store 11 (q 6) (q 45), none⟩, o 7 (.mov (.const (.int .i64 3)))])
  .ret)
  .skip))
  (.seq (.block 0 (.seq (.ops [o 47 (.fieldAddr 1 (q 4)), o 48 (.load false 1 (q 47)), o 49 (.fieldAddr 0 (q 4)), o 50 (.load false 1 (q 49)), o 51 (.bin .eql (q 48) (q 50) (some (.int .i64))), o 46 (.mov (q 51))])
  (.cond (q 46)
  (.ops [o 52 (.fieldAddr 2 (q 5)), o 53 (.load false 1 (q 52)), o 54 (.fieldAddr 3 (q 5)), o 55 (.load true 4 (q 54)), o 56 (.fieldAddr 7 (q 5)), o 57 (.load true 4 (q 56)), o 58 (.fieldAddr 2 (q 11)), ⟨none, .store 1 (q 58) (q 53), none⟩, ⟨none, .again 57 true 4 (q 56), none⟩, ⟨none, .again 55 true 4 (q 54), none⟩, o 59 (.fieldAddr 3 (q 11)), ⟨none, .store 4 (q 59) (q 55), none⟩, ⟨none, .again 57 true 4 (q 56), none⟩, o 60 (.fieldAddr 7 (q 11)), ⟨none, .store 4 (q 60) (q 57), none⟩])
  (.seq (.ops [o 62 (.fieldAddr 1 (q 5)), o 63 (.load false 1 (q 62)), o 64 (.fieldAddr 0 (q 5)), o 65 (.load false 1 (q 64)), o 66 (.bin .eql (q 63) (q 65) (some (.int .i64))), o 61 (.mov (q 66))])
  (.cond (q 61)
  (.ops [o 67 (.fieldAddr 2 (q 4)), o 68 (.load false 1 (q 67)), o 69 (.fieldAddr 3 (q 4)), o 70 (.load true 4 (q 69)), o 71 (.fieldAddr 7 (q 4)), o 72 (.load true 4 (q 71)), o 73 (.fieldAddr 2 (q 11)), ⟨none, .store 1 (q 73) (q 68), none⟩, ⟨none, .again 72 true 4 (q 71), none⟩, ⟨none, .again 70 true 4 (q 69), none⟩, o 74 (.fieldAddr 3 (q 11)), ⟨none, .store 4 (q 74) (q 70), none⟩, ⟨none, .again 72 true 4 (q 71), none⟩, o 75 (.fieldAddr 7 (q 11)), ⟨none, .store 4 (q 75) (q 72), none⟩])
  (.seq (.ops [o 77 (.fieldAddr 2 (q 4)), o 78 (.load false 1 (q 77)), o 79 (.mov (q 78)), ⟨some 80, .fieldAddr 2 (q 5), some (79, true)⟩, ⟨some 81, .load false 1 (q 80), some (79, true)⟩, o 82 (.pick (q 79) (q 81) (.const (.bool false))), o 76 (.mov (q 82))])
  (.cond (q 76)
  (.seq (.ops [o 83 (.load true 7 (q 3)), o 84 (.call 21 [.tmp 83]), o 12 (.mov (q 84))])
  (.seq (.ops [o 85 (.fieldAddr 2 (q 11)), ⟨none, .store 1 (q 85) (.const (.bool true)), none⟩])
  (.seq (.ops [o 86 (.fieldAddr 3 (q 4)), o 87 (.load true 4 (q 86)), o 88 (.fieldAddr 3 (q 11)), ⟨none, .store 4 (q 88) (q 87), none⟩])
  (.seq (.seq (.ops [o 89 (.mov (q 12)), o 90 (.fieldAddr 3 (q 5)), o 91 (.load true 4 (q 90)), o 92 (.fieldAddr 3 (q 4)), o 93 (.load true 4 (q 92)), o 94 (.call 22 [.tmp 89, .tmp 91, .tmp 93]), o 95 (.bin .lss (q 94) (.const (.int .i64 0)) (some (.int .i64)))])
  (.cond (q 95)
  (.ops [o 96 (.fieldAddr 3 (q 5)), o 97 (.load true 4 (q 96)), o 98 (.fieldAddr 3 (q 11)), ⟨none, .store 4 (q 98) (q 97), none⟩])
  .skip))
  (.seq (.ops [o 99 (.fieldAddr 7 (q 4)), o 100 (.load true 4 (q 99)), o 101 (.fieldAddr 7 (q 11)), ⟨none, .store 4 (q 101) (q 100), none⟩])
  (.seq (.ops [o 102 (.mov (q 12)), o 103 (.fieldAddr 7 (q 5)), o 104 (.load true 4 (q 103)), o 105 (.fieldAddr 7 (q 4)), o 106 (.load true 4 (q 105)), o 107 (.call 22 [.tmp 102, .tmp 104, .tmp 106]), o 108 (.bin .gtr (q 107) (.const (.int .i64 0)) (some (.int .i64)))])
  (.cond (q 108)
  (.ops [o 109 (.fieldAddr 7 (q 5)), o 110 (.load true 4 (q 109)), o 111 (.fieldAddr 7 (q 11)), ⟨none, .store 4 (q 111) (q 110), none⟩])
  .skip)))))))
  .skip)))))))
  (.seq (.ops [o 112 (.load true 11 (q 11)), ⟨none, .store 11 (q 6) (q 112), none⟩, o 7 (.mov (.const (.int .i64 0)))])
  .ret))))))))))⟩
theorem F7_ok : compF Tryz.prog 7 = some F7 := by kernel_rfl
/-- colonnade/colonnadelaw23.same -/
def F8 : FC := ⟨38, [.tmp 4],
  (.seq (.ops [o 2 (.box (q 0)), o 3 (.box (q 1)), o 4 (.mov (.const (.bool false)))])
  (.seq (.ops [o 5 (.fieldAddr 0 (q 2)), o 6 (.load false 1 (q 5)), o 7 (.fieldAddr 0 (q 3)), o 8 (.load false 1 (q 7)), o 9 (.bin .eql (q 6) (q 8) (some (.int .i64))), o 10 (.mov (q 9)), ⟨some 11, .fieldAddr 1 (q 2), some (10, true)⟩, ⟨some 12, .load false 1 (q 11), some (10, true)⟩, ⟨some 13, .fieldAddr 1 (q 3), some (10, true)⟩, ⟨some 14, .load false 1 (q 13), some (10, true)⟩, ⟨some 15, .bin .eql (q 12) (q 14) (some (.int .i64)), some (10, true)⟩, o 16 (.pick (q 10) (q 15) (.const (.bool false))), o 17 (.mov (q 16)), ⟨some 18, .fieldAddr 2 (q 2), some (17, true)⟩, ⟨some 19, .load false 1 (q 18), some (17, true)⟩, ⟨some 20, .fieldAddr 2 (q 3), some (17, true)⟩, ⟨some 21, .load false 1 (q 20), some (17, true)⟩, ⟨some 22, .bin .eql (q 19) (q 21) (some .bool), some (17, true)⟩, o 23 (.pick (q 17) (q 22) (.const (.bool false))), o 24 (.mov (q 23)), ⟨some 25, .fieldAddr 3 (q 2), some (24, true)⟩, ⟨some 26, .load true 4 (q 25), some (24, true)⟩, ⟨some 27, .fieldAddr 3 (q 3), some (24, true)⟩, ⟨some 28, .load true 4 (q 27), some (24, true)⟩, ⟨some 29, .call 23 [.tmp 26, .tmp 28], some (24, true)⟩, o 30 (.pick (q 24) (q 29) (.const (.bool false))), o 31 (.mov (q 30)), ⟨some 32, .fieldAddr 7 (q 2), some (31, true)⟩, ⟨some 33, .load true 4 (q 32), some (31, true)⟩, ⟨some 34, .fieldAddr 7 (q 3), some (31, true)⟩, ⟨some 35, .load true 4 (q 34), some (31, true)⟩, ⟨some 36, .call 23 [.tmp 33, .tmp 35], some (31, true)⟩, o 37 (.pick (q 31) (q 36) (.const (.bool false))), o 4 (.mov (q 37))])
  .ret))⟩
theorem F8_ok : compF Tryz.prog 8 = some F8 := by kernel_rfl
/-- colonnade/colonnadelaw23.fixed -/
def F9 : FC := ⟨43, [.tmp 0],
  (.seq (.ops [o 0 (.mov (.const (.bool false)))])
  (.seq (.ops [o 4 (.build [.int .i64 0, .int .i64 0, .int .i64 0, .int .i64 0, .slice none 0 0] [(0, 1, (.const (.int .i64 3)))]), o 5 (.build [(.string ⟨#[]⟩), (.bool false), (.int .i64 0), (.int .i64 0), (.int .i64 0), (.int .i64 0), (.slice none 0 0)] [(0, 1, (.const (.string ⟨#[97]⟩))), (1, 1, (.const (.bool true))), (2, 5, (q 4))]), o 1 (.alloc [(.string ⟨#[]⟩), (.bool false), (.int .i64 0), (.int .i64 0), (.int .i64 0), (.int .i64 0), (.slice none 0 0)]), ⟨none, .store 7 (q 1) (q 5), none⟩])
  (.seq (.ops [o 7 (.load true 7 (q 1)), o 8 (.buildSlice 1 1 [.int .u8 0] [(0, 1, (.const (.int .u8 5)))]), o 9 (.buildSlice 1 3 [.int .u8 0, .int .u8 0, .int .u8 0] [(0, 1, (.const (.int .u8 3))), (1, 1, (.const (.int .u8 9))), (2, 1, (.const (.int .u8 255)))]), o 10 (.buildSlice 1 2 [.slice none 0 0, .slice none 0 0] [(0, 1, (q 8)), (1, 1, (q 9))]), o 11 (.build [.int .i64 0, .int .i64 0, .int .i64 0, .slice none 0 0, .slice none 0 0, .slice none 0 0] [(0, 1, (.const (.int .i64 3))), (2, 1, (.const (.int .i64 1))), (3, 1, (q 10))]), o 12 (.call 24 [.tmp 7, .tmp 11]), o 6 (.mov (q 12)), o 13 (.extract (q 6) 0), o 14 (.extract (q 6) 1), o 2 (.alloc [(.int .i64 0), (.int .i64 0), (.bool false), (.bool false), (.int .i64 0), (.string ⟨#[]⟩), (.slice none 0 0), (.bool false), (.int .i64 0), (.string ⟨#[]⟩), (.slice none 0 0)]), ⟨none, .store 11 (q 2) (q 13), none⟩, o 3 (.mov (q 14))])
  (.seq (.ops [o 15 (.mov (q 3)), o 16 (.bin .eql (q 15) (.const (.int .i64 0)) (some (.int .i64))), o 17 (.mov (q 16)), ⟨some 18, .fieldAddr 0 (q 2), some (17, true)⟩, ⟨some 19, .load false 1 (q 18), some (17, true)⟩, ⟨some 20, .bin .eql (q 19) (.const (.int .i64 3)) (some (.int .i64)), some (17, true)⟩, o 21 (.pick (q 17) (q 20) (.const (.bool false))), o 22 (.mov (q 21)), ⟨some 23, .fieldAddr 1 (q 2), some (22, true)⟩, ⟨some 24, .load false 1 (q 23), some (22, true)⟩, ⟨some 25, .bin .eql (q 24) (.const (.int .i64 1)) (some (.int .i64)), some (22, true)⟩, o 26 (.pick (q 22) (q 25) (.const (.bool false))), o 27 (.mov (q 26)), ⟨some 28, .fieldAddr 2 (q 2), some (27, true)⟩, ⟨some 29, .load false 1 (q 28), some (27, true)⟩, o 30 (.pick (q 27) (q 29) (.const (.bool false))), o 31 (.mov (q 30)), ⟨some 32, .fieldAddr 3 (q 2), some (31, true)⟩, ⟨some 33, .fieldAddr 1 (q 32), some (31, true)⟩, ⟨some 34, .load false 1 (q 33), some (31, true)⟩, ⟨some 35, .bin .eql (q 34) (.const (.int .i64 (-1))) (some (.int .i64)), some (31, true)⟩, o 36 (.pick (q 31) (q 35) (.const (.bool false))), o 37 (.mov (q 36)), ⟨some 38, .fieldAddr 7 (q 2), some (37, true)⟩, ⟨some 39, .fieldAddr 1 (q 38), some (37, true)⟩, ⟨some 40, .load false 1 (q 39), some (37, true)⟩, ⟨some 41, .bin .eql (q 40) (.const (.int .i64 3)) (some (.int .i64)), some (37, true)⟩, o 42 (.pick (q 37) (q 41) (.const (.bool false))), o 0 (.mov (q 42))])
  .ret))))⟩
theorem F9_ok : compF Tryz.prog 9 = some F9 := by kernel_rfl
/-- colonnade/kind.CheckField -/
def F15 : FC := ⟨17, [.cell 2 true 3],
  (.seq (.ops [o 1 (.box (q 0)), o 2 (.alloc [.int .i64 0, .slice none 0 0, .int .i64 0])])
  (.seq (.ops [o 4 (.load true 7 (q 1)), o 5 (.buildSlice 7 1 [(.string ⟨#[]⟩), (.bool false), (.int .i64 0), (.int .i64 0), (.int .i64 0), (.int .i64 0), (.slice none 0 0)] [(0, 7, (q 4))]), o 6 (.build [.slice none 0 0, .slice none 0 0] [(0, 1, (q 5))]), o 7 (.call 31 [.tmp 6]), o 3 (.alloc [.int .i64 0, .slice none 0 0, .int .i64 0]), ⟨none, .store 3 (q 3) (q 7), none⟩])
  (.seq (.seq (.ops [o 8 (.fieldAddr 1 (q 3)), o 9 (.load false 1 (q 8)), o 10 (.len 1 (q 9)), o 11 (.bin .gtr (q 10) (.const (.int .i64 0)) (some (.int .i64)))])
  (.cond (q 11)
  (.ops [o 12 (.fieldAddr 1 (q 3)), o 13 (.load false 1 (q 12)), o 14 (.slice 1 (q 13) (some (.const (.int .i64 1))) none none), o 15 (.fieldAddr 1 (q 3)), ⟨none, .store 1 (q 15) (q 14), none⟩])
  .skip))
  (.seq (.ops [o 16 (.load true 3 (q 3)), ⟨none, .store 3 (q 2) (q 16), none⟩])
  .ret))))⟩
theorem F15_ok : compF Tryz.prog 15 = some F15 := by kernel_rfl
/-- colonnade/stats.isStat -/
def F16 : FC := ⟨72, [.tmp 4],
  (.seq (.ops [o 2 (.box (q 0)), o 3 (.box (q 1)), o 4 (.mov (.const (.bool false)))])
  (.seq (.seq (.ops [o 6 (.fieldAddr 0 (q 3)), o 7 (.load false 1 (q 6)), o 8 (.bin .lss (q 7) (.const (.int .i64 0)) (some (.int .i64))), o 9 (.mov (q 8)), ⟨some 10, .fieldAddr 0 (q 3), some (9, false)⟩, ⟨some 11, .load false 1 (q 10), some (9, false)⟩, ⟨some 12, .bin .gtr (q 11) (.const (.int .i64 1048576)) (some (.int .i64)), some (9, false)⟩, o 13 (.pick (q 9) (.const (.bool true)) (q 12)), o 14 (.mov (q 13)), ⟨some 15, .fieldAddr 1 (q 3), some (14, false)⟩, ⟨some 16, .load false 1 (q 15), some (14, false)⟩, ⟨some 17, .bin .lss (q 16) (.const (.int .i64 0)) (some (.int .i64)), some (14, false)⟩, o 18 (.pick (q 14) (.const (.bool true)) (q 17)), o 19 (.mov (q 18)), ⟨some 20, .fieldAddr 1 (q 3), some (19, false)⟩, ⟨some 21, .load false 1 (q 20), some (19, false)⟩, ⟨some 22, .fieldAddr 0 (q 3), some (19, false)⟩, ⟨some 23, .load false 1 (q 22), some (19, false)⟩, ⟨some 24, .bin .gtr (q 21) (q 23) (some (.int .i64)), some (19, false)⟩, o 25 (.pick (q 19) (.const (.bool true)) (q 24))])
  (.cond (q 25)
  (.seq (.ops [o 4 (.mov (.const (.bool false)))])
  .ret)
  .skip))
  (.seq (.seq (.ops [o 26 (.fieldAddr 2 (q 3)), o 27 (.load false 1 (q 26)), o 28 (.un .not (q 27))])
  (.cond (q 28)
  (.seq (.ops [o 29 (.fieldAddr 3 (q 3)), o 30 (.load true 4 (q 29)), o 31 (.call 37 [.tmp 30]), o 32 (.mov (q 31)), ⟨some 33, .fieldAddr 7 (q 3), some (32, true)⟩, ⟨some 34, .load true 4 (q 33), some (32, true)⟩, ⟨some 35, .call 37 [.tmp 34], some (32, true)⟩, o 36 (.pick (q 32) (q 35) (.const (.bool false))), o 4 (.mov (q 36))])
  .ret)
  .skip))
  (.seq (.ops [o 37 (.load true 7 (q 2)), o 38 (.call 17 [.tmp 37]), o 5 (.alloc [(.string ⟨#[]⟩), (.bool false), (.int .i64 0), (.int .i64 0), (.int .i64 0), (.int .i64 0), (.slice none 0 0)]), ⟨none, .store 7 (q 5) (q 38), none⟩])
  (.seq (.seq (.ops [o 39 (.fieldAddr 2 (q 5)), o 40 (.fieldAddr 0 (q 39)), o 41 (.load false 1 (q 40)), o 42 (.call 38 [.tmp 41]), o 43 (.un .not (q 42)), o 44 (.mov (q 43)), ⟨some 45, .fieldAddr 1 (q 3), some (44, false)⟩, ⟨some 46, .load false 1 (q 45), some (44, false)⟩, ⟨some 47, .fieldAddr 0 (q 3), some (44, false)⟩, ⟨some 48, .load false 1 (q 47), some (44, false)⟩, ⟨some 49, .bin .eql (q 46) (q 48) (some (.int .i64)), some (44, false)⟩, o 50 (.pick (q 44) (.const (.bool true)) (q 49)), o 51 (.mov (q 50)), ⟨some 52, .load true 7 (q 5), some (51, false)⟩, ⟨some 53, .fieldAddr 3 (q 3), some (51, false)⟩, ⟨some 54, .load true 4 (q 53), some (51, false)⟩, ⟨some 55, .call 39 [.tmp 52, .tmp 54], some (51, false)⟩, ⟨some 56, .un .not (q 55), some (51, false)⟩, o 57 (.pick (q 51) (.const (.bool true)) (q 56)), o 58 (.mov (q 57)), ⟨some 59, .load true 7 (q 5), some (58, false)⟩, ⟨some 60, .fieldAddr 7 (q 3), some (58, false)⟩, ⟨some 61, .load true 4 (q 60), some (58, false)⟩, ⟨some 62, .call 39 [.tmp 59, .tmp 61], some (58, false)⟩, ⟨some 63, .un .not (q 62), some (58, false)⟩, o 64 (.pick (q 58) (.const (.bool true)) (q 63))])
  (.cond (q 64)
  (.seq (.ops [o 4 (.mov (.const (.bool false)))])
  .ret)
  .skip))
  (.seq (.ops [o 65 (.load true 7 (q 5)), o 66 (.fieldAddr 3 (q 3)), o 67 (.load true 4 (q 66)), o 68 (.fieldAddr 7 (q 3)), o 69 (.load true 4 (q 68)), o 70 (.call 18 [.tmp 65, .tmp 67, .tmp 69]), o 71 (.bin .leq (q 70) (.const (.int .i64 0)) (some (.int .i64))), o 4 (.mov (q 71))])
  .ret))))))⟩
theorem F16_ok : compF Tryz.prog 16 = some F16 := by kernel_rfl
/-- colonnade/stats.plain -/
def F17 : FC := ⟨31, [.cell 2 true 7],
  (.seq (.ops [o 1 (.box (q 0)), o 2 (.alloc [(.string ⟨#[]⟩), (.bool false), (.int .i64 0), (.int .i64 0), (.int .i64 0), (.int .i64 0), (.slice none 0 0)])])
  (.seq (.block 0 (.loop (.seq (.seq (.ops [o 4 (.fieldAddr 2 (q 1)), o 5 (.fieldAddr 0 (q 4)), o 6 (.load false 1 (q 5)), o 7 (.bin .eql (q 6) (.const (.int .i64 19)) (some (.int .i64))), o 8 (.mov (q 7)), ⟨some 9, .fieldAddr 2 (q 1), some (8, false)⟩, ⟨some 10, .fieldAddr 0 (q 9), some (8, false)⟩, ⟨some 11, .load false 1 (q 10), some (8, false)⟩, ⟨some 12, .bin .eql (q 11) (.const (.int .i64 20)) (some (.int .i64)), some (8, false)⟩, o 13 (.pick (q 8) (.const (.bool true)) (q 12))])
  (.cond (q 13)
  .skip
  (.exit 0)))
  (.block 1 (.seq (.ops [o 14 (.fieldAddr 2 (q 1)), o 15 (.fieldAddr 4 (q 14)), o 16 (.load false 1 (q 15)), o 17 (.indexAddr 7 (q 16) (.const (.int .i64 0))), o 18 (.load true 7 (q 17)), o 3 (.alloc [(.string ⟨#[]⟩), (.bool false), (.int .i64 0), (.int .i64 0), (.int .i64 0), (.int .i64 0), (.slice none 0 0)]), ⟨none, .store 7 (q 3) (q 18), none⟩])
  (.seq (.seq (.ops [o 19 (.fieldAddr 2 (q 1)), o 20 (.fieldAddr 0 (q 19)), o 21 (.load false 1 (q 20)), o 22 (.bin .eql (q 21) (.const (.int .i64 19)) (some (.int .i64)))])
  (.cond (q 22)
  (.ops [o 23 (.fieldAddr 1 (q 1)), o 24 (.load false 1 (q 23)), o 25 (.fieldAddr 1 (q 3)), ⟨none, .store 1 (q 25) (q 24), none⟩])
  .skip))
  (.seq (.ops [o 26 (.fieldAddr 0 (q 1)), o 27 (.load false 1 (q 26)), o 28 (.fieldAddr 0 (q 3)), ⟨none, .store 1 (q 28) (q 27), none⟩])
  (.ops [o 29 (.load true 7 (q 3)), ⟨none, .store 7 (q 1) (q 29), none⟩]))))))))
  (.seq (.ops [o 30 (.load true 7 (q 1)), ⟨none, .store 7 (q 2) (q 30), none⟩])
  .ret)))⟩
theorem F17_ok : compF Tryz.prog 17 = some F17 := by kernel_rfl
/-- colonnade/stats.order -/
def F18 : FC := ⟨28, [.tmp 6],
  (.seq (.ops [o 3 (.box (q 0)), o 4 (.box (q 1)), o 5 (.box (q 2)), o 6 (.mov (.const (.int .i64 0)))])
  (.seq (.seq (.ops [o 9 (.fieldAddr 2 (q 3)), o 10 (.fieldAddr 0 (q 9)), o 11 (.load false 1 (q 10)), o 12 (.call 40 [.tmp 11])])
  (.cond (q 12)
  (.seq (.ops [o 13 (.fieldAddr 2 (q 4)), o 14 (.load false 1 (q 13)), o 15 (.fieldAddr 2 (q 5)), o 16 (.load false 1 (q 15)), o 17 (.call 41 [.tmp 14, .tmp 16]), o 6 (.mov (q 17))])
  .ret)
  .skip))
  (.seq (.ops [o 19 (.fieldAddr 2 (q 3)), o 20 (.load true 5 (q 19)), o 21 (.build [(.string ⟨#[]⟩), (.bool false), (.int .i64 0), (.int .i64 0), (.int .i64 0), (.int .i64 0), (.slice none 0 0)] [(0, 1, (.const (.string ⟨#[97]⟩))), (2, 5, (q 20))]), o 22 (.load true 4 (q 4)), o 23 (.load true 4 (q 5)), o 24 (.call 42 [.tmp 21, .tmp 22, .tmp 23]), o 18 (.mov (q 24)), o 25 (.extract (q 18) 0), o 26 (.extract (q 18) 1), o 7 (.mov (q 25)), o 8 (.mov (q 26))])
  (.seq (.ops [o 27 (.mov (q 7)), o 6 (.mov (q 27))])
  .ret))))⟩
theorem F18_ok : compF Tryz.prog 18 = some F18 := by kernel_rfl
/-- colonnade/colonnaderef03.MayBe -/
def F19 : FC := ⟨7, [.tmp 2],
  (.seq (.ops [o 1 (.box (q 0)), o 2 (.mov (.const (.bool false)))])
  (.seq (.ops [o 3 (.load true 7 (q 1)), o 4 (.call 43 [.tmp 3]), o 5 (.field false 0 1 (q 4)), o 6 (.bin .eql (q 5) (.const (.int .i64 0)) (some (.int .i64))), o 2 (.mov (q 6))])
  .ret))⟩
theorem F19_ok : compF Tryz.prog 19 = some F19 := by kernel_rfl
/-- colonnade/colonnaderef23.Is -/
def F20 : FC := ⟨74, [.tmp 4],
  (.seq (.ops [o 2 (.box (q 0)), o 3 (.box (q 1)), o 4 (.mov (.const (.bool false)))])
  (.seq (.seq (.ops [o 9 (.fieldAddr 0 (q 3)), o 10 (.load false 1 (q 9)), o 11 (.bin .lss (q 10) (.const (.int .i64 0)) (some (.int .i64))), o 12 (.mov (q 11)), ⟨some 13, .fieldAddr 0 (q 3), some (12, false)⟩, ⟨some 14, .load false 1 (q 13), some (12, false)⟩, ⟨some 15, .bin .gtr (q 14) (.const (.int .i64 1048576)) (some (.int .i64)), some (12, false)⟩, o 16 (.pick (q 12) (.const (.bool true)) (q 15)), o 17 (.mov (q 16)), ⟨some 18, .fieldAddr 1 (q 3), some (17, false)⟩, ⟨some 19, .load false 1 (q 18), some (17, false)⟩, ⟨some 20, .bin .lss (q 19) (.const (.int .i64 0)) (some (.int .i64)), some (17, false)⟩, o 21 (.pick (q 17) (.const (.bool true)) (q 20)), o 22 (.mov (q 21)), ⟨some 23, .fieldAddr 1 (q 3), some (22, false)⟩, ⟨some 24, .load false 1 (q 23), some (22, false)⟩, ⟨some 25, .fieldAddr 0 (q 3), some (22, false)⟩, ⟨some 26, .load false 1 (q 25), some (22, false)⟩, ⟨some 27, .bin .gtr (q 24) (q 26) (some (.int .i64)), some (22, false)⟩, o 28 (.pick (q 22) (.const (.bool true)) (q 27))])
  (.cond (q 28)
  (.seq (.ops [o 4 (.mov (.const (.bool false)))])
  .ret)
  .skip))
  (.seq (.seq (.ops [o 29 (.fieldAddr 2 (q 3)), o 30 (.load false 1 (q 29)), o 31 (.un .not (q 30))])
  (.cond (q 31)
  (.seq (.ops [o 32 (.fieldAddr 3 (q 3)), o 33 (.load true 4 (q 32)), o 34 (.call 44 [.tmp 33]), o 35 (.mov (q 34)), ⟨some 36, .fieldAddr 7 (q 3), some (35, true)⟩, ⟨some 37, .load true 4 (q 36), some (35, true)⟩, ⟨some 38, .call 44 [.tmp 37], some (35, true)⟩, o 39 (.pick (q 35) (q 38) (.const (.bool false))), o 4 (.mov (q 39))])
  .ret)
  .skip))
  (.seq (.ops [o 40 (.load true 7 (q 2)), o 41 (.call 21 [.tmp 40]), o 5 (.mov (q 41))])
  (.seq (.ops [o 42 (.mov (q 5)), o 43 (.call 45 [.tmp 42]), o 6 (.mov (q 43))])
  (.seq (.seq (.ops [o 44 (.mov (q 6)), o 45 (.un .not (q 44)), o 46 (.mov (q 45)), ⟨some 47, .fieldAddr 1 (q 3), some (46, false)⟩, ⟨some 48, .load false 1 (q 47), some (46, false)⟩, ⟨some 49, .fieldAddr 0 (q 3), some (46, false)⟩, ⟨some 50, .load false 1 (q 49), some (46, false)⟩, ⟨some 51, .bin .eql (q 48) (q 50) (some (.int .i64)), some (46, false)⟩, o 52 (.pick (q 46) (.const (.bool true)) (q 51))])
  (.cond (q 52)
  (.seq (.ops [o 4 (.mov (.const (.bool false)))])
  .ret)
  .skip))
  (.seq (.ops [o 53 (.mov (q 5)), o 54 (.fieldAddr 3 (q 3)), o 55 (.load true 4 (q 54)), o 56 (.call 46 [.tmp 53, .tmp 55]), o 7 (.mov (q 56))])
  (.seq (.ops [o 57 (.mov (q 5)), o 58 (.fieldAddr 7 (q 3)), o 59 (.load true 4 (q 58)), o 60 (.call 46 [.tmp 57, .tmp 59]), o 8 (.mov (q 60))])
  (.seq (.ops [o 61 (.mov (q 7)), o 62 (.mov (q 61)), ⟨some 63, .mov (q 8), some (62, true)⟩, o 64 (.pick (q 62) (q 63) (.const (.bool false))), o 65 (.mov (q 64)), ⟨some 66, .mov (q 5), some (65, true)⟩, ⟨some 67, .fieldAddr 3 (q 3), some (65, true)⟩, ⟨some 68, .load true 4 (q 67), some (65, true)⟩, ⟨some 69, .fieldAddr 7 (q 3), some (65, true)⟩, ⟨some 70, .load true 4 (q 69), some (65, true)⟩, ⟨some 71, .call 22 [.tmp 66, .tmp 68, .tmp 70], some (65, true)⟩, ⟨some 72, .bin .leq (q 71) (.const (.int .i64 0)) (some (.int .i64)), some (65, true)⟩, o 73 (.pick (q 65) (q 72) (.const (.bool false))), o 4 (.mov (q 73))])
  .ret)))))))))⟩
theorem F20_ok : compF Tryz.prog 20 = some F20 := by kernel_rfl
/-- colonnade/colonnaderef23.kindOf -/
def F21 : FC := ⟨9, [.tmp 2],
  (.seq (.ops [o 1 (.box (q 0)), o 2 (.mov (.const (.int .i64 0)))])
  (.seq (.ops [o 4 (.load true 7 (q 1)), o 5 (.call 47 [.tmp 4]), o 3 (.alloc [(.string ⟨#[]⟩), (.bool false), (.int .i64 0), (.int .i64 0), (.int .i64 0), (.int .i64 0), (.slice none 0 0)]), ⟨none, .store 7 (q 3) (q 5), none⟩])
  (.seq (.ops [o 6 (.fieldAddr 2 (q 3)), o 7 (.fieldAddr 0 (q 6)), o 8 (.load false 1 (q 7)), o 2 (.mov (q 8))])
  .ret)))⟩
theorem F21_ok : compF Tryz.prog 21 = some F21 := by kernel_rfl
/-- colonnade/colonnaderef23.order -/
def F22 : FC := ⟨12, [.tmp 6],
  (.seq (.ops [o 4 (.box (q 1)), o 5 (.box (q 2)), o 6 (.mov (.const (.int .i64 0)))])
  (.seq (.ops [o 7 (.mov (q 0)), o 9 (.load true 4 (q 4)), o 10 (.load true 4 (q 5)), o 8 (.call 49 [.tmp 7]), ⟨none, .again 10 true 4 (q 5), none⟩, ⟨none, .again 9 true 4 (q 4), none⟩, o 11 (.call 48 [.tmp 8, .tmp 9, .tmp 10]), o 6 (.mov (q 11))])
  .ret))⟩
theorem F22_ok : compF Tryz.prog 22 = some F22 := by kernel_rfl
/-- colonnade/colonnaderef04.Same -/
def F23 : FC := ⟨55, [.tmp 4],
  (.seq (.ops [o 2 (.box (q 0)), o 3 (.box (q 1)), o 4 (.mov (.const (.bool false)))])
  (.seq (.seq (.ops [o 7 (.fieldAddr 0 (q 2)), o 8 (.load false 1 (q 7)), o 9 (.fieldAddr 0 (q 3)), o 10 (.load false 1 (q 9)), o 11 (.bin .neq (q 8) (q 10) (some .bool)), o 12 (.mov (q 11)), ⟨some 13, .fieldAddr 1 (q 2), some (12, false)⟩, ⟨some 14, .load false 1 (q 13), some (12, false)⟩, ⟨some 15, .fieldAddr 1 (q 3), some (12, false)⟩, ⟨some 16, .load false 1 (q 15), some (12, false)⟩, ⟨some 17, .bin .neq (q 14) (q 16) (some (.int .i64)), some (12, false)⟩, o 18 (.pick (q 12) (.const (.bool true)) (q 17)), o 19 (.mov (q 18)), ⟨some 20, .fieldAddr 2 (q 2), some (19, false)⟩, ⟨some 21, .load false 1 (q 20), some (19, false)⟩, ⟨some 22, .fieldAddr 2 (q 3), some (19, false)⟩, ⟨some 23, .load false 1 (q 22), some (19, false)⟩, ⟨some 24, .bin .neq (q 21) (q 23) (some .string), some (19, false)⟩, o 25 (.pick (q 19) (.const (.bool true)) (q 24)), o 26 (.mov (q 25)), ⟨some 27, .fieldAddr 3 (q 2), some (26, false)⟩, ⟨some 28, .load false 1 (q 27), some (26, false)⟩, ⟨some 29, .len 1 (q 28), some (26, false)⟩, ⟨some 30, .fieldAddr 3 (q 3), some (26, false)⟩, ⟨some 31, .load false 1 (q 30), some (26, false)⟩, ⟨some 32, .len 1 (q 31), some (26, false)⟩, ⟨some 33, .bin .neq (q 29) (q 32) (some (.int .i64)), some (26, false)⟩, o 34 (.pick (q 26) (.const (.bool true)) (q 33))])
  (.cond (q 34)
  (.seq (.ops [o 4 (.mov (.const (.bool false)))])
  .ret)
  .skip))
  (.seq (.seq (.ops [o 5 (.mov (.const (.int .i64 0)))])
  (.block 0 (.loop (.seq (.seq (.ops [o 35 (.mov (q 5)), o 36 (.fieldAddr 3 (q 2)), o 37 (.load false 1 (q 36)), o 38 (.len 1 (q 37)), o 39 (.bin .lss (q 35) (q 38) (some (.int .i64)))])
  (.cond (q 39)
  .skip
  (.exit 0)))
  (.seq (.block 1 (.seq (.ops [o 42 (.fieldAddr 3 (q 2)), o 43 (.load false 1 (q 42)), o 44 (.mov (q 5)), o 45 (.indexAddr 4 (q 43) (q 44)), o 46 (.load true 4 (q 45)), o 47 (.fieldAddr 3 (q 3)), o 48 (.load false 1 (q 47)), o 49 (.mov (q 5)), o 50 (.indexAddr 4 (q 48) (q 49)), o 51 (.load true 4 (q 50)), o 52 (.call 23 [.tmp 46, .tmp 51]), o 6 (.mov (q 52))])
  (.seq (.ops [o 53 (.mov (q 6)), o 54 (.un .not (q 53))])
  (.cond (q 54)
  (.seq (.ops [o 4 (.mov (.const (.bool false)))])
  .ret)
  .skip))))
  (.ops [o 40 (.mov (q 5)), o 41 (.bin .add (q 40) (.const (.int .i64 1)) (some (.int .i64))), o 5 (.mov (q 41))]))))))
  (.seq (.ops [o 4 (.mov (.const (.bool true)))])
  .ret))))⟩
theorem F23_ok : compF Tryz.prog 23 = some F23 := by kernel_rfl
/-- colonnade/stats.Of -/
def F24 : FC := ⟨99, [.cell 4 true 11, .tmp 5],
  (.seq (.ops [o 2 (.box (q 0)), o 3 (.box (q 1)), o 4 (.alloc [(.int .i64 0), (.int .i64 0), (.bool false), (.bool false), (.int .i64 0), (.string ⟨#[]⟩), (.slice none 0 0), (.bool false), (.int .i64 0), (.string ⟨#[]⟩), (.slice none 0 0)]), o 5 (.mov (.const (.int .i64 0)))])
  (.seq (.seq (.ops [o 15 (.load true 7 (q 2)), o 16 (.call 15 [.tmp 15]), o 17 (.field false 0 1 (q 16)), o 18 (.bin .neq (q 17) (.const (.int .i64 0)) (some (.int .i64)))])
  (.cond (q 18)
  (.seq (.ops [o 19 (.build [(.int .i64 0), (.int .i64 0), (.bool false), (.bool false), (.int .i64 0), (.string ⟨#[]⟩), (.slice none 0 0), (.bool false), (.int .i64 0), (.string ⟨#[]⟩), (.slice none 0 0)] []), ⟨none, .store 11 (q 4) (q 19), none⟩, o 5 (.mov (.const (.int .i64 5)))])
  .ret)
  .skip))
  (.seq (.ops [o 21 (.load true 7 (q 2)), o 22 (.load true 6 (q 3)), o 23 (.call 50 [.tmp 21, .tmp 22]), o 20 (.mov (q 23)), o 24 (.extract (q 20) 0), o 25 (.extract (q 20) 1), o 7 (.alloc [.int .i64 0, .slice none 0 0, .int .i64 0]), o 6 (.mov (q 24)), ⟨none, .store 3 (q 7) (q 25), none⟩])
  (.seq (.seq (.ops [o 26 (.fieldAddr 0 (q 7)), o 27 (.load false 1 (q 26)), o 28 (.bin .neq (q 27) (.const (.int .i64 0)) (some (.int .i64)))])
  (.cond (q 28)
  (.seq (.ops [o 29 (.build [(.int .i64 0), (.int .i64 0), (.bool false), (.bool false), (.int .i64 0), (.string ⟨#[]⟩), (.slice none 0 0), (.bool false), (.int .i64 0), (.string ⟨#[]⟩), (.slice none 0 0)] []), o 30 (.fieldAddr 0 (q 7)), o 31 (.load false 1 (q 30)), ⟨none, .store 11 (q 4) (q 29), none⟩, ⟨none, .again 31 false 1 (q 30), none⟩, o 5 (.mov (q 31))])
  .ret)
  .skip))
  (.seq (.ops [o 32 (.load true 7 (q 2)), o 33 (.call 17 [.tmp 32]), o 8 (.alloc [(.string ⟨#[]⟩), (.bool false), (.int .i64 0), (.int .i64 0), (.int .i64 0), (.int .i64 0), (.slice none 0 0)]), ⟨none, .store 7 (q 8) (q 33), none⟩])
  (.seq (.ops [o 34 (.mov (q 6)), o 35 (.call 51 [.tmp 34]), o 36 (.build [(.int .i64 0), (.int .i64 0), (.bool false), (.bool false), (.int .i64 0), (.string ⟨#[]⟩), (.slice none 0 0), (.bool false), (.int .i64 0), (.string ⟨#[]⟩), (.slice none 0 0)] [(0, 1, (q 35))]), o 9 (.alloc [(.int .i64 0), (.int .i64 0), (.bool false), (.bool false), (.int .i64 0), (.string ⟨#[]⟩), (.slice none 0 0), (.bool false), (.int .i64 0), (.string ⟨#[]⟩), (.slice none 0 0)]), ⟨none, .store 11 (q 9) (q 36), none⟩])
  (.seq (.ops [o 37 (.build [(.bool false), (.int .i64 0), (.string ⟨#[]⟩), (.slice none 0 0)] []), o 38 (.build [(.bool false), (.int .i64 0), (.string ⟨#[]⟩), (.slice none 0 0)] []), o 10 (.alloc [(.bool false), (.int .i64 0), (.string ⟨#[]⟩), (.slice none 0 0)]), o 11 (.alloc [(.bool false), (.int .i64 0), (.string ⟨#[]⟩), (.slice none 0 0)]), ⟨none, .store 4 (q 10) (q 37), none⟩, ⟨none, .store 4 (q 11) (q 38), none⟩])
  (.seq (.ops [o 12 (.alloc [.bool false]), ⟨none, .store 1 (q 12) (.const (.bool false)), none⟩])
  (.seq (.seq (.ops [o 39 (.mov (q 6)), o 40 (.call 52 [.tmp 39])])
  (.block 0 (.rf (q 40) [41, 42]
  (.ops [o 14 (.alloc [(.bool false), (.int .i64 0), (.string ⟨#[]⟩), (.slice none 0 0)]), ⟨none, .store 4 (q 14) (q 42), none⟩])
  (.block 1 (.seq (.seq (.ops [o 43 (.fieldAddr 0 (q 14)), o 44 (.load false 1 (q 43))])
  (.cond (q 44)
  (.seq (.ops [o 45 (.fieldAddr 1 (q 9)), o 46 (.load false 1 (q 45)), o 47 (.bin .add (q 46) (.const (.int .i64 1)) (some (.int .i64))), o 48 (.fieldAddr 1 (q 9)), ⟨none, .store 1 (q 48) (q 47), none⟩])
  (.exit 1))
  .skip))
  (.seq (.seq (.ops [o 49 (.fieldAddr 2 (q 8)), o 50 (.fieldAddr 0 (q 49)), o 51 (.load false 1 (q 50)), o 52 (.call 38 [.tmp 51]), o 53 (.un .not (q 52))])
  (.cond (q 53)
  (.exit 1)
  .skip))
  (.seq (.seq (.ops [o 54 (.load false 1 (q 12)), o 55 (.un .not (q 54)), o 56 (.mov (q 55)), ⟨some 57, .load true 7 (q 8), some (56, false)⟩, ⟨some 58, .load true 4 (q 14), some (56, false)⟩, ⟨some 59, .load true 4 (q 10), some (56, false)⟩, ⟨some 60, .call 18 [.tmp 57, .tmp 58, .tmp 59], some (56, false)⟩, ⟨some 61, .bin .lss (q 60) (.const (.int .i64 0)) (some (.int .i64)), some (56, false)⟩, o 62 (.pick (q 56) (.const (.bool true)) (q 61))])
  (.cond (q 62)
  (.ops [o 63 (.load true 4 (q 14)), ⟨none, .store 4 (q 10) (q 63), none⟩])
  .skip))
  (.seq (.seq (.ops [o 64 (.load false 1 (q 12)), o 65 (.un .not (q 64)), o 66 (.mov (q 65)), ⟨some 67, .load true 7 (q 8), some (66, false)⟩, ⟨some 68, .load true 4 (q 14), some (66, false)⟩, ⟨some 69, .load true 4 (q 11), some (66, false)⟩, ⟨some 70, .call 18 [.tmp 67, .tmp 68, .tmp 69], some (66, false)⟩, ⟨some 71, .bin .gtr (q 70) (.const (.int .i64 0)) (some (.int .i64)), some (66, false)⟩, o 72 (.pick (q 66) (.const (.bool true)) (q 71))])
  (.cond (q 72)
  (.ops [o 73 (.load true 4 (q 14)), ⟨none, .store 4 (q 11) (q 73), none⟩])
  .skip))
  (.ops [⟨none, .store 1 (q 12) (.const (.bool true)), none⟩])))))))))
  (.seq (.seq (.ops [o 74 (.load false 1 (q 12)), o 75 (.mov (q 74)), ⟨some 76, .fieldAddr 2 (q 8), some (75, true)⟩, ⟨some 77, .fieldAddr 0 (q 76), some (75, true)⟩, ⟨some 78, .load false 1 (q 77), some (75, true)⟩, ⟨some 79, .call 40 [.tmp 78], some (75, true)⟩, o 80 (.pick (q 75) (q 79) (.const (.bool false)))])
  (.cond (q 80)
  (.seq (.ops [o 81 (.fieldAddr 2 (q 10)), o 82 (.load false 1 (q 81)), o 83 (.call 53 [.tmp 82]), o 84 (.fieldAddr 2 (q 10)), ⟨none, .store 1 (q 84) (q 83), none⟩])
  (.ops [o 86 (.fieldAddr 2 (q 11)), o 87 (.load false 1 (q 86)), o 88 (.call 54 [.tmp 87]), o 85 (.mov (q 88)), o 89 (.extract (q 85) 0), o 90 (.extract (q 85) 1), o 91 (.fieldAddr 2 (q 11)), ⟨none, .store 1 (q 91) (q 89), none⟩, ⟨none, .store 1 (q 12) (q 90), none⟩]))
  .skip))
  (.seq (.seq (.ops [o 92 (.load false 1 (q 12))])
  (.cond (q 92)
  (.ops [o 93 (.load true 4 (q 10)), o 94 (.load true 4 (q 11)), o 95 (.fieldAddr 2 (q 9)), ⟨none, .store 1 (q 95) (.const (.bool true)), none⟩, ⟨none, .again 94 true 4 (q 11), none⟩, ⟨none, .again 93 true 4 (q 10), none⟩, o 96 (.fieldAddr 3 (q 9)), ⟨none, .store 4 (q 96) (q 93), none⟩, ⟨none, .again 94 true 4 (q 11), none⟩, o 97 (.fieldAddr 7 (q 9)), ⟨none, .store 4 (q 97) (q 94), none⟩])
  .skip))
  (.seq (.ops [o 98 (.load true 11 (q 9)), ⟨none, .store 11 (q 4) (q 98), none⟩, o 5 (.mov (.const (.int .i64 0)))])
  .ret))))))))))))⟩
theorem F24_ok : compF Tryz.prog 24 = some F24 := by kernel_rfl
/-- colonnade/colonnaderef03.Check -/
def F28 : FC := ⟨61, [.cell 2 true 3],
  (.seq (.ops [o 1 (.box (q 0)), o 2 (.alloc [.int .i64 0, .slice none 0 0, .int .i64 0])])
  (.seq (.seq (.ops [o 8 (.fieldAddr 0 (q 1)), o 9 (.load false 1 (q 8)), o 10 (.len 1 (q 9)), o 11 (.bin .gtr (q 10) (.const (.int .i64 32)) (some (.int .i64)))])
  (.cond (q 11)
  (.seq (.ops [o 12 (.build [.int .i64 0, .slice none 0 0, .int .i64 0] [(0, 1, (.const (.int .i64 34))), (2, 1, (.const (.int .i64 32)))]), ⟨none, .store 3 (q 2) (q 12), none⟩])
  .ret)
  .skip))
  (.seq (.seq (.ops [o 13 (.fieldAddr 1 (q 1)), o 14 (.load false 1 (q 13)), o 15 (.len 1 (q 14)), o 16 (.bin .gtr (q 15) (.const (.int .i64 16)) (some (.int .i64)))])
  (.cond (q 16)
  (.seq (.ops [o 17 (.build [.int .i64 0, .slice none 0 0, .int .i64 0] [(0, 1, (.const (.int .i64 34))), (2, 1, (.const (.int .i64 16)))]), ⟨none, .store 3 (q 2) (q 17), none⟩])
  .ret)
  .skip))
  (.seq (.seq (.ops [o 18 (.fieldAddr 1 (q 1)), o 19 (.load false 1 (q 18)), o 20 (.len 1 (q 19)), o 21 (.mov (.const (.int .i64 0)))])
  (.block 0 (.loop (.seq (.ops [o 22 (.bin .lss (q 21) (q 20) (some (.int .i64)))])
  (.seq (.cond (q 22)
  .skip
  (.exit 0))
  (.seq (.block 1 (.seq (.ops [o 23 (.mov (q 21)), o 24 (.indexAddr 2 (q 19) (q 21)), o 25 (.load true 2 (q 24)), o 4 (.alloc [(.string ⟨#[]⟩), (.string ⟨#[]⟩)]), o 3 (.mov (q 23)), ⟨none, .store 2 (q 4) (q 25), none⟩])
  (.seq (.ops [o 26 (.fieldAddr 0 (q 4)), o 27 (.load false 1 (q 26)), o 28 (.len 0 (q 27)), o 29 (.bin .gtr (q 28) (.const (.int .i64 256)) (some (.int .i64))), o 30 (.mov (q 29)), ⟨some 31, .fieldAddr 1 (q 4), some (30, false)⟩, ⟨some 32, .load false 1 (q 31), some (30, false)⟩, ⟨some 33, .len 0 (q 32), some (30, false)⟩, ⟨some 34, .bin .gtr (q 33) (.const (.int .i64 256)) (some (.int .i64)), some (30, false)⟩, o 35 (.pick (q 30) (.const (.bool true)) (q 34))])
  (.cond (q 35)
  (.seq (.ops [o 36 (.mov (q 3)), o 37 (.build [.int .i64 0, .slice none 0 0, .int .i64 0] [(0, 1, (.const (.int .i64 37))), (2, 1, (q 36))]), ⟨none, .store 3 (q 2) (q 37), none⟩])
  .ret)
  .skip))))
  (.ops [o 38 (.bin .add (q 21) (.const (.int .i64 1)) (some (.int .i64))), o 21 (.mov (q 38))])))))))
  (.seq (.ops [o 39 (.fieldAddr 0 (q 1)), o 40 (.load false 1 (q 39)), o 41 (.call 55 [.tmp 40, (.const (.slice none 0 0)), (.const (.bool false)), (.const (.slice none 0 0))]), o 5 (.mov (q 41))])
  (.seq (.seq (.ops [o 42 (.mov (q 5)), o 43 (.len 1 (q 42)), o 44 (.mov (.const (.int .i64 0)))])
  (.block 2 (.loop (.seq (.ops [o 45 (.bin .lss (q 44) (q 43) (some (.int .i64)))])
  (.seq (.cond (q 45)
  .skip
  (.exit 2))
  (.seq (.block 3 (.seq (.ops [o 46 (.mov (q 44)), o 6 (.mov (q 46))])
  (.seq (.ops [o 47 (.mov (q 5)), o 48 (.mov (q 6)), o 49 (.call 56 [.tmp 47, .tmp 48]), o 7 (.mov (q 49))])
  (.seq (.ops [o 50 (.mov (q 7)), o 51 (.bin .neq (q 50) (.const (.int .i64 0)) (some (.int .i64)))])
  (.cond (q 51)
  (.seq (.ops [o 52 (.mov (q 7)), o 53 (.mov (q 5)), o 54 (.mov (q 6)), o 55 (.indexAddr 10 (q 53) (q 54)), o 56 (.fieldAddr 0 (q 55)), o 57 (.load false 1 (q 56)), o 58 (.build [.int .i64 0, .slice none 0 0, .int .i64 0] [(0, 1, (q 52)), (1, 1, (q 57))]), ⟨none, .store 3 (q 2) (q 58), none⟩])
  .ret)
  .skip)))))
  (.ops [o 59 (.bin .add (q 44) (.const (.int .i64 1)) (some (.int .i64))), o 44 (.mov (q 59))])))))))
  (.seq (.ops [o 60 (.build [.int .i64 0, .slice none 0 0, .int .i64 0] []), ⟨none, .store 3 (q 2) (q 60), none⟩])
  .ret)))))))⟩
theorem F28_ok : compF Tryz.prog 28 = some F28 := by kernel_rfl
/-- colonnade/kind.Check -/
def F31 : FC := ⟨71, [.cell 2 true 3],
  (.seq (.ops [o 1 (.box (q 0)), o 2 (.alloc [.int .i64 0, .slice none 0 0, .int .i64 0])])
  (.seq (.block 0 (.seq (.ops [o 10 (.fieldAddr 0 (q 1)), o 11 (.load false 1 (q 10)), o 12 (.len 1 (q 11)), o 13 (.bin .gtr (q 12) (.const (.int .i64 32)) (some (.int .i64))), o 9 (.mov (q 13))])
  (.cond (q 9)
  (.seq (.ops [o 14 (.build [.int .i64 0, .slice none 0 0, .int .i64 0] [(0, 1, (.const (.int .i64 34))), (2, 1, (.const (.int .i64 32)))]), ⟨none, .store 3 (q 2) (q 14), none⟩])
  .ret)
  (.seq (.ops [o 16 (.fieldAddr 1 (q 1)), o 17 (.load false 1 (q 16)), o 18 (.len 1 (q 17)), o 19 (.bin .gtr (q 18) (.const (.int .i64 16)) (some (.int .i64))), o 15 (.mov (q 19))])
  (.cond (q 15)
  (.seq (.ops [o 20 (.build [.int .i64 0, .slice none 0 0, .int .i64 0] [(0, 1, (.const (.int .i64 34))), (2, 1, (.const (.int .i64 16)))]), ⟨none, .store 3 (q 2) (q 20), none⟩])
  .ret)
  .skip)))))
  (.seq (.seq (.ops [o 21 (.fieldAddr 1 (q 1)), o 22 (.load false 1 (q 21)), o 23 (.len 1 (q 22)), o 24 (.mov (.const (.int .i64 0)))])
  (.block 1 (.loop (.seq (.ops [o 25 (.bin .lss (q 24) (q 23) (some (.int .i64)))])
  (.seq (.cond (q 25)
  .skip
  (.exit 1))
  (.seq (.block 2 (.seq (.ops [o 26 (.mov (q 24)), o 27 (.indexAddr 2 (q 22) (q 24)), o 28 (.load true 2 (q 27)), o 4 (.alloc [(.string ⟨#[]⟩), (.string ⟨#[]⟩)]), o 3 (.mov (q 26)), ⟨none, .store 2 (q 4) (q 28), none⟩])
  (.seq (.ops [o 29 (.fieldAddr 0 (q 4)), o 30 (.load false 1 (q 29)), o 31 (.len 0 (q 30)), o 32 (.bin .gtr (q 31) (.const (.int .i64 256)) (some (.int .i64))), o 33 (.mov (q 32)), ⟨some 34, .fieldAddr 1 (q 4), some (33, false)⟩, ⟨some 35, .load false 1 (q 34), some (33, false)⟩, ⟨some 36, .len 0 (q 35), some (33, false)⟩, ⟨some 37, .bin .gtr (q 36) (.const (.int .i64 256)) (some (.int .i64)), some (33, false)⟩, o 38 (.pick (q 33) (.const (.bool true)) (q 37))])
  (.cond (q 38)
  (.seq (.ops [o 39 (.mov (q 3)), o 40 (.build [.int .i64 0, .slice none 0 0, .int .i64 0] [(0, 1, (.const (.int .i64 37))), (2, 1, (q 39))]), ⟨none, .store 3 (q 2) (q 40), none⟩])
  .ret)
  .skip))))
  (.ops [o 41 (.bin .add (q 24) (.const (.int .i64 1)) (some (.int .i64))), o 24 (.mov (q 41))])))))))
  (.seq (.ops [o 5 (.alloc [.int .i64 0]), ⟨none, .store 1 (q 5) (.const (.int .i64 0)), none⟩])
  (.seq (.ops [o 42 (.mkMap), o 6 (.alloc [.map none]), ⟨none, .store 1 (q 6) (q 42), none⟩])
  (.seq (.seq (.ops [o 43 (.fieldAddr 0 (q 1)), o 44 (.load false 1 (q 43)), o 45 (.call 58 [.tmp 44, (.const (.int .i64 65))])])
  (.block 3 (.rf (q 45) [46]
  (.ops [o 7 (.alloc [(.slice none 0 0), (.slice none 0 0), (.string ⟨#[]⟩), (.bool false), (.int .i64 0), (.int .i64 0), (.int .i64 0), (.int .i64 0), (.slice none 0 0), (.bool false)]), ⟨none, .store 10 (q 7) (q 46), none⟩])
  (.block 4 (.seq (.seq (.ops [o 47 (.load true 10 (q 7)), o 48 (.load false 1 (q 5)), o 49 (.load false 1 (q 6)), o 50 (.call 59 [.tmp 47, .tmp 48, .tmp 49]), o 8 (.mov (q 50))])
  (.seq (.ops [o 51 (.mov (q 8)), o 52 (.bin .neq (q 51) (.const (.int .i64 0)) (some (.int .i64)))])
  (.cond (q 52)
  (.seq (.ops [o 53 (.mov (q 8)), o 54 (.fieldAddr 0 (q 7)), o 55 (.load false 1 (q 54)), o 56 (.build [.int .i64 0, .slice none 0 0, .int .i64 0] [(0, 1, (q 53)), (1, 1, (q 55))]), ⟨none, .store 3 (q 2) (q 56), none⟩])
  .ret)
  .skip)))
  (.seq (.ops [o 57 (.load false 1 (q 5)), o 58 (.bin .add (q 57) (.const (.int .i64 1)) (some (.int .i64))), ⟨none, .store 1 (q 5) (q 58), none⟩])
  (.seq (.ops [o 59 (.fieldAddr 2 (q 7)), o 60 (.fieldAddr 2 (q 59)), o 61 (.fieldAddr 0 (q 60)), o 62 (.load false 1 (q 61)), o 63 (.bin .eql (q 62) (.const (.int .i64 19)) (some (.int .i64)))])
  (.cond (q 63)
  (.ops [o 64 (.load false 1 (q 6)), o 65 (.fieldAddr 2 (q 7)), o 66 (.fieldAddr 2 (q 65)), o 67 (.fieldAddr 2 (q 66)), o 68 (.load false 1 (q 67)), o 69 (.load false 1 (q 5)), ⟨none, .mapSet 0 (q 64) (q 68) (q 69), none⟩])
  .skip))))))))
  (.seq (.ops [o 70 (.build [.int .i64 0, .slice none 0 0, .int .i64 0] []), ⟨none, .store 3 (q 2) (q 70), none⟩])
  .ret)))))))⟩
theorem F31_ok : compF Tryz.prog 31 = some F31 := by kernel_rfl
/-- colonnade/stats.isNone -/
def F37 : FC := ⟨22, [.tmp 2],
  (.seq (.ops [o 1 (.box (q 0)), o 2 (.mov (.const (.bool false)))])
  (.seq (.ops [o 3 (.fieldAddr 0 (q 1)), o 4 (.load false 1 (q 3)), o 5 (.un .not (q 4)), o 6 (.mov (q 5)), ⟨some 7, .fieldAddr 1 (q 1), some (6, true)⟩, ⟨some 8, .load false 1 (q 7), some (6, true)⟩, ⟨some 9, .bin .eql (q 8) (.const (.int .i64 0)) (some (.int .i64)), some (6, true)⟩, o 10 (.pick (q 6) (q 9) (.const (.bool false))), o 11 (.mov (q 10)), ⟨some 12, .fieldAddr 2 (q 1), some (11, true)⟩, ⟨some 13, .load false 1 (q 12), some (11, true)⟩, ⟨some 14, .bin .eql (q 13) (.const (.string ⟨#[]⟩)) (some .string), some (11, true)⟩, o 15 (.pick (q 11) (q 14) (.const (.bool false))), o 16 (.mov (q 15)), ⟨some 17, .fieldAddr 3 (q 1), some (16, true)⟩, ⟨some 18, .load false 1 (q 17), some (16, true)⟩, ⟨some 19, .len 1 (q 18), some (16, true)⟩, ⟨some 20, .bin .eql (q 19) (.const (.int .i64 0)) (some (.int .i64)), some (16, true)⟩, o 21 (.pick (q 16) (q 20) (.const (.bool false))), o 2 (.mov (q 21))])
  .ret))⟩
theorem F37_ok : compF Tryz.prog 37 = some F37 := by kernel_rfl
/-- colonnade/stats.hasBounds -/
def F38 : FC := ⟨9, [.tmp 2],
  (.seq (.ops [o 2 (.mov (.const (.bool false)))])
  (.seq (.ops [o 3 (.mov (q 0)), o 4 (.bin .geq (q 3) (.const (.int .i64 2)) (some (.int .i64))), o 5 (.mov (q 4)), ⟨some 6, .mov (q 0), some (5, true)⟩, ⟨some 7, .bin .leq (q 6) (.const (.int .i64 14)) (some (.int .i64)), some (5, true)⟩, o 8 (.pick (q 5) (q 7) (.const (.bool false))), o 2 (.mov (q 8))])
  .ret))⟩
theorem F38_ok : compF Tryz.prog 38 = some F38 := by kernel_rfl
/-- colonnade/stats.isBound -/
def F39 : FC := ⟨32, [.tmp 4],
  (.seq (.ops [o 2 (.box (q 0)), o 3 (.box (q 1)), o 4 (.mov (.const (.bool false)))])
  (.seq (.seq (.ops [o 5 (.fieldAddr 0 (q 3)), o 6 (.load false 1 (q 5)), o 7 (.mov (q 6)), ⟨some 8, .fieldAddr 3 (q 3), some (7, false)⟩, ⟨some 9, .load false 1 (q 8), some (7, false)⟩, ⟨some 10, .len 1 (q 9), some (7, false)⟩, ⟨some 11, .bin .gtr (q 10) (.const (.int .i64 0)) (some (.int .i64)), some (7, false)⟩, o 12 (.pick (q 7) (.const (.bool true)) (q 11))])
  (.cond (q 12)
  (.seq (.ops [o 4 (.mov (.const (.bool false)))])
  .ret)
  .skip))
  (.seq (.seq (.ops [o 13 (.fieldAddr 2 (q 2)), o 14 (.fieldAddr 0 (q 13)), o 15 (.load false 1 (q 14)), o 16 (.call 40 [.tmp 15])])
  (.cond (q 16)
  (.seq (.ops [o 17 (.fieldAddr 1 (q 3)), o 18 (.load false 1 (q 17)), o 19 (.bin .eql (q 18) (.const (.int .i64 0)) (some (.int .i64))), o 20 (.mov (q 19)), ⟨some 21, .fieldAddr 2 (q 3), some (20, true)⟩, ⟨some 22, .load false 1 (q 21), some (20, true)⟩, ⟨some 23, .len 0 (q 22), some (20, true)⟩, ⟨some 24, .bin .leq (q 23) (.const (.int .i64 16)) (some (.int .i64)), some (20, true)⟩, o 25 (.pick (q 20) (q 24) (.const (.bool false))), o 4 (.mov (q 25))])
  .ret)
  .skip))
  (.seq (.ops [o 26 (.fieldAddr 2 (q 2)), o 27 (.load true 5 (q 26)), o 28 (.build [(.string ⟨#[]⟩), (.bool false), (.int .i64 0), (.int .i64 0), (.int .i64 0), (.int .i64 0), (.slice none 0 0)] [(0, 1, (.const (.string ⟨#[97]⟩))), (2, 5, (q 27))]), o 29 (.load true 4 (q 3)), o 30 (.call 62 [.tmp 28, .tmp 29]), o 31 (.bin .eql (q 30) (.const (.int .i64 0)) (some (.int .i64))), o 4 (.mov (q 31))])
  .ret))))⟩
theorem F39_ok : compF Tryz.prog 39 = some F39 := by kernel_rfl
/-- colonnade/stats.isText -/
def F40 : FC := ⟨9, [.tmp 2],
  (.seq (.ops [o 2 (.mov (.const (.bool false)))])
  (.seq (.ops [o 3 (.mov (q 0)), o 4 (.bin .geq (q 3) (.const (.int .i64 12)) (some (.int .i64))), o 5 (.mov (q 4)), ⟨some 6, .mov (q 0), some (5, true)⟩, ⟨some 7, .bin .leq (q 6) (.const (.int .i64 14)) (some (.int .i64)), some (5, true)⟩, o 8 (.pick (q 5) (q 7) (.const (.bool false))), o 2 (.mov (q 8))])
  .ret))⟩
theorem F40_ok : compF Tryz.prog 40 = some F40 := by kernel_rfl
/-- colonnade/value.Compare -/
def F42 : FC := ⟨27, [.tmp 6, .tmp 7],
  (.seq (.ops [o 3 (.box (q 0)), o 4 (.box (q 1)), o 5 (.box (q 2)), o 6 (.mov (.const (.int .i64 0))), o 7 (.mov (.const (.int .i64 0)))])
  (.seq (.block 0 (.seq (.ops [o 9 (.load true 7 (q 3)), o 10 (.call 64 [.tmp 9]), o 11 (.un .not (q 10)), o 8 (.mov (q 11))])
  (.cond (q 8)
  (.seq (.ops [o 6 (.mov (.const (.int .i64 0))), o 7 (.mov (.const (.int .i64 5)))])
  .ret)
  (.seq (.ops [o 13 (.load true 7 (q 3)), o 14 (.load true 4 (q 4)), o 15 (.call 65 [.tmp 13, .tmp 14]), o 16 (.un .not (q 15)), o 17 (.mov (q 16)), ⟨some 18, .load true 7 (q 3), some (17, false)⟩, ⟨some 19, .load true 4 (q 5), some (17, false)⟩, ⟨some 20, .call 65 [.tmp 18, .tmp 19], some (17, false)⟩, ⟨some 21, .un .not (q 20), some (17, false)⟩, o 22 (.pick (q 17) (.const (.bool true)) (q 21)), o 12 (.mov (q 22))])
  (.cond (q 12)
  (.seq (.ops [o 6 (.mov (.const (.int .i64 0))), o 7 (.mov (.const (.int .i64 7)))])
  .ret)
  .skip)))))
  (.seq (.ops [o 23 (.load true 7 (q 3)), o 24 (.load true 4 (q 4)), o 25 (.load true 4 (q 5)), o 26 (.call 66 [.tmp 23, .tmp 24, .tmp 25]), o 6 (.mov (q 26)), o 7 (.mov (.const (.int .i64 0)))])
  .ret)))⟩
theorem F42_ok : compF Tryz.prog 42 = some F42 := by kernel_rfl
/-- colonnade/colonnaderef03.CheckField -/
def F43 : FC := ⟨17, [.cell 2 true 3],
  (.seq (.ops [o 1 (.box (q 0)), o 2 (.alloc [.int .i64 0, .slice none 0 0, .int .i64 0])])
  (.seq (.ops [o 4 (.load true 7 (q 1)), o 5 (.buildSlice 7 1 [(.string ⟨#[]⟩), (.bool false), (.int .i64 0), (.int .i64 0), (.int .i64 0), (.int .i64 0), (.slice none 0 0)] [(0, 7, (q 4))]), o 6 (.build [.slice none 0 0, .slice none 0 0] [(0, 1, (q 5))]), o 7 (.call 28 [.tmp 6]), o 3 (.alloc [.int .i64 0, .slice none 0 0, .int .i64 0]), ⟨none, .store 3 (q 3) (q 7), none⟩])
  (.seq (.seq (.ops [o 8 (.fieldAddr 1 (q 3)), o 9 (.load false 1 (q 8)), o 10 (.len 1 (q 9)), o 11 (.bin .gtr (q 10) (.const (.int .i64 0)) (some (.int .i64)))])
  (.cond (q 11)
  (.ops [o 12 (.fieldAddr 1 (q 3)), o 13 (.load false 1 (q 12)), o 14 (.slice 1 (q 13) (some (.const (.int .i64 1))) none none), o 15 (.fieldAddr 1 (q 3)), ⟨none, .store 1 (q 15) (q 14), none⟩])
  .skip))
  (.seq (.ops [o 16 (.load true 3 (q 3)), ⟨none, .store 3 (q 2) (q 16), none⟩])
  .ret))))⟩
theorem F43_ok : compF Tryz.prog 43 = some F43 := by kernel_rfl
/-- colonnade/colonnaderef23.zero -/
def F44 : FC := ⟨22, [.tmp 2],
  (.seq (.ops [o 1 (.box (q 0)), o 2 (.mov (.const (.bool false)))])
  (.seq (.ops [o 3 (.fieldAddr 0 (q 1)), o 4 (.load false 1 (q 3)), o 5 (.un .not (q 4)), o 6 (.mov (q 5)), ⟨some 7, .fieldAddr 1 (q 1), some (6, true)⟩, ⟨some 8, .load false 1 (q 7), some (6, true)⟩, ⟨some 9, .bin .eql (q 8) (.const (.int .i64 0)) (some (.int .i64)), some (6, true)⟩, o 10 (.pick (q 6) (q 9) (.const (.bool false))), o 11 (.mov (q 10)), ⟨some 12, .fieldAddr 2 (q 1), some (11, true)⟩, ⟨some 13, .load false 1 (q 12), some (11, true)⟩, ⟨some 14, .bin .eql (q 13) (.const (.string ⟨#[]⟩)) (some .string), some (11, true)⟩, o 15 (.pick (q 11) (q 14) (.const (.bool false))), o 16 (.mov (q 15)), ⟨some 17, .fieldAddr 3 (q 1), some (16, true)⟩, ⟨some 18, .load false 1 (q 17), some (16, true)⟩, ⟨some 19, .len 1 (q 18), some (16, true)⟩, ⟨some 20, .bin .eql (q 19) (.const (.int .i64 0)) (some (.int .i64)), some (16, true)⟩, o 21 (.pick (q 16) (q 20) (.const (.bool false))), o 2 (.mov (q 21))])
  .ret))⟩
theorem F44_ok : compF Tryz.prog 44 = some F44 := by kernel_rfl
/-- colonnade/colonnaderef23.Bounded -/
def F45 : FC := ⟨17, [.tmp 2],
  (.seq (.ops [o 2 (.mov (.const (.bool false)))])
  (.seq (.ops [o 3 (.mov (q 0)), o 4 (.bin .eql (q 3) (.const (.int .i64 2)) (some (.int .i64))), o 5 (.mov (q 4)), ⟨some 6, .mov (q 0), some (5, false)⟩, ⟨some 7, .bin .geq (q 6) (.const (.int .i64 3)) (some (.int .i64)), some (5, false)⟩, ⟨some 8, .mov (q 7), some (5, false)⟩, ⟨some 9, .mov (q 0), some (8, true)⟩, ⟨some 10, .bin .leq (q 9) (.const (.int .i64 11)) (some (.int .i64)), some (8, true)⟩, ⟨some 11, .pick (q 8) (q 10) (.const (.bool false)), some (5, false)⟩, o 12 (.pick (q 5) (.const (.bool true)) (q 11)), o 13 (.mov (q 12)), ⟨some 14, .mov (q 0), some (13, false)⟩, ⟨some 15, .call 57 [.tmp 14], some (13, false)⟩, o 16 (.pick (q 13) (.const (.bool true)) (q 15)), o 2 (.mov (q 16))])
  .ret))⟩
theorem F45_ok : compF Tryz.prog 45 = some F45 := by kernel_rfl
/-- colonnade/colonnaderef23.bound -/
def F46 : FC := ⟨33, [.tmp 4],
  (.seq (.ops [o 3 (.box (q 1)), o 4 (.mov (.const (.bool false)))])
  (.seq (.seq (.ops [o 5 (.fieldAddr 0 (q 3)), o 6 (.load false 1 (q 5)), o 7 (.mov (q 6)), ⟨some 8, .fieldAddr 3 (q 3), some (7, false)⟩, ⟨some 9, .load false 1 (q 8), some (7, false)⟩, ⟨some 10, .len 1 (q 9), some (7, false)⟩, ⟨some 11, .bin .gtr (q 10) (.const (.int .i64 0)) (some (.int .i64)), some (7, false)⟩, o 12 (.pick (q 7) (.const (.bool true)) (q 11))])
  (.cond (q 12)
  (.seq (.ops [o 4 (.mov (.const (.bool false)))])
  .ret)
  .skip))
  (.seq (.seq (.ops [o 13 (.mov (q 0)), o 14 (.call 57 [.tmp 13])])
  (.cond (q 14)
  (.seq (.ops [o 15 (.fieldAddr 1 (q 3)), o 16 (.load false 1 (q 15)), o 17 (.bin .eql (q 16) (.const (.int .i64 0)) (some (.int .i64))), o 18 (.mov (q 17)), ⟨some 19, .fieldAddr 2 (q 3), some (18, true)⟩, ⟨some 20, .load false 1 (q 19), some (18, true)⟩, ⟨some 21, .len 0 (q 20), some (18, true)⟩, ⟨some 22, .bin .leq (q 21) (.const (.int .i64 16)) (some (.int .i64)), some (18, true)⟩, o 23 (.pick (q 18) (q 22) (.const (.bool false))), o 4 (.mov (q 23))])
  .ret)
  .skip))
  (.seq (.ops [o 24 (.fieldAddr 2 (q 3)), o 25 (.load false 1 (q 24)), o 26 (.bin .eql (q 25) (.const (.string ⟨#[]⟩)) (some .string)), o 27 (.mov (q 26)), ⟨some 28, .mov (q 0), some (27, true)⟩, ⟨some 30, .load true 4 (q 3), some (27, true)⟩, ⟨some 29, .call 49 [.tmp 28], some (27, true)⟩, ⟨none, .again 30 true 4 (q 3), some (27, true)⟩, ⟨some 31, .call 67 [.tmp 29, .tmp 30], some (27, true)⟩, o 32 (.pick (q 27) (q 31) (.const (.bool false))), o 4 (.mov (q 32))])
  .ret))))⟩
theorem F46_ok : compF Tryz.prog 46 = some F46 := by kernel_rfl
/-- colonnade/colonnaderef17.Plain -/
def F47 : FC := ⟨43, [.cell 2 true 7],
  (.seq (.ops [o 1 (.box (q 0)), o 2 (.alloc [(.string ⟨#[]⟩), (.bool false), (.int .i64 0), (.int .i64 0), (.int .i64 0), (.int .i64 0), (.slice none 0 0)])])
  (.seq (.block 0 (.loop (.seq (.seq (.ops [o 5 (.fieldAddr 2 (q 1)), o 6 (.fieldAddr 0 (q 5)), o 7 (.load false 1 (q 6)), o 8 (.bin .eql (q 7) (.const (.int .i64 19)) (some (.int .i64))), o 9 (.mov (q 8)), ⟨some 10, .fieldAddr 2 (q 1), some (9, false)⟩, ⟨some 11, .fieldAddr 0 (q 10), some (9, false)⟩, ⟨some 12, .load false 1 (q 11), some (9, false)⟩, ⟨some 13, .bin .eql (q 12) (.const (.int .i64 20)) (some (.int .i64)), some (9, false)⟩, o 14 (.pick (q 9) (.const (.bool true)) (q 13)), o 15 (.mov (q 14)), ⟨some 16, .fieldAddr 2 (q 1), some (15, true)⟩, ⟨some 17, .fieldAddr 4 (q 16), some (15, true)⟩, ⟨some 18, .load false 1 (q 17), some (15, true)⟩, ⟨some 19, .len 1 (q 18), some (15, true)⟩, ⟨some 20, .bin .eql (q 19) (.const (.int .i64 1)) (some (.int .i64)), some (15, true)⟩, o 21 (.pick (q 15) (q 20) (.const (.bool false)))])
  (.cond (q 21)
  .skip
  (.exit 0)))
  (.block 1 (.seq (.ops [o 22 (.fieldAddr 2 (q 1)), o 23 (.fieldAddr 4 (q 22)), o 24 (.load false 1 (q 23)), o 25 (.indexAddr 7 (q 24) (.const (.int .i64 0))), o 26 (.load true 7 (q 25)), o 3 (.alloc [(.string ⟨#[]⟩), (.bool false), (.int .i64 0), (.int .i64 0), (.int .i64 0), (.int .i64 0), (.slice none 0 0)]), ⟨none, .store 7 (q 3) (q 26), none⟩])
  (.seq (.ops [o 27 (.fieldAddr 0 (q 1)), o 28 (.load false 1 (q 27)), o 29 (.fieldAddr 1 (q 3)), o 30 (.load false 1 (q 29)), o 31 (.fieldAddr 2 (q 3)), o 32 (.load true 5 (q 31)), o 33 (.build [(.string ⟨#[]⟩), (.bool false), (.int .i64 0), (.int .i64 0), (.int .i64 0), (.int .i64 0), (.slice none 0 0)] [(0, 1, (q 28)), (1, 1, (q 30)), (2, 5, (q 32))]), o 4 (.alloc [(.string ⟨#[]⟩), (.bool false), (.int .i64 0), (.int .i64 0), (.int .i64 0), (.int .i64 0), (.slice none 0 0)]), ⟨none, .store 7 (q 4) (q 33), none⟩])
  (.seq (.seq (.ops [o 34 (.fieldAddr 2 (q 1)), o 35 (.fieldAddr 0 (q 34)), o 36 (.load false 1 (q 35)), o 37 (.bin .eql (q 36) (.const (.int .i64 19)) (some (.int .i64)))])
  (.cond (q 37)
  (.ops [o 38 (.fieldAddr 1 (q 1)), o 39 (.load false 1 (q 38)), o 40 (.fieldAddr 1 (q 4)), ⟨none, .store 1 (q 40) (q 39), none⟩])
  .skip))
  (.ops [o 41 (.load true 7 (q 4)), ⟨none, .store 7 (q 1) (q 41), none⟩]))))))))
  (.seq (.ops [o 42 (.load true 7 (q 1)), ⟨none, .store 7 (q 2) (q 42), none⟩])
  .ret)))⟩
theorem F47_ok : compF Tryz.prog 47 = some F47 := by kernel_rfl
end Go.Proofs.YtecephhhjhpcjaaGreatDoor.Stats
end
