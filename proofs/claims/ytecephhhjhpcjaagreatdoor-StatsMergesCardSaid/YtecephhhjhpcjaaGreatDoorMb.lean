/- YtecephhhjhpcjaaGreatDoorMb: the texts Scb, brought together. No conditions. -/
import Derived.Test.YtecephhhjhpcjaaGreatDoorMa
import Derived.Test.YtecephhhjhpcjaaGreatDoorX22
import Derived.Test.YtecephhhjhpcjaaGreatDoorProg
import Derived.KernelRfl
section
set_option linter.unusedVariables false
namespace Go.Proofs.YtecephhhjhpcjaaGreatDoor.Stats
open Go Go.Proofs.YtecephhhjhpcjaaGreatDoor Go.Proofs.YtecephhhjhpcjaaGreatDoor.Em
/-- colonnade/colonnaderef04.Order -/
def F48 : FC := ⟨146, [.tmp 6],
  (.seq (.ops [o 3 (.box (q 0)), o 4 (.box (q 1)), o 5 (.box (q 2)), o 6 (.mov (.const (.int .i64 0)))])
  (.seq (.ops [o 8 (.fieldAddr 2 (q 3)), o 9 (.load true 5 (q 8)), o 7 (.alloc [.int .i64 0, .int .i64 0, .int .i64 0, .int .i64 0, .slice none 0 0]), ⟨none, .store 5 (q 7) (q 9), none⟩])
  (.seq (.seq (.ops [o 10 (.fieldAddr 0 (q 4)), o 11 (.load false 1 (q 10)), o 12 (.mov (q 11)), ⟨some 13, .fieldAddr 0 (q 5), some (12, false)⟩, ⟨some 14, .load false 1 (q 13), some (12, false)⟩, o 15 (.pick (q 12) (.const (.bool true)) (q 14))])
  (.cond (q 15)
  (.seq (.ops [o 16 (.fieldAddr 0 (q 4)), o 17 (.load false 1 (q 16)), o 18 (.mov (q 17)), ⟨some 19, .fieldAddr 0 (q 5), some (18, true)⟩, ⟨some 20, .load false 1 (q 19), some (18, true)⟩, ⟨some 21, .un .not (q 20), some (18, true)⟩, o 22 (.pick (q 18) (q 21) (.const (.bool false))), o 23 (.fieldAddr 0 (q 5)), o 24 (.load false 1 (q 23)), o 25 (.mov (q 24)), ⟨some 26, .fieldAddr 0 (q 4), some (25, true)⟩, ⟨some 27, .load false 1 (q 26), some (25, true)⟩, ⟨some 28, .un .not (q 27), some (25, true)⟩, o 29 (.pick (q 25) (q 28) (.const (.bool false))), o 30 (.call 68 [.tmp 22, .tmp 29]), o 6 (.mov (q 30))])
  .ret)
  .skip))
  (.seq (.seq (.ops [o 31 (.fieldAddr 0 (q 7)), o 32 (.load false 1 (q 31))])
  (.block 0 (.seq (.seq (.ops [o 34 (.bin .eql (q 32) (.const (.int .i64 19)) (some (.int .i64))), o 33 (.mov (q 34))])
  (.cond (q 33)
  .skip
  (.ops [o 35 (.bin .eql (q 32) (.const (.int .i64 20)) (some (.int .i64))), o 33 (.mov (q 35))])))
  (.cond (q 33)
  (.seq (.ops [o 36 (.fieldAddr 4 (q 7)), o 37 (.load false 1 (q 36)), o 38 (.indexAddr 7 (q 37) (.const (.int .i64 0))), o 39 (.load true 7 (q 38)), o 40 (.load true 4 (q 4)), o 41 (.load true 4 (q 5)), o 42 (.call 48 [.tmp 39, .tmp 40, .tmp 41]), o 6 (.mov (q 42))])
  .ret)
  (.seq (.ops [o 44 (.bin .eql (q 32) (.const (.int .i64 10)) (some (.int .i64))), o 43 (.mov (q 44))])
  (.cond (q 43)
  (.seq (.ops [o 45 (.fieldAddr 1 (q 4)), o 46 (.load false 1 (q 45)), o 47 (.conv .u64 (q 46)), o 48 (.fieldAddr 1 (q 5)), o 49 (.load false 1 (q 48)), o 50 (.conv .u64 (q 49)), o 51 (.bin .lss (q 47) (q 50) (some (.int .u64))), o 52 (.fieldAddr 1 (q 4)), o 53 (.load false 1 (q 52)), o 54 (.conv .u64 (q 53)), o 55 (.fieldAddr 1 (q 5)), o 56 (.load false 1 (q 55)), o 57 (.conv .u64 (q 56)), o 58 (.bin .gtr (q 54) (q 57) (some (.int .u64))), o 59 (.call 68 [.tmp 51, .tmp 58]), o 6 (.mov (q 59))])
  .ret)
  (.seq (.ops [o 61 (.bin .eql (q 32) (.const (.int .i64 11)) (some (.int .i64))), o 60 (.mov (q 61))])
  (.cond (q 60)
  (.seq (.ops [o 62 (.fieldAddr 1 (q 4)), o 63 (.load false 1 (q 62)), o 65 (.fieldAddr 1 (q 5)), o 66 (.load false 1 (q 65)), o 69 (.fieldAddr 1 (q 4)), o 70 (.load false 1 (q 69)), o 72 (.fieldAddr 1 (q 5)), o 73 (.load false 1 (q 72)), o 64 (.call 69 [.tmp 63]), ⟨none, .again 73 false 1 (q 72), none⟩, ⟨none, .again 70 false 1 (q 69), none⟩, ⟨none, .again 66 false 1 (q 65), none⟩, o 67 (.call 69 [.tmp 66]), ⟨none, .again 73 false 1 (q 72), none⟩, ⟨none, .again 70 false 1 (q 69), none⟩, o 68 (.bin .lss (q 64) (q 67) (some (.int .u64))), o 71 (.call 69 [.tmp 70]), ⟨none, .again 73 false 1 (q 72), none⟩, o 74 (.call 69 [.tmp 73]), o 75 (.bin .gtr (q 71) (q 74) (some (.int .u64))), o 76 (.call 68 [.tmp 68, .tmp 75]), o 6 (.mov (q 76))])
  .ret)
  (.seq (.seq (.ops [o 78 (.bin .eql (q 32) (.const (.int .i64 12)) (some (.int .i64))), o 77 (.mov (q 78))])
  (.cond (q 77)
  .skip
  (.seq (.ops [o 79 (.bin .eql (q 32) (.const (.int .i64 13)) (some (.int .i64))), o 77 (.mov (q 79))])
  (.cond (q 77)
  .skip
  (.ops [o 80 (.bin .eql (q 32) (.const (.int .i64 14)) (some (.int .i64))), o 77 (.mov (q 80))])))))
  (.cond (q 77)
  (.seq (.ops [o 81 (.fieldAddr 2 (q 4)), o 82 (.load false 1 (q 81)), o 83 (.fieldAddr 2 (q 5)), o 84 (.load false 1 (q 83)), o 85 (.bin .lss (q 82) (q 84) (some .string)), o 86 (.fieldAddr 2 (q 4)), o 87 (.load false 1 (q 86)), o 88 (.fieldAddr 2 (q 5)), o 89 (.load false 1 (q 88)), o 90 (.bin .gtr (q 87) (q 89) (some .string)), o 91 (.call 68 [.tmp 85, .tmp 90]), o 6 (.mov (q 91))])
  .ret)
  (.seq (.ops [o 93 (.bin .eql (q 32) (.const (.int .i64 18)) (some (.int .i64))), o 92 (.mov (q 93))])
  (.cond (q 92)
  (.seq (.seq (.ops [o 94 (.fieldAddr 1 (q 4)), o 95 (.load false 1 (q 94)), o 96 (.fieldAddr 1 (q 5)), o 97 (.load false 1 (q 96)), o 98 (.bin .neq (q 95) (q 97) (some (.int .i64)))])
  (.cond (q 98)
  (.seq (.ops [o 99 (.fieldAddr 1 (q 4)), o 100 (.load false 1 (q 99)), o 101 (.fieldAddr 1 (q 5)), o 102 (.load false 1 (q 101)), o 103 (.bin .lss (q 100) (q 102) (some (.int .i64))), o 104 (.fieldAddr 1 (q 4)), o 105 (.load false 1 (q 104)), o 106 (.fieldAddr 1 (q 5)), o 107 (.load false 1 (q 106)), o 108 (.bin .gtr (q 105) (q 107) (some (.int .i64))), o 109 (.call 68 [.tmp 103, .tmp 108]), o 6 (.mov (q 109))])
  .ret)
  .skip))
  (.seq (.ops [o 110 (.fieldAddr 4 (q 7)), o 111 (.load false 1 (q 110)), o 112 (.fieldAddr 1 (q 4)), o 113 (.load false 1 (q 112)), o 114 (.indexAddr 7 (q 111) (q 113)), o 115 (.load true 7 (q 114)), o 116 (.fieldAddr 3 (q 4)), o 117 (.load false 1 (q 116)), o 118 (.indexAddr 4 (q 117) (.const (.int .i64 0))), o 119 (.load true 4 (q 118)), o 120 (.fieldAddr 3 (q 5)), o 121 (.load false 1 (q 120)), o 122 (.indexAddr 4 (q 121) (.const (.int .i64 0))), o 123 (.load true 4 (q 122)), o 124 (.call 48 [.tmp 115, .tmp 119, .tmp 123]), o 6 (.mov (q 124))])
  .ret))
  (.seq (.seq (.ops [o 126 (.bin .eql (q 32) (.const (.int .i64 15)) (some (.int .i64))), o 125 (.mov (q 126))])
  (.cond (q 125)
  .skip
  (.seq (.ops [o 127 (.bin .eql (q 32) (.const (.int .i64 16)) (some (.int .i64))), o 125 (.mov (q 127))])
  (.cond (q 125)
  .skip
  (.ops [o 128 (.bin .eql (q 32) (.const (.int .i64 17)) (some (.int .i64))), o 125 (.mov (q 128))])))))
  (.cond (q 125)
  (.seq (.ops [o 129 (.load true 5 (q 7)), o 130 (.fieldAddr 3 (q 4)), o 131 (.load false 1 (q 130)), o 132 (.fieldAddr 3 (q 5)), o 133 (.load false 1 (q 132)), o 134 (.call 70 [.tmp 129, .tmp 131, .tmp 133]), o 6 (.mov (q 134))])
  .ret)
  .skip))))))))))))))
  (.seq (.ops [o 135 (.fieldAddr 1 (q 4)), o 136 (.load false 1 (q 135)), o 137 (.fieldAddr 1 (q 5)), o 138 (.load false 1 (q 137)), o 139 (.bin .lss (q 136) (q 138) (some (.int .i64))), o 140 (.fieldAddr 1 (q 4)), o 141 (.load false 1 (q 140)), o 142 (.fieldAddr 1 (q 5)), o 143 (.load false 1 (q 142)), o 144 (.bin .gtr (q 141) (q 143) (some (.int .i64))), o 145 (.call 68 [.tmp 139, .tmp 144]), o 6 (.mov (q 145))])
  .ret)))))⟩
theorem F48_ok : compF Tryz.prog 48 = some F48 := by kernel_rfl
/-- colonnade/colonnaderef23.simple -/
def F49 : FC := ⟨8, [.cell 2 true 7],
  (.seq (.ops [o 2 (.alloc [(.string ⟨#[]⟩), (.bool false), (.int .i64 0), (.int .i64 0), (.int .i64 0), (.int .i64 0), (.slice none 0 0)])])
  (.seq (.seq (.ops [o 3 (.mov (q 0)), o 4 (.call 57 [.tmp 3])])
  (.cond (q 4)
  (.ops [o 0 (.mov (.const (.int .i64 13)))])
  .skip))
  (.seq (.ops [o 5 (.mov (q 0)), o 6 (.build [.int .i64 0, .int .i64 0, .int .i64 0, .int .i64 0, .slice none 0 0] [(0, 1, (q 5))]), o 7 (.build [(.string ⟨#[]⟩), (.bool false), (.int .i64 0), (.int .i64 0), (.int .i64 0), (.int .i64 0), (.slice none 0 0)] [(0, 1, (.const (.string ⟨#[120]⟩))), (2, 5, (q 6))]), ⟨none, .store 7 (q 2) (q 7), none⟩])
  .ret)))⟩
theorem F49_ok : compF Tryz.prog 49 = some F49 := by kernel_rfl
/-- colonnade/array.Open -/
def F50 : FC := ⟨20, [.tmp 4, .cell 5 true 3],
  (.seq (.ops [o 2 (.box (q 0)), o 3 (.box (q 1)), o 4 (.mov (.const (.pointer none))), o 5 (.alloc [.int .i64 0, .slice none 0 0, .int .i64 0])])
  (.seq (.seq (.ops [o 7 (.load true 7 (q 2)), o 8 (.load true 6 (q 3)), o 9 (.call 71 [.tmp 7, .tmp 8]), o 6 (.alloc [.int .i64 0, .slice none 0 0, .int .i64 0]), ⟨none, .store 3 (q 6) (q 9), none⟩])
  (.seq (.ops [o 10 (.fieldAddr 0 (q 6)), o 11 (.load false 1 (q 10)), o 12 (.bin .neq (q 11) (.const (.int .i64 0)) (some (.int .i64)))])
  (.cond (q 12)
  (.seq (.ops [o 13 (.load true 3 (q 6)), o 4 (.mov (.const (.pointer none))), ⟨none, .store 3 (q 5) (q 13), none⟩])
  .ret)
  .skip)))
  (.seq (.ops [o 14 (.load true 7 (q 2)), o 16 (.load true 6 (q 3)), o 19 (.build [.int .i64 0, .slice none 0 0, .int .i64 0] []), o 15 (.call 73 [.tmp 14]), ⟨none, .again 16 true 6 (q 3), none⟩, o 17 (.call 74 [.tmp 16]), o 18 (.call 72 [.tmp 15, .tmp 17, (.const (.pointer none))]), o 4 (.mov (q 18)), ⟨none, .store 3 (q 5) (q 19), none⟩])
  .ret)))⟩
theorem F50_ok : compF Tryz.prog 50 = some F50 := by kernel_rfl
/-- (*colonnade/array.Array).Len -/
def F51 : FC := ⟨7, [.tmp 2],
  (.seq (.ops [o 2 (.mov (.const (.int .i64 0)))])
  (.seq (.ops [o 3 (.mov (q 0)), o 4 (.nilCheck (q 3)), o 5 (.fieldAddr 14 (q 4)), o 6 (.load false 1 (q 5)), o 2 (.mov (q 6))])
  .ret))⟩
theorem F51_ok : compF Tryz.prog 51 = some F51 := by kernel_rfl
/-- (*colonnade/array.Array).All -/
def F52 : FC := ⟨4, [.tmp 2],
  (.seq (.ops [o 1 (.box (q 0)), o 2 (.mov (.const .nilFunc))])
  (.seq (.ops [o 3 (.mkFunc (.func 75) [] [.tmp 1]), o 2 (.mov (q 3))])
  .ret))⟩
theorem F52_ok : compF Tryz.prog 52 = some F52 := by kernel_rfl
/-- colonnade/colonnaderef03.grow -/
def F55 : FC := ⟨63, [.tmp 8],
  (.seq (.ops [o 8 (.mov (.const (.slice none 0 0)))])
  (.seq (.seq (.ops [o 12 (.mov (q 0)), o 13 (.len 1 (q 12)), o 14 (.mov (.const (.int .i64 0)))])
  (.block 0 (.loop (.seq (.ops [o 15 (.bin .lss (q 14) (q 13) (some (.int .i64)))])
  (.seq (.cond (q 15)
  .skip
  (.exit 0))
  (.seq (.block 1 (.seq (.ops [o 16 (.mov (q 14)), o 17 (.indexAddr 7 (q 12) (q 14)), o 18 (.load true 7 (q 17)), o 10 (.alloc [(.string ⟨#[]⟩), (.bool false), (.int .i64 0), (.int .i64 0), (.int .i64 0), (.int .i64 0), (.slice none 0 0)]), o 9 (.mov (q 16)), ⟨none, .store 7 (q 10) (q 18), none⟩])
  (.seq (.seq (.ops [o 19 (.mov (q 3)), o 20 (.len 1 (q 19)), o 21 (.bin .gtr (q 20) (.const (.int .i64 256)) (some (.int .i64)))])
  (.cond (q 21)
  (.seq (.ops [o 22 (.mov (q 3)), o 8 (.mov (q 22))])
  .ret)
  .skip))
  (.seq (.ops [o 23 (.mov (q 1)), o 24 (.len 1 (q 23)), o 25 (.bin .add (q 24) (.const (.int .i64 1)) (some (.int .i64))), o 26 (.mkSlice 1 8 [.int .i64 0] (q 25) (q 25)), o 11 (.mov (q 26))])
  (.seq (.ops [o 27 (.mov (q 11)), o 28 (.mov (q 1)), o 29 (.copy 1 (q 27) (q 28))])
  (.seq (.ops [o 30 (.mov (q 11)), o 31 (.mov (q 1)), o 32 (.len 1 (q 31)), o 33 (.mov (q 9)), o 34 (.indexAddr 1 (q 30) (q 32)), ⟨none, .store 1 (q 34) (q 33), none⟩])
  (.seq (.ops [o 35 (.mov (q 3)), o 36 (.mov (q 11)), o 37 (.load true 7 (q 10)), o 38 (.mov (q 0)), o 39 (.mov (q 9)), o 40 (.slice 7 (q 38) none (some (q 39)) none), o 41 (.mov (q 2)), o 42 (.build [(.slice none 0 0), (.string ⟨#[]⟩), (.bool false), (.int .i64 0), (.int .i64 0), (.int .i64 0), (.int .i64 0), (.slice none 0 0), (.slice none 0 0), (.bool false)] [(0, 1, (q 36)), (1, 7, (q 37)), (8, 1, (q 40)), (9, 1, (q 41))]), o 43 (.buildSlice 10 1 [(.slice none 0 0), (.string ⟨#[]⟩), (.bool false), (.int .i64 0), (.int .i64 0), (.int .i64 0), (.int .i64 0), (.slice none 0 0), (.slice none 0 0), (.bool false)] [(0, 10, (q 42))]), o 44 (.append 10 136 (q 35) (q 43)), o 3 (.mov (q 44))])
  (.seq (.ops [o 45 (.mov (q 11)), o 46 (.len 1 (q 45)), o 47 (.bin .leq (q 46) (.const (.int .i64 64)) (some (.int .i64)))])
  (.cond (q 47)
  (.ops [o 48 (.fieldAddr 2 (q 10)), o 49 (.fieldAddr 4 (q 48)), o 50 (.load false 1 (q 49)), o 51 (.mov (q 11)), o 52 (.mov (q 2)), o 53 (.mov (q 52)), ⟨some 54, .fieldAddr 2 (q 10), some (53, false)⟩, ⟨some 55, .fieldAddr 0 (q 54), some (53, false)⟩, ⟨some 56, .load false 1 (q 55), some (53, false)⟩, ⟨some 57, .bin .eql (q 56) (.const (.int .i64 19)) (some (.int .i64)), some (53, false)⟩, o 58 (.pick (q 53) (.const (.bool true)) (q 57)), o 59 (.mov (q 3)), o 60 (.call 55 [.tmp 50, .tmp 51, .tmp 58, .tmp 59]), o 3 (.mov (q 60))])
  .skip)))))))))
  (.ops [o 61 (.bin .add (q 14) (.const (.int .i64 1)) (some (.int .i64))), o 14 (.mov (q 61))])))))))
  (.seq (.ops [o 62 (.mov (q 3)), o 8 (.mov (q 62))])
  .ret)))⟩
theorem F55_ok : compF Tryz.prog 55 = some F55 := by kernel_rfl
/-- colonnade/colonnaderef03.wrong -/
def F56 : FC := ⟨95, [.tmp 4],
  (.seq (.ops [o 4 (.mov (.const (.int .i64 0)))])
  (.seq (.ops [o 11 (.mov (q 0)), o 12 (.mov (q 1)), o 13 (.indexAddr 10 (q 11) (q 12)), o 14 (.load true 10 (q 13)), o 5 (.alloc [(.slice none 0 0), (.string ⟨#[]⟩), (.bool false), (.int .i64 0), (.int .i64 0), (.int .i64 0), (.int .i64 0), (.slice none 0 0), (.slice none 0 0), (.bool false)]), ⟨none, .store 10 (q 5) (q 14), none⟩])
  (.seq (.ops [o 15 (.fieldAddr 1 (q 5)), o 16 (.load true 7 (q 15)), o 6 (.alloc [(.string ⟨#[]⟩), (.bool false), (.int .i64 0), (.int .i64 0), (.int .i64 0), (.int .i64 0), (.slice none 0 0)]), ⟨none, .store 7 (q 6) (q 16), none⟩])
  (.seq (.seq (.ops [o 17 (.fieldAddr 0 (q 5)), o 18 (.load false 1 (q 17)), o 19 (.len 1 (q 18)), o 20 (.bin .gtr (q 19) (.const (.int .i64 64)) (some (.int .i64)))])
  (.cond (q 20)
  (.seq (.ops [o 4 (.mov (.const (.int .i64 33)))])
  .ret)
  .skip))
  (.seq (.seq (.ops [o 21 (.mov (q 1)), o 22 (.bin .geq (q 21) (.const (.int .i64 256)) (some (.int .i64)))])
  (.cond (q 22)
  (.seq (.ops [o 4 (.mov (.const (.int .i64 34)))])
  .ret)
  .skip))
  (.seq (.seq (.ops [o 23 (.fieldAddr 0 (q 6)), o 24 (.load false 1 (q 23)), o 25 (.call 77 [.tmp 24]), o 26 (.un .not (q 25))])
  (.cond (q 26)
  (.seq (.ops [o 4 (.mov (.const (.int .i64 30)))])
  .ret)
  .skip))
  (.seq (.seq (.ops [o 27 (.fieldAddr 8 (q 5)), o 28 (.load false 1 (q 27)), o 29 (.len 1 (q 28)), o 30 (.mov (.const (.int .i64 0)))])
  (.block 0 (.loop (.seq (.ops [o 31 (.bin .lss (q 30) (q 29) (some (.int .i64)))])
  (.seq (.cond (q 31)
  .skip
  (.exit 0))
  (.seq (.block 1 (.seq (.ops [o 32 (.indexAddr 7 (q 28) (q 30)), o 33 (.load true 7 (q 32)), o 8 (.alloc [(.string ⟨#[]⟩), (.bool false), (.int .i64 0), (.int .i64 0), (.int .i64 0), (.int .i64 0), (.slice none 0 0)]), ⟨none, .store 7 (q 8) (q 33), none⟩])
  (.seq (.ops [o 34 (.fieldAddr 0 (q 8)), o 35 (.load false 1 (q 34)), o 36 (.fieldAddr 0 (q 6)), o 37 (.load false 1 (q 36)), o 38 (.bin .eql (q 35) (q 37) (some .string))])
  (.cond (q 38)
  (.seq (.ops [o 4 (.mov (.const (.int .i64 31)))])
  .ret)
  .skip))))
  (.ops [o 39 (.bin .add (q 30) (.const (.int .i64 1)) (some (.int .i64))), o 30 (.mov (q 39))])))))))
  (.seq (.seq (.ops [o 40 (.fieldAddr 2 (q 6)), o 41 (.load true 5 (q 40)), o 42 (.call 78 [.tmp 41]), o 43 (.un .not (q 42))])
  (.cond (q 43)
  (.seq (.ops [o 4 (.mov (.const (.int .i64 32)))])
  .ret)
  .skip))
  (.seq (.seq (.ops [o 44 (.load true 7 (q 6)), o 45 (.call 79 [.tmp 44]), o 46 (.un .not (q 45))])
  (.cond (q 46)
  (.seq (.ops [o 4 (.mov (.const (.int .i64 35)))])
  .ret)
  .skip))
  (.seq (.seq (.ops [o 47 (.fieldAddr 2 (q 6)), o 48 (.fieldAddr 0 (q 47)), o 49 (.load false 1 (q 48)), o 50 (.bin .eql (q 49) (.const (.int .i64 19)) (some (.int .i64))), o 51 (.mov (q 50)), ⟨some 52, .fieldAddr 2 (q 6), some (51, false)⟩, ⟨some 53, .fieldAddr 0 (q 52), some (51, false)⟩, ⟨some 54, .load false 1 (q 53), some (51, false)⟩, ⟨some 55, .bin .eql (q 54) (.const (.int .i64 20)) (some (.int .i64)), some (51, false)⟩, o 56 (.pick (q 51) (.const (.bool true)) (q 55)), o 57 (.mov (q 56)), ⟨some 58, .fieldAddr 9 (q 5), some (57, true)⟩, ⟨some 59, .load false 1 (q 58), some (57, true)⟩, o 60 (.pick (q 57) (q 59) (.const (.bool false)))])
  (.cond (q 60)
  (.seq (.ops [o 4 (.mov (.const (.int .i64 36)))])
  .ret)
  .skip))
  (.seq (.seq (.ops [o 61 (.fieldAddr 2 (q 6)), o 62 (.fieldAddr 0 (q 61)), o 63 (.load false 1 (q 62)), o 64 (.bin .eql (q 63) (.const (.int .i64 19)) (some (.int .i64)))])
  (.cond (q 64)
  (.seq (.seq (.ops [o 65 (.fieldAddr 2 (q 6)), o 66 (.fieldAddr 4 (q 65)), o 67 (.load false 1 (q 66)), o 68 (.indexAddr 7 (q 67) (.const (.int .i64 0))), o 69 (.fieldAddr 1 (q 68)), o 70 (.load false 1 (q 69))])
  (.cond (q 70)
  (.seq (.ops [o 4 (.mov (.const (.int .i64 36)))])
  .ret)
  .skip))
  (.seq (.ops [o 71 (.mov (q 0)), o 72 (.mov (q 1)), o 73 (.slice 10 (q 71) none (some (q 72)) none), o 74 (.len 1 (q 73)), o 75 (.mov (.const (.int .i64 0)))])
  (.block 2 (.loop (.seq (.ops [o 76 (.bin .lss (q 75) (q 74) (some (.int .i64)))])
  (.seq (.cond (q 76)
  .skip
  (.exit 2))
  (.seq (.block 3 (.seq (.ops [o 77 (.indexAddr 10 (q 73) (q 75)), o 78 (.load true 10 (q 77)), o 10 (.alloc [(.slice none 0 0), (.string ⟨#[]⟩), (.bool false), (.int .i64 0), (.int .i64 0), (.int .i64 0), (.int .i64 0), (.slice none 0 0), (.slice none 0 0), (.bool false)]), ⟨none, .store 10 (q 10) (q 78), none⟩])
  (.seq (.ops [o 79 (.fieldAddr 1 (q 10)), o 80 (.fieldAddr 2 (q 79)), o 81 (.fieldAddr 0 (q 80)), o 82 (.load false 1 (q 81)), o 83 (.bin .eql (q 82) (.const (.int .i64 19)) (some (.int .i64))), o 84 (.mov (q 83)), ⟨some 85, .fieldAddr 1 (q 10), some (84, true)⟩, ⟨some 86, .fieldAddr 2 (q 85), some (84, true)⟩, ⟨some 87, .fieldAddr 2 (q 86), some (84, true)⟩, ⟨some 88, .load false 1 (q 87), some (84, true)⟩, ⟨some 89, .fieldAddr 2 (q 6), some (84, true)⟩, ⟨some 90, .fieldAddr 2 (q 89), some (84, true)⟩, ⟨some 91, .load false 1 (q 90), some (84, true)⟩, ⟨some 92, .bin .eql (q 88) (q 91) (some (.int .i64)), some (84, true)⟩, o 93 (.pick (q 84) (q 92) (.const (.bool false)))])
  (.cond (q 93)
  (.seq (.ops [o 4 (.mov (.const (.int .i64 36)))])
  .ret)
  .skip))))
  (.ops [o 94 (.bin .add (q 75) (.const (.int .i64 1)) (some (.int .i64))), o 75 (.mov (q 94))]))))))))
  .skip))
  (.seq (.ops [o 4 (.mov (.const (.int .i64 0)))])
  .ret))))))))))))⟩
theorem F56_ok : compF Tryz.prog 56 = some F56 := by kernel_rfl
/-- colonnade/colonnaderef23.text -/
def F57 : FC := ⟨13, [.tmp 2],
  (.seq (.ops [o 2 (.mov (.const (.bool false)))])
  (.seq (.ops [o 3 (.mov (q 0)), o 4 (.bin .eql (q 3) (.const (.int .i64 12)) (some (.int .i64))), o 5 (.mov (q 4)), ⟨some 6, .mov (q 0), some (5, false)⟩, ⟨some 7, .bin .eql (q 6) (.const (.int .i64 13)) (some (.int .i64)), some (5, false)⟩, o 8 (.pick (q 5) (.const (.bool true)) (q 7)), o 9 (.mov (q 8)), ⟨some 10, .mov (q 0), some (9, false)⟩, ⟨some 11, .bin .eql (q 10) (.const (.int .i64 14)) (some (.int .i64)), some (9, false)⟩, o 12 (.pick (q 9) (.const (.bool true)) (q 11)), o 2 (.mov (q 12))])
  .ret))⟩
theorem F57_ok : compF Tryz.prog 57 = some F57 := by kernel_rfl
/-- colonnade/kind.all -/
def F58 : FC := ⟨6, [.tmp 4],
  (.seq (.ops [o 2 (.box (q 0)), o 3 (.box (q 1)), o 4 (.mov (.const .nilFunc))])
  (.seq (.ops [o 5 (.mkFunc (.func 80) [] [.tmp 3, .tmp 2]), o 4 (.mov (q 5))])
  .ret))⟩
theorem F58_ok : compF Tryz.prog 58 = some F58 := by kernel_rfl
/-- colonnade/kind.wrong -/
def F59 : FC := ⟨74, [.tmp 6],
  (.seq (.ops [o 3 (.box (q 0)), o 6 (.mov (.const (.int .i64 0)))])
  (.seq (.ops [o 10 (.fieldAddr 2 (q 3)), o 11 (.fieldAddr 2 (q 10)), o 12 (.load true 5 (q 11)), o 7 (.alloc [.int .i64 0, .int .i64 0, .int .i64 0, .int .i64 0, .slice none 0 0]), ⟨none, .store 5 (q 7) (q 12), none⟩])
  (.seq (.ops [o 14 (.mov (q 2)), o 15 (.fieldAddr 2 (q 7)), o 16 (.load false 1 (q 15)), o 17 (.lookup 0 [.int .i64 0] false true (q 14) (q 16)), o 13 (.mov (q 17)), o 18 (.extract (q 13) 0), o 19 (.extract (q 13) 1), o 8 (.mov (q 18)), o 9 (.mov (q 19))])
  (.seq (.block 0 (.seq (.ops [o 21 (.fieldAddr 0 (q 3)), o 22 (.load false 1 (q 21)), o 23 (.len 1 (q 22)), o 24 (.bin .gtr (q 23) (.const (.int .i64 64)) (some (.int .i64))), o 20 (.mov (q 24))])
  (.cond (q 20)
  (.seq (.ops [o 6 (.mov (.const (.int .i64 33)))])
  .ret)
  (.seq (.ops [o 26 (.mov (q 1)), o 27 (.bin .geq (q 26) (.const (.int .i64 256)) (some (.int .i64))), o 25 (.mov (q 27))])
  (.cond (q 25)
  (.seq (.ops [o 6 (.mov (.const (.int .i64 34)))])
  .ret)
  (.seq (.ops [o 29 (.fieldAddr 2 (q 3)), o 30 (.fieldAddr 0 (q 29)), o 31 (.load false 1 (q 30)), o 32 (.call 83 [.tmp 31]), o 33 (.un .not (q 32)), o 28 (.mov (q 33))])
  (.cond (q 28)
  (.seq (.ops [o 6 (.mov (.const (.int .i64 30)))])
  .ret)
  (.seq (.ops [o 35 (.fieldAddr 1 (q 3)), o 36 (.load false 1 (q 35)), o 37 (.mkFunc (.func 85) [] [.tmp 3]), o 38 (.call 84 [.tmp 36, .tmp 37]), o 34 (.mov (q 38))])
  (.cond (q 34)
  (.seq (.ops [o 6 (.mov (.const (.int .i64 31)))])
  .ret)
  (.seq (.ops [o 40 (.load true 5 (q 7)), o 41 (.call 86 [.tmp 40]), o 42 (.un .not (q 41)), o 39 (.mov (q 42))])
  (.cond (q 39)
  (.seq (.ops [o 6 (.mov (.const (.int .i64 32)))])
  .ret)
  (.seq (.ops [o 44 (.fieldAddr 2 (q 3)), o 45 (.load true 7 (q 44)), o 46 (.call 87 [.tmp 45]), o 47 (.un .not (q 46)), o 43 (.mov (q 47))])
  (.cond (q 43)
  (.seq (.ops [o 6 (.mov (.const (.int .i64 35)))])
  .ret)
  (.seq (.seq (.ops [o 49 (.fieldAddr 9 (q 3)), o 50 (.load false 1 (q 49)), o 51 (.mov (q 50)), ⟨some 52, .fieldAddr 0 (q 7), some (51, true)⟩, ⟨some 53, .load false 1 (q 52), some (51, true)⟩, ⟨some 54, .bin .eql (q 53) (.const (.int .i64 19)) (some (.int .i64)), some (51, true)⟩, ⟨some 55, .mov (q 54), some (51, true)⟩, ⟨some 56, .fieldAddr 0 (q 7), some (55, false)⟩, ⟨some 57, .load false 1 (q 56), some (55, false)⟩, ⟨some 58, .bin .eql (q 57) (.const (.int .i64 20)) (some (.int .i64)), some (55, false)⟩, ⟨some 59, .pick (q 55) (.const (.bool true)) (q 58), some (51, true)⟩, o 60 (.pick (q 51) (q 59) (.const (.bool false))), o 48 (.mov (q 60))])
  (.cond (q 48)
  .skip
  (.ops [o 61 (.fieldAddr 0 (q 7)), o 62 (.load false 1 (q 61)), o 63 (.bin .eql (q 62) (.const (.int .i64 19)) (some (.int .i64))), o 64 (.mov (q 63)), ⟨some 65, .fieldAddr 4 (q 7), some (64, true)⟩, ⟨some 66, .load false 1 (q 65), some (64, true)⟩, ⟨some 67, .indexAddr 7 (q 66) (.const (.int .i64 0)), some (64, true)⟩, ⟨some 68, .fieldAddr 1 (q 67), some (64, true)⟩, ⟨some 69, .load false 1 (q 68), some (64, true)⟩, ⟨some 70, .mov (q 69), some (64, true)⟩, ⟨some 71, .mov (q 9), some (70, false)⟩, ⟨some 72, .pick (q 70) (.const (.bool true)) (q 71), some (64, true)⟩, o 73 (.pick (q 64) (q 72) (.const (.bool false))), o 48 (.mov (q 73))])))
  (.cond (q 48)
  (.seq (.ops [o 6 (.mov (.const (.int .i64 36)))])
  .ret)
  .skip)))))))))))))))
  (.seq (.ops [o 6 (.mov (.const (.int .i64 0)))])
  .ret)))))⟩
theorem F59_ok : compF Tryz.prog 59 = some F59 := by kernel_rfl
/-- colonnade/value.Fits -/
def F62 : FC := ⟨14, [.tmp 4],
  (.seq (.ops [o 2 (.box (q 0)), o 3 (.box (q 1)), o 4 (.mov (.const (.int .i64 0)))])
  (.seq (.block 0 (.seq (.ops [o 6 (.load true 7 (q 2)), o 7 (.call 64 [.tmp 6]), o 8 (.un .not (q 7)), o 5 (.mov (q 8))])
  (.cond (q 5)
  (.seq (.ops [o 4 (.mov (.const (.int .i64 5)))])
  .ret)
  (.seq (.ops [o 10 (.load true 7 (q 2)), o 11 (.load true 4 (q 3)), o 12 (.call 65 [.tmp 10, .tmp 11]), o 13 (.un .not (q 12)), o 9 (.mov (q 13))])
  (.cond (q 9)
  (.seq (.ops [o 4 (.mov (.const (.int .i64 7)))])
  .ret)
  .skip)))))
  (.seq (.ops [o 4 (.mov (.const (.int .i64 0)))])
  .ret)))⟩
theorem F62_ok : compF Tryz.prog 62 = some F62 := by kernel_rfl
/-- colonnade/value.may -/
def F64 : FC := ⟨7, [.tmp 2],
  (.seq (.ops [o 1 (.box (q 0)), o 2 (.mov (.const (.bool false)))])
  (.seq (.ops [o 3 (.load true 7 (q 1)), o 4 (.call 15 [.tmp 3]), o 5 (.field false 0 1 (q 4)), o 6 (.bin .eql (q 5) (.const (.int .i64 0)) (some (.int .i64))), o 2 (.mov (q 6))])
  .ret))⟩
theorem F64_ok : compF Tryz.prog 64 = some F64 := by kernel_rfl
/-- colonnade/value.good -/
def F65 : FC := ⟨12, [.tmp 4],
  (.seq (.ops [o 2 (.box (q 0)), o 3 (.box (q 1)), o 4 (.mov (.const (.bool false)))])
  (.seq (.ops [o 6 (.build [.int .i64 0] [(0, 1, (.const (.int .i64 4194304)))]), o 7 (.box (q 6)), o 5 (.mov (q 7))])
  (.seq (.ops [o 8 (.mov (q 5)), o 9 (.load true 7 (q 2)), o 10 (.load true 4 (q 3)), o 11 (.call 89 [.tmp 8, .tmp 9, .tmp 10]), o 4 (.mov (q 11))])
  .ret)))⟩
theorem F65_ok : compF Tryz.prog 65 = some F65 := by kernel_rfl
/-- colonnade/value.order -/
def F66 : FC := ⟨145, [.tmp 6],
  (.seq (.ops [o 3 (.box (q 0)), o 4 (.box (q 1)), o 5 (.box (q 2)), o 6 (.mov (.const (.int .i64 0)))])
  (.seq (.seq (.ops [o 11 (.fieldAddr 0 (q 4)), o 12 (.load false 1 (q 11)), o 13 (.mov (q 12)), ⟨some 14, .fieldAddr 0 (q 5), some (13, false)⟩, ⟨some 15, .load false 1 (q 14), some (13, false)⟩, o 16 (.pick (q 13) (.const (.bool true)) (q 15))])
  (.cond (q 16)
  (.seq (.block 0 (.seq (.ops [o 18 (.fieldAddr 0 (q 4)), o 19 (.load false 1 (q 18)), o 20 (.mov (q 19)), ⟨some 21, .fieldAddr 0 (q 5), some (20, true)⟩, ⟨some 22, .load false 1 (q 21), some (20, true)⟩, o 23 (.pick (q 20) (q 22) (.const (.bool false))), o 17 (.mov (q 23))])
  (.cond (q 17)
  (.seq (.ops [o 6 (.mov (.const (.int .i64 0)))])
  .ret)
  (.seq (.ops [o 25 (.fieldAddr 0 (q 4)), o 26 (.load false 1 (q 25)), o 24 (.mov (q 26))])
  (.cond (q 24)
  (.seq (.ops [o 6 (.mov (.const (.int .i64 (-1))))])
  .ret)
  .skip)))))
  (.seq (.ops [o 6 (.mov (.const (.int .i64 1)))])
  .ret))
  .skip))
  (.seq (.ops [o 27 (.fieldAddr 2 (q 3)), o 28 (.load true 5 (q 27)), o 7 (.alloc [.int .i64 0, .int .i64 0, .int .i64 0, .int .i64 0, .slice none 0 0]), ⟨none, .store 5 (q 7) (q 28), none⟩])
  (.seq (.seq (.ops [o 29 (.fieldAddr 0 (q 7)), o 30 (.load false 1 (q 29))])
  (.block 1 (.seq (.seq (.ops [o 32 (.bin .eql (q 30) (.const (.int .i64 19)) (some (.int .i64))), o 31 (.mov (q 32))])
  (.cond (q 31)
  .skip
  (.ops [o 33 (.bin .eql (q 30) (.const (.int .i64 20)) (some (.int .i64))), o 31 (.mov (q 33))])))
  (.cond (q 31)
  (.seq (.ops [o 34 (.fieldAddr 4 (q 7)), o 35 (.load false 1 (q 34)), o 36 (.indexAddr 7 (q 35) (.const (.int .i64 0))), o 37 (.load true 7 (q 36)), o 38 (.load true 4 (q 4)), o 39 (.load true 4 (q 5)), o 40 (.call 66 [.tmp 37, .tmp 38, .tmp 39]), o 6 (.mov (q 40))])
  .ret)
  (.seq (.ops [o 42 (.bin .eql (q 30) (.const (.int .i64 10)) (some (.int .i64))), o 41 (.mov (q 42))])
  (.cond (q 41)
  (.seq (.ops [o 43 (.fieldAddr 1 (q 4)), o 44 (.load false 1 (q 43)), o 45 (.conv .u64 (q 44)), o 46 (.fieldAddr 1 (q 5)), o 47 (.load false 1 (q 46)), o 48 (.conv .u64 (q 47)), o 49 (.call 90 [.tmp 45, .tmp 48]), o 6 (.mov (q 49))])
  .ret)
  (.seq (.ops [o 51 (.bin .eql (q 30) (.const (.int .i64 11)) (some (.int .i64))), o 50 (.mov (q 51))])
  (.cond (q 50)
  (.seq (.ops [o 52 (.fieldAddr 1 (q 4)), o 53 (.load false 1 (q 52)), o 55 (.fieldAddr 1 (q 5)), o 56 (.load false 1 (q 55)), o 54 (.call 91 [.tmp 53]), ⟨none, .again 56 false 1 (q 55), none⟩, o 57 (.call 91 [.tmp 56]), o 58 (.call 90 [.tmp 54, .tmp 57]), o 6 (.mov (q 58))])
  .ret)
  (.seq (.seq (.ops [o 60 (.bin .eql (q 30) (.const (.int .i64 12)) (some (.int .i64))), o 59 (.mov (q 60))])
  (.cond (q 59)
  .skip
  (.seq (.ops [o 61 (.bin .eql (q 30) (.const (.int .i64 13)) (some (.int .i64))), o 59 (.mov (q 61))])
  (.cond (q 59)
  .skip
  (.ops [o 62 (.bin .eql (q 30) (.const (.int .i64 14)) (some (.int .i64))), o 59 (.mov (q 62))])))))
  (.cond (q 59)
  (.seq (.ops [o 63 (.fieldAddr 2 (q 4)), o 64 (.load false 1 (q 63)), o 65 (.fieldAddr 2 (q 5)), o 66 (.load false 1 (q 65)), o 67 (.call 41 [.tmp 64, .tmp 66]), o 6 (.mov (q 67))])
  .ret)
  (.seq (.ops [o 69 (.bin .eql (q 30) (.const (.int .i64 18)) (some (.int .i64))), o 68 (.mov (q 69))])
  (.cond (q 68)
  (.seq (.seq (.ops [o 70 (.fieldAddr 1 (q 4)), o 71 (.load false 1 (q 70)), o 72 (.fieldAddr 1 (q 5)), o 73 (.load false 1 (q 72)), o 74 (.bin .neq (q 71) (q 73) (some (.int .i64)))])
  (.cond (q 74)
  (.seq (.ops [o 75 (.fieldAddr 1 (q 4)), o 76 (.load false 1 (q 75)), o 77 (.fieldAddr 1 (q 5)), o 78 (.load false 1 (q 77)), o 79 (.call 92 [.tmp 76, .tmp 78]), o 6 (.mov (q 79))])
  .ret)
  .skip))
  (.seq (.ops [o 80 (.fieldAddr 4 (q 7)), o 81 (.load false 1 (q 80)), o 82 (.fieldAddr 1 (q 4)), o 83 (.load false 1 (q 82)), o 84 (.indexAddr 7 (q 81) (q 83)), o 85 (.load true 7 (q 84)), o 86 (.fieldAddr 3 (q 4)), o 87 (.load false 1 (q 86)), o 88 (.indexAddr 4 (q 87) (.const (.int .i64 0))), o 89 (.load true 4 (q 88)), o 90 (.fieldAddr 3 (q 5)), o 91 (.load false 1 (q 90)), o 92 (.indexAddr 4 (q 91) (.const (.int .i64 0))), o 93 (.load true 4 (q 92)), o 94 (.call 66 [.tmp 85, .tmp 89, .tmp 93]), o 6 (.mov (q 94))])
  .ret))
  (.seq (.seq (.ops [o 96 (.bin .eql (q 30) (.const (.int .i64 15)) (some (.int .i64))), o 95 (.mov (q 96))])
  (.cond (q 95)
  .skip
  (.seq (.ops [o 97 (.bin .eql (q 30) (.const (.int .i64 16)) (some (.int .i64))), o 95 (.mov (q 97))])
  (.cond (q 95)
  .skip
  (.ops [o 98 (.bin .eql (q 30) (.const (.int .i64 17)) (some (.int .i64))), o 95 (.mov (q 98))])))))
  (.cond (q 95)
  (.seq (.seq (.ops [o 99 (.fieldAddr 3 (q 4)), o 100 (.load false 1 (q 99)), o 101 (.len 1 (q 100)), o 102 (.fieldAddr 3 (q 5)), o 103 (.load false 1 (q 102)), o 104 (.len 1 (q 103)), o 105 (.minmax false (q 101) [.tmp 104]), o 106 (.mov (.const (.int .i64 0)))])
  (.block 2 (.loop (.seq (.ops [o 107 (.bin .lss (q 106) (q 105) (some (.int .i64)))])
  (.seq (.cond (q 107)
  .skip
  (.exit 2))
  (.seq (.block 3 (.seq (.ops [o 108 (.mov (q 106)), o 8 (.mov (q 108))])
  (.seq (.ops [o 9 (.mov (.const (.int .i64 0)))])
  (.seq (.seq (.ops [o 109 (.fieldAddr 0 (q 7)), o 110 (.load false 1 (q 109)), o 111 (.bin .eql (q 110) (.const (.int .i64 17)) (some (.int .i64)))])
  (.cond (q 111)
  (.ops [o 112 (.mov (q 8)), o 9 (.mov (q 112))])
  .skip))
  (.seq (.ops [o 113 (.fieldAddr 4 (q 7)), o 114 (.load false 1 (q 113)), o 115 (.mov (q 9)), o 116 (.indexAddr 7 (q 114) (q 115)), o 117 (.load true 7 (q 116)), o 118 (.fieldAddr 3 (q 4)), o 119 (.load false 1 (q 118)), o 120 (.mov (q 8)), o 121 (.indexAddr 4 (q 119) (q 120)), o 122 (.load true 4 (q 121)), o 123 (.fieldAddr 3 (q 5)), o 124 (.load false 1 (q 123)), o 125 (.mov (q 8)), o 126 (.indexAddr 4 (q 124) (q 125)), o 127 (.load true 4 (q 126)), o 128 (.call 66 [.tmp 117, .tmp 122, .tmp 127]), o 10 (.mov (q 128))])
  (.seq (.ops [o 129 (.mov (q 10)), o 130 (.bin .neq (q 129) (.const (.int .i64 0)) (some (.int .i64)))])
  (.cond (q 130)
  (.seq (.ops [o 131 (.mov (q 10)), o 6 (.mov (q 131))])
  .ret)
  .skip)))))))
  (.ops [o 132 (.bin .add (q 106) (.const (.int .i64 1)) (some (.int .i64))), o 106 (.mov (q 132))])))))))
  (.seq (.ops [o 133 (.fieldAddr 3 (q 4)), o 134 (.load false 1 (q 133)), o 135 (.len 1 (q 134)), o 136 (.fieldAddr 3 (q 5)), o 137 (.load false 1 (q 136)), o 138 (.len 1 (q 137)), o 139 (.call 93 [.tmp 135, .tmp 138]), o 6 (.mov (q 139))])
  .ret))
  .skip))))))))))))))
  (.seq (.ops [o 140 (.fieldAddr 1 (q 4)), o 141 (.load false 1 (q 140)), o 142 (.fieldAddr 1 (q 5)), o 143 (.load false 1 (q 142)), o 144 (.call 92 [.tmp 141, .tmp 143]), o 6 (.mov (q 144))])
  .ret)))))⟩
theorem F66_ok : compF Tryz.prog 66 = some F66 := by kernel_rfl
/-- colonnade/colonnaderef04.FitsRight -/
def F67 : FC := ⟨13, [.tmp 4],
  (.seq (.ops [o 2 (.box (q 0)), o 3 (.box (q 1)), o 4 (.mov (.const (.bool false)))])
  (.seq (.ops [o 5 (.load true 4 (q 3)), o 6 (.call 94 [.tmp 5, (.const (.int .i64 4194304))]), o 7 (.bin .leq (q 6) (.const (.int .i64 4194304)) (some (.int .i64))), o 8 (.mov (q 7)), ⟨some 9, .load true 7 (q 2), some (8, true)⟩, ⟨some 10, .load true 4 (q 3), some (8, true)⟩, ⟨some 11, .call 95 [.tmp 9, .tmp 10], some (8, true)⟩, o 12 (.pick (q 8) (q 11) (.const (.bool false))), o 4 (.mov (q 12))])
  .ret))⟩
theorem F67_ok : compF Tryz.prog 67 = some F67 := by kernel_rfl
/-- colonnade/colonnaderef04.sign -/
def F68 : FC := ⟨7, [.tmp 4],
  (.seq (.ops [o 4 (.mov (.const (.int .i64 0)))])
  (.seq (.seq (.ops [o 5 (.mov (q 0))])
  (.cond (q 5)
  (.seq (.ops [o 4 (.mov (.const (.int .i64 (-1))))])
  .ret)
  .skip))
  (.seq (.seq (.ops [o 6 (.mov (q 1))])
  (.cond (q 6)
  (.seq (.ops [o 4 (.mov (.const (.int .i64 1)))])
  .ret)
  .skip))
  (.seq (.ops [o 4 (.mov (.const (.int .i64 0)))])
  .ret))))⟩
theorem F68_ok : compF Tryz.prog 68 = some F68 := by kernel_rfl
/-- colonnade/colonnaderef04.place -/
def F69 : FC := ⟨11, [.tmp 2],
  (.seq (.ops [o 2 (.mov (.const (.int .u64 0)))])
  (.seq (.seq (.ops [o 3 (.mov (q 0)), o 4 (.bin .lss (q 3) (.const (.int .i64 0)) (some (.int .i64)))])
  (.cond (q 4)
  (.seq (.ops [o 5 (.mov (q 0)), o 6 (.conv .u64 (q 5)), o 7 (.un .xor (q 6)), o 2 (.mov (q 7))])
  .ret)
  .skip))
  (.seq (.ops [o 8 (.mov (q 0)), o 9 (.conv .u64 (q 8)), o 10 (.bin .add (q 9) (.const (.int .u64 9223372036854775808)) (some (.int .u64))), o 2 (.mov (q 10))])
  .ret)))⟩
theorem F69_ok : compF Tryz.prog 69 = some F69 := by kernel_rfl
/-- colonnade/colonnaderef04.orders -/
def F70 : FC := ⟨54, [.tmp 6],
  (.seq (.ops [o 3 (.box (q 0)), o 6 (.mov (.const (.int .i64 0)))])
  (.seq (.seq (.ops [o 7 (.mov (.const (.int .i64 0)))])
  (.block 0 (.loop (.seq (.seq (.ops [o 10 (.mov (q 7)), o 11 (.mov (q 1)), o 12 (.len 1 (q 11)), o 13 (.bin .lss (q 10) (q 12) (some (.int .i64))), o 14 (.mov (q 13)), ⟨some 15, .mov (q 7), some (14, true)⟩, ⟨some 16, .mov (q 2), some (14, true)⟩, ⟨some 17, .len 1 (q 16), some (14, true)⟩, ⟨some 18, .bin .lss (q 15) (q 17) (some (.int .i64)), some (14, true)⟩, o 19 (.pick (q 14) (q 18) (.const (.bool false)))])
  (.cond (q 19)
  .skip
  (.exit 0)))
  (.seq (.block 1 (.seq (.ops [o 8 (.mov (.const (.int .i64 0)))])
  (.seq (.seq (.ops [o 22 (.fieldAddr 0 (q 3)), o 23 (.load false 1 (q 22)), o 24 (.bin .eql (q 23) (.const (.int .i64 17)) (some (.int .i64)))])
  (.cond (q 24)
  (.ops [o 25 (.mov (q 7)), o 8 (.mov (q 25))])
  .skip))
  (.seq (.ops [o 26 (.fieldAddr 4 (q 3)), o 27 (.load false 1 (q 26)), o 28 (.mov (q 8)), o 29 (.indexAddr 7 (q 27) (q 28)), o 30 (.load true 7 (q 29)), o 31 (.mov (q 1)), o 32 (.mov (q 7)), o 33 (.indexAddr 4 (q 31) (q 32)), o 34 (.load true 4 (q 33)), o 35 (.mov (q 2)), o 36 (.mov (q 7)), o 37 (.indexAddr 4 (q 35) (q 36)), o 38 (.load true 4 (q 37)), o 39 (.call 48 [.tmp 30, .tmp 34, .tmp 38]), o 9 (.mov (q 39))])
  (.seq (.ops [o 40 (.mov (q 9)), o 41 (.bin .neq (q 40) (.const (.int .i64 0)) (some (.int .i64)))])
  (.cond (q 41)
  (.seq (.ops [o 42 (.mov (q 9)), o 6 (.mov (q 42))])
  .ret)
  .skip))))))
  (.ops [o 20 (.mov (q 7)), o 21 (.bin .add (q 20) (.const (.int .i64 1)) (some (.int .i64))), o 7 (.mov (q 21))]))))))
  (.seq (.ops [o 43 (.mov (q 1)), o 44 (.len 1 (q 43)), o 45 (.mov (q 2)), o 46 (.len 1 (q 45)), o 47 (.bin .lss (q 44) (q 46) (some (.int .i64))), o 48 (.mov (q 1)), o 49 (.len 1 (q 48)), o 50 (.mov (q 2)), o 51 (.len 1 (q 50)), o 52 (.bin .gtr (q 49) (q 51) (some (.int .i64))), o 53 (.call 68 [.tmp 47, .tmp 52]), o 6 (.mov (q 53))])
  .ret)))⟩
theorem F70_ok : compF Tryz.prog 70 = some F70 := by kernel_rfl
/-- colonnade/array.Check -/
def F71 : FC := ⟨19, [.cell 4 true 3],
  (.seq (.ops [o 2 (.box (q 0)), o 3 (.box (q 1)), o 4 (.alloc [.int .i64 0, .slice none 0 0, .int .i64 0])])
  (.seq (.seq (.ops [o 7 (.load true 7 (q 2)), o 8 (.call 15 [.tmp 7]), o 9 (.field false 0 1 (q 8)), o 10 (.bin .neq (q 9) (.const (.int .i64 0)) (some (.int .i64)))])
  (.cond (q 10)
  (.seq (.ops [o 11 (.call 96 [(.const (.int .i64 5)), (.const (.int .i64 0))]), ⟨none, .store 3 (q 4) (q 11), none⟩])
  .ret)
  .skip))
  (.seq (.ops [o 13 (.load true 7 (q 2)), o 14 (.load true 6 (q 3)), o 15 (.call 97 [.tmp 13, .tmp 14]), o 12 (.mov (q 15)), o 16 (.extract (q 12) 0), o 17 (.extract (q 12) 1), o 5 (.alloc [.int .i64 0, .slice none 0 0, .int .i64 0]), ⟨none, .store 3 (q 5) (q 16), none⟩, o 6 (.mov (q 17))])
  (.seq (.ops [o 18 (.load true 3 (q 5)), ⟨none, .store 3 (q 4) (q 18), none⟩])
  .ret))))⟩
theorem F71_ok : compF Tryz.prog 71 = some F71 := by kernel_rfl
/-- colonnade/array.opened -/
def F72 : FC := ⟨20, [.tmp 6],
  (.seq (.ops [o 3 (.box (q 0)), o 4 (.box (q 1)), o 6 (.mov (.const (.pointer none)))])
  (.seq (.ops [o 7 (.load true 7 (q 3)), o 8 (.load true 6 (q 4)), o 9 (.fieldAddr 1 (q 4)), o 10 (.load false 1 (q 9)), o 11 (.fieldAddr 0 (q 4)), o 12 (.load false 1 (q 11)), o 13 (.mov (q 2)), o 14 (.fieldAddr 2 (q 3)), o 15 (.fieldAddr 0 (q 14)), o 16 (.load false 1 (q 15)), o 17 (.call 98 [.tmp 16]), ⟨none, .again 12 false 1 (q 11), none⟩, ⟨none, .again 10 false 1 (q 9), none⟩, ⟨none, .again 8 true 6 (q 4), none⟩, ⟨none, .again 7 true 7 (q 3), none⟩, o 18 (.build [(.string ⟨#[]⟩), (.bool false), (.int .i64 0), (.int .i64 0), (.int .i64 0), (.int .i64 0), (.slice none 0 0), (.int .i64 0), (.int .i64 0), (.int .i64 0), (.slice none 0 0), (.slice none 0 0), (.slice none 0 0), (.int .i64 0), (.int .i64 0), (.pointer none), .nilIface] [(0, 7, (q 7)), (7, 6, (q 8)), (13, 1, (q 10)), (14, 1, (q 12)), (15, 1, (q 13)), (16, 1, (q 17))]), o 19 (.box (q 18)), o 6 (.mov (q 19))])
  .ret))⟩
theorem F72_ok : compF Tryz.prog 72 = some F72 := by kernel_rfl
/-- colonnade/array.copiedField -/
def F73 : FC := ⟨31, [.cell 2 true 7],
  (.seq (.ops [o 1 (.box (q 0)), o 2 (.alloc [(.string ⟨#[]⟩), (.bool false), (.int .i64 0), (.int .i64 0), (.int .i64 0), (.int .i64 0), (.slice none 0 0)])])
  (.seq (.ops [o 4 (.fieldAddr 2 (q 1)), o 5 (.fieldAddr 4 (q 4)), o 6 (.load false 1 (q 5)), o 7 (.call 99 [.tmp 6]), o 8 (.fieldAddr 2 (q 1)), o 9 (.fieldAddr 4 (q 8)), ⟨none, .store 1 (q 9) (q 7), none⟩])
  (.seq (.seq (.ops [o 10 (.fieldAddr 2 (q 1)), o 11 (.fieldAddr 4 (q 10)), o 12 (.load false 1 (q 11)), o 13 (.len 1 (q 12)), o 14 (.mov (.const (.int .i64 0)))])
  (.block 0 (.loop (.seq (.ops [o 15 (.bin .lss (q 14) (q 13) (some (.int .i64)))])
  (.seq (.cond (q 15)
  .skip
  (.exit 0))
  (.seq (.block 1 (.seq (.ops [o 16 (.mov (q 14)), o 3 (.mov (q 16))])
  (.ops [o 17 (.fieldAddr 2 (q 1)), o 18 (.fieldAddr 4 (q 17)), o 19 (.load false 1 (q 18)), o 20 (.mov (q 3)), o 21 (.fieldAddr 2 (q 1)), o 22 (.fieldAddr 4 (q 21)), o 23 (.load false 1 (q 22)), o 24 (.mov (q 3)), o 25 (.indexAddr 7 (q 23) (q 24)), o 26 (.load true 7 (q 25)), o 27 (.call 73 [.tmp 26]), ⟨none, .again 19 false 1 (q 18), none⟩, o 28 (.indexAddr 7 (q 19) (q 20)), ⟨none, .store 7 (q 28) (q 27), none⟩])))
  (.ops [o 29 (.bin .add (q 14) (.const (.int .i64 1)) (some (.int .i64))), o 14 (.mov (q 29))])))))))
  (.seq (.ops [o 30 (.load true 7 (q 1)), ⟨none, .store 7 (q 2) (q 30), none⟩])
  .ret))))⟩
theorem F73_ok : compF Tryz.prog 73 = some F73 := by kernel_rfl
/-- colonnade/array.copied -/
def F74 : FC := ⟨16, [.cell 2 true 6],
  (.seq (.ops [o 1 (.box (q 0)), o 2 (.alloc [.int .i64 0, .int .i64 0, .int .i64 0, .slice none 0 0, .slice none 0 0, .slice none 0 0])])
  (.seq (.ops [o 3 (.fieldAddr 3 (q 1)), o 4 (.load false 1 (q 3)), o 5 (.call 100 [.tmp 4]), o 6 (.fieldAddr 3 (q 1)), ⟨none, .store 1 (q 6) (q 5), none⟩])
  (.seq (.ops [o 7 (.fieldAddr 4 (q 1)), o 8 (.load false 1 (q 7)), o 9 (.call 101 [.tmp 8]), o 10 (.fieldAddr 4 (q 1)), ⟨none, .store 1 (q 10) (q 9), none⟩])
  (.seq (.ops [o 11 (.fieldAddr 5 (q 1)), o 12 (.load false 1 (q 11)), o 13 (.call 101 [.tmp 12]), o 14 (.fieldAddr 5 (q 1)), ⟨none, .store 1 (q 14) (q 13), none⟩])
  (.seq (.ops [o 15 (.load true 6 (q 1)), ⟨none, .store 6 (q 2) (q 15), none⟩])
  .ret)))))⟩
theorem F74_ok : compF Tryz.prog 74 = some F74 := by kernel_rfl
/-- (*colonnade/array.Array).All$1 -/
def F75 : FC := ⟨39, [],
  (.seq (.ops [o 3 (.mov (.const (.int .i64 4194304)))])
  (.seq (.ops [o 8 (.load false 1 (q 1)), o 9 (.nilCheck (q 8)), o 10 (.fieldAddr 14 (q 9)), o 11 (.load false 1 (q 10)), o 12 (.mov (.const (.int .i64 0)))])
  (.block 0 (.loop (.seq (.ops [o 13 (.bin .lss (q 12) (q 11) (some (.int .i64)))])
  (.seq (.cond (q 13)
  .skip
  (.exit 0))
  (.seq (.block 1 (.seq (.ops [o 14 (.mov (q 12)), o 4 (.mov (q 14))])
  (.seq (.ops [o 16 (.load false 1 (q 1)), o 17 (.mov (q 4)), o 18 (.call 76 [.tmp 16, .tmp 17]), o 15 (.mov (q 18)), o 19 (.extract (q 15) 0), o 20 (.extract (q 15) 1), o 21 (.extract (q 15) 2), o 5 (.alloc [(.bool false), (.int .i64 0), (.string ⟨#[]⟩), (.slice none 0 0)]), ⟨none, .store 4 (q 5) (q 19), none⟩, o 6 (.mov (q 20)), o 7 (.mov (q 21))])
  (.seq (.ops [o 22 (.mov (q 3)), o 23 (.mov (q 6)), o 24 (.bin .sub (q 22) (q 23) (some (.int .i64))), o 3 (.mov (q 24))])
  (.seq (.ops [o 25 (.mov (q 7)), o 26 (.bin .neq (q 25) (.const (.int .i64 0)) (some (.int .i64))), o 27 (.mov (q 26)), ⟨some 28, .mov (q 3), some (27, false)⟩, ⟨some 29, .bin .lss (q 28) (.const (.int .i64 0)) (some (.int .i64)), some (27, false)⟩, o 30 (.pick (q 27) (.const (.bool true)) (q 29)), o 31 (.mov (q 30)), ⟨some 32, .mov (q 0), some (31, false)⟩, ⟨some 33, .mov (q 4), some (31, false)⟩, ⟨some 34, .load true 4 (q 5), some (31, false)⟩, ⟨some 35, .callv (q 32) [.tmp 33, .tmp 34], some (31, false)⟩, ⟨some 36, .un .not (q 35), some (31, false)⟩, o 37 (.pick (q 31) (.const (.bool true)) (q 36))])
  (.cond (q 37)
  .ret
  .skip))))))
  (.ops [o 38 (.bin .add (q 12) (.const (.int .i64 1)) (some (.int .i64))), o 12 (.mov (q 38))]))))))))⟩
theorem F75_ok : compF Tryz.prog 75 = some F75 := by kernel_rfl
/-- colonnade/colonnaderef03.IsName -/
def F77 : FC := ⟨33, [.tmp 2],
  (.seq (.ops [o 2 (.mov (.const (.bool false)))])
  (.seq (.seq (.ops [o 4 (.mov (q 0)), o 5 (.len 0 (q 4)), o 6 (.bin .lss (q 5) (.const (.int .i64 1)) (some (.int .i64))), o 7 (.mov (q 6)), ⟨some 8, .mov (q 0), some (7, false)⟩, ⟨some 9, .len 0 (q 8), some (7, false)⟩, ⟨some 10, .bin .gtr (q 9) (.const (.int .i64 48)) (some (.int .i64)), some (7, false)⟩, o 11 (.pick (q 7) (.const (.bool true)) (q 10)), o 12 (.mov (q 11)), ⟨some 13, .mov (q 0), some (12, false)⟩, ⟨some 14, .indexStr (q 13) (.const (.int .i64 0)), some (12, false)⟩, ⟨some 15, .bin .geq (q 14) (.const (.int .u8 48)) (some (.int .u8)), some (12, false)⟩, ⟨some 16, .mov (q 15), some (12, false)⟩, ⟨some 17, .mov (q 0), some (16, true)⟩, ⟨some 18, .indexStr (q 17) (.const (.int .i64 0)), some (16, true)⟩, ⟨some 19, .bin .leq (q 18) (.const (.int .u8 57)) (some (.int .u8)), some (16, true)⟩, ⟨some 20, .pick (q 16) (q 19) (.const (.bool false)), some (12, false)⟩, o 21 (.pick (q 12) (.const (.bool true)) (q 20))])
  (.cond (q 21)
  (.seq (.ops [o 2 (.mov (.const (.bool false)))])
  .ret)
  .skip))
  (.seq (.seq (.ops [o 3 (.mov (.const (.int .i64 0)))])
  (.block 0 (.loop (.seq (.seq (.ops [o 22 (.mov (q 3)), o 23 (.mov (q 0)), o 24 (.len 0 (q 23)), o 25 (.bin .lss (q 22) (q 24) (some (.int .i64)))])
  (.cond (q 25)
  .skip
  (.exit 0)))
  (.seq (.block 1 (.seq (.ops [o 28 (.mov (q 0)), o 29 (.mov (q 3)), o 30 (.indexStr (q 28) (q 29)), o 31 (.call 104 [.tmp 30]), o 32 (.un .not (q 31))])
  (.cond (q 32)
  (.seq (.ops [o 2 (.mov (.const (.bool false)))])
  .ret)
  .skip)))
  (.ops [o 26 (.mov (q 3)), o 27 (.bin .add (q 26) (.const (.int .i64 1)) (some (.int .i64))), o 3 (.mov (q 27))]))))))
  (.seq (.ops [o 2 (.mov (.const (.bool true)))])
  .ret))))⟩
theorem F77_ok : compF Tryz.prog 77 = some F77 := by kernel_rfl
/-- colonnade/colonnaderef03.shaped -/
def F78 : FC := ⟨95, [.tmp 2],
  (.seq (.ops [o 1 (.box (q 0)), o 2 (.mov (.const (.bool false)))])
  (.seq (.ops [o 3 (.mov (.const (.int .i64 0))), o 4 (.mov (.const (.int .i64 0)))])
  (.seq (.ops [o 9 (.fieldAddr 1 (q 1)), o 10 (.load false 1 (q 9)), o 11 (.bin .eql (q 10) (.const (.int .i64 0)) (some (.int .i64))), o 12 (.fieldAddr 2 (q 1)), o 13 (.load false 1 (q 12)), o 14 (.bin .eql (q 13) (.const (.int .i64 0)) (some (.int .i64))), o 15 (.fieldAddr 3 (q 1)), o 16 (.load false 1 (q 15)), o 17 (.bin .eql (q 16) (.const (.int .i64 0)) (some (.int .i64))), o 5 (.mov (q 11)), o 6 (.mov (q 14)), o 7 (.mov (q 17))])
  (.seq (.seq (.ops [o 18 (.fieldAddr 0 (q 1)), o 19 (.load false 1 (q 18))])
  (.block 0 (.seq (.ops [o 21 (.bin .eql (q 19) (.const (.int .i64 14)) (some (.int .i64))), o 20 (.mov (q 21))])
  (.cond (q 20)
  (.ops [o 22 (.fieldAddr 1 (q 1)), o 23 (.load false 1 (q 22)), o 24 (.bin .geq (q 23) (.const (.int .i64 1)) (some (.int .i64))), o 25 (.mov (q 24)), ⟨some 26, .fieldAddr 1 (q 1), some (25, true)⟩, ⟨some 27, .load false 1 (q 26), some (25, true)⟩, ⟨some 28, .bin .leq (q 27) (.const (.int .i64 16)) (some (.int .i64)), some (25, true)⟩, o 29 (.pick (q 25) (q 28) (.const (.bool false))), o 5 (.mov (q 29))])
  (.seq (.seq (.ops [o 31 (.bin .eql (q 19) (.const (.int .i64 15)) (some (.int .i64))), o 30 (.mov (q 31))])
  (.cond (q 30)
  .skip
  (.ops [o 32 (.bin .eql (q 19) (.const (.int .i64 20)) (some (.int .i64))), o 30 (.mov (q 32))])))
  (.cond (q 30)
  (.ops [o 3 (.mov (.const (.int .i64 1))), o 4 (.mov (.const (.int .i64 1)))])
  (.seq (.ops [o 34 (.bin .eql (q 19) (.const (.int .i64 16)) (some (.int .i64))), o 33 (.mov (q 34))])
  (.cond (q 33)
  (.seq (.ops [o 3 (.mov (.const (.int .i64 1))), o 4 (.mov (.const (.int .i64 1)))])
  (.ops [o 35 (.fieldAddr 1 (q 1)), o 36 (.load false 1 (q 35)), o 37 (.bin .geq (q 36) (.const (.int .i64 1)) (some (.int .i64))), o 38 (.mov (q 37)), ⟨some 39, .fieldAddr 1 (q 1), some (38, true)⟩, ⟨some 40, .load false 1 (q 39), some (38, true)⟩, ⟨some 41, .bin .leq (q 40) (.const (.int .i64 64)) (some (.int .i64)), some (38, true)⟩, o 42 (.pick (q 38) (q 41) (.const (.bool false))), o 5 (.mov (q 42))]))
  (.seq (.ops [o 44 (.bin .eql (q 19) (.const (.int .i64 17)) (some (.int .i64))), o 43 (.mov (q 44))])
  (.cond (q 43)
  (.ops [o 4 (.mov (.const (.int .i64 32)))])
  (.seq (.ops [o 46 (.bin .eql (q 19) (.const (.int .i64 18)) (some (.int .i64))), o 45 (.mov (q 46))])
  (.cond (q 45)
  (.ops [o 3 (.mov (.const (.int .i64 1))), o 4 (.mov (.const (.int .i64 32)))])
  (.seq (.ops [o 48 (.bin .eql (q 19) (.const (.int .i64 19)) (some (.int .i64))), o 47 (.mov (q 48))])
  (.cond (q 47)
  (.seq (.ops [o 3 (.mov (.const (.int .i64 1))), o 4 (.mov (.const (.int .i64 1)))])
  (.seq (.ops [o 49 (.fieldAddr 2 (q 1)), o 50 (.load false 1 (q 49)), o 51 (.bin .geq (q 50) (.const (.int .i64 0)) (some (.int .i64))), o 52 (.mov (q 51)), ⟨some 53, .fieldAddr 2 (q 1), some (52, true)⟩, ⟨some 54, .load false 1 (q 53), some (52, true)⟩, ⟨some 55, .bin .lss (q 54) (.const (.int .i64 32)) (some (.int .i64)), some (52, true)⟩, o 56 (.pick (q 52) (q 55) (.const (.bool false))), o 6 (.mov (q 56))])
  (.ops [o 57 (.fieldAddr 3 (q 1)), o 58 (.load false 1 (q 57)), o 59 (.bin .geq (q 58) (.const (.int .i64 3)) (some (.int .i64))), o 60 (.mov (q 59)), ⟨some 61, .fieldAddr 3 (q 1), some (60, true)⟩, ⟨some 62, .load false 1 (q 61), some (60, true)⟩, ⟨some 63, .bin .leq (q 62) (.const (.int .i64 10)) (some (.int .i64)), some (60, true)⟩, o 64 (.pick (q 60) (q 63) (.const (.bool false))), o 7 (.mov (q 64))])))
  .skip))))))))))))))
  (.seq (.ops [o 65 (.fieldAddr 4 (q 1)), o 66 (.load false 1 (q 65)), o 67 (.len 1 (q 66)), o 8 (.mov (q 67))])
  (.seq (.ops [o 68 (.fieldAddr 0 (q 1)), o 69 (.load false 1 (q 68)), o 70 (.bin .geq (q 69) (.const (.int .i64 1)) (some (.int .i64))), o 71 (.mov (q 70)), ⟨some 72, .fieldAddr 0 (q 1), some (71, true)⟩, ⟨some 73, .load false 1 (q 72), some (71, true)⟩, ⟨some 74, .bin .leq (q 73) (.const (.int .i64 20)) (some (.int .i64)), some (71, true)⟩, o 75 (.pick (q 71) (q 74) (.const (.bool false))), o 76 (.mov (q 75)), ⟨some 77, .mov (q 5), some (76, true)⟩, o 78 (.pick (q 76) (q 77) (.const (.bool false))), o 79 (.mov (q 78)), ⟨some 80, .mov (q 6), some (79, true)⟩, o 81 (.pick (q 79) (q 80) (.const (.bool false))), o 82 (.mov (q 81)), ⟨some 83, .mov (q 7), some (82, true)⟩, o 84 (.pick (q 82) (q 83) (.const (.bool false))), o 85 (.mov (q 84)), ⟨some 86, .mov (q 8), some (85, true)⟩, ⟨some 87, .mov (q 3), some (85, true)⟩, ⟨some 88, .bin .geq (q 86) (q 87) (some (.int .i64)), some (85, true)⟩, o 89 (.pick (q 85) (q 88) (.const (.bool false))), o 90 (.mov (q 89)), ⟨some 91, .mov (q 8), some (90, true)⟩, ⟨some 92, .mov (q 4), some (90, true)⟩, ⟨some 93, .bin .leq (q 91) (q 92) (some (.int .i64)), some (90, true)⟩, o 94 (.pick (q 90) (q 93) (.const (.bool false))), o 2 (.mov (q 94))])
  .ret))))))⟩
theorem F78_ok : compF Tryz.prog 78 = some F78 := by kernel_rfl
/-- colonnade/colonnaderef03.nulls -/
def F79 : FC := ⟨26, [.tmp 2],
  (.seq (.ops [o 1 (.box (q 0)), o 2 (.mov (.const (.bool false)))])
  (.seq (.seq (.ops [o 3 (.fieldAddr 2 (q 1)), o 4 (.fieldAddr 0 (q 3)), o 5 (.load false 1 (q 4))])
  (.block 0 (.seq (.ops [o 7 (.bin .eql (q 5) (.const (.int .i64 1)) (some (.int .i64))), o 6 (.mov (q 7))])
  (.cond (q 6)
  (.seq (.ops [o 8 (.fieldAddr 1 (q 1)), o 9 (.load false 1 (q 8)), o 2 (.mov (q 9))])
  .ret)
  (.seq (.ops [o 11 (.bin .eql (q 5) (.const (.int .i64 18)) (some (.int .i64))), o 10 (.mov (q 11))])
  (.cond (q 10)
  (.seq (.ops [o 12 (.fieldAddr 1 (q 1)), o 13 (.load false 1 (q 12)), o 14 (.un .not (q 13)), o 2 (.mov (q 14))])
  .ret)
  (.seq (.ops [o 16 (.bin .eql (q 5) (.const (.int .i64 20)) (some (.int .i64))), o 15 (.mov (q 16))])
  (.cond (q 15)
  (.seq (.ops [o 17 (.fieldAddr 1 (q 1)), o 18 (.load false 1 (q 17)), o 19 (.fieldAddr 2 (q 1)), o 20 (.fieldAddr 4 (q 19)), o 21 (.load false 1 (q 20)), o 22 (.indexAddr 7 (q 21) (.const (.int .i64 0))), o 23 (.fieldAddr 1 (q 22)), o 24 (.load false 1 (q 23)), o 25 (.bin .eql (q 18) (q 24) (some .bool)), o 2 (.mov (q 25))])
  .ret)
  .skip))))))))
  (.seq (.ops [o 2 (.mov (.const (.bool true)))])
  .ret)))⟩
theorem F79_ok : compF Tryz.prog 79 = some F79 := by kernel_rfl
/-- colonnade/kind.all$1 -/
def F80 : FC := ⟨9, [],
  (.seq (.ops [o 3 (.box (q 0))])
  (.seq (.ops [o 4 (.alloc [.nilFunc])])
  (.seq (.ops [o 5 (.mkFunc (.func 81) [] [.tmp 3, .tmp 1, .tmp 4]), ⟨none, .store 1 (q 4) (q 5), none⟩])
  (.ops [o 6 (.load false 1 (q 4)), o 7 (.load false 1 (q 2)), o 8 (.callv (q 6) [(.const (.slice none 0 0)), .tmp 7, (.const (.bool false))])]))))⟩
theorem F80_ok : compF Tryz.prog 80 = some F80 := by kernel_rfl
/-- colonnade/kind.all$1$1 -/
def F81 : FC := ⟨56, [.tmp 9],
  (.seq (.ops [o 9 (.mov (.const (.bool false)))])
  (.seq (.seq (.ops [o 13 (.mov (q 1)), o 14 (.len 1 (q 13)), o 15 (.mov (.const (.int .i64 0)))])
  (.block 0 (.loop (.seq (.ops [o 16 (.bin .lss (q 15) (q 14) (some (.int .i64)))])
  (.seq (.cond (q 16)
  .skip
  (.exit 0))
  (.seq (.block 1 (.seq (.ops [o 17 (.mov (q 15)), o 18 (.indexAddr 7 (q 13) (q 15)), o 19 (.load true 7 (q 18)), o 11 (.alloc [(.string ⟨#[]⟩), (.bool false), (.int .i64 0), (.int .i64 0), (.int .i64 0), (.int .i64 0), (.slice none 0 0)]), o 10 (.mov (q 17)), ⟨none, .store 7 (q 11) (q 19), none⟩])
  (.seq (.ops [o 20 (.mov (q 0)), o 21 (.call 82 [.tmp 20]), o 22 (.mov (q 10)), o 23 (.buildSlice 1 1 [.int .i64 0] [(0, 1, (q 22))]), o 24 (.append 1 8 (q 21) (q 23)), o 12 (.mov (q 24))])
  (.seq (.seq (.ops [o 25 (.load false 1 (q 3)), o 26 (.mov (q 12)), o 27 (.mov (q 1)), o 28 (.mov (q 10)), o 29 (.slice 7 (q 27) none (some (q 28)) none), o 30 (.load true 7 (q 11)), o 31 (.mov (q 2)), o 32 (.build [(.slice none 0 0), (.slice none 0 0), (.string ⟨#[]⟩), (.bool false), (.int .i64 0), (.int .i64 0), (.int .i64 0), (.int .i64 0), (.slice none 0 0), (.bool false)] [(0, 1, (q 26)), (1, 1, (q 29)), (2, 7, (q 30)), (9, 1, (q 31))]), o 33 (.callv (q 25) [.tmp 32]), o 34 (.un .not (q 33))])
  (.cond (q 34)
  (.seq (.ops [o 9 (.mov (.const (.bool false)))])
  .ret)
  .skip))
  (.seq (.ops [o 35 (.mov (q 12)), o 36 (.len 1 (q 35)), o 37 (.load false 1 (q 4)), o 38 (.bin .lss (q 36) (q 37) (some (.int .i64))), o 39 (.mov (q 38)), ⟨some 40, .load false 1 (q 5), some (39, true)⟩, ⟨some 41, .mov (q 12), some (39, true)⟩, ⟨some 42, .fieldAddr 2 (q 11), some (39, true)⟩, ⟨some 43, .fieldAddr 4 (q 42), some (39, true)⟩, ⟨some 44, .load false 1 (q 43), some (39, true)⟩, ⟨some 45, .mov (q 2), some (39, true)⟩, ⟨some 46, .mov (q 45), some (39, true)⟩, ⟨some 47, .fieldAddr 2 (q 11), some (46, false)⟩, ⟨some 48, .fieldAddr 0 (q 47), some (46, false)⟩, ⟨some 49, .load false 1 (q 48), some (46, false)⟩, ⟨some 50, .bin .eql (q 49) (.const (.int .i64 19)) (some (.int .i64)), some (46, false)⟩, ⟨some 51, .pick (q 46) (.const (.bool true)) (q 50), some (39, true)⟩, ⟨some 52, .callv (q 40) [.tmp 41, .tmp 44, .tmp 51], some (39, true)⟩, ⟨some 53, .un .not (q 52), some (39, true)⟩, o 54 (.pick (q 39) (q 53) (.const (.bool false)))])
  (.cond (q 54)
  (.seq (.ops [o 9 (.mov (.const (.bool false)))])
  .ret)
  .skip))))))
  (.ops [o 55 (.bin .add (q 15) (.const (.int .i64 1)) (some (.int .i64))), o 15 (.mov (q 55))])))))))
  (.seq (.ops [o 9 (.mov (.const (.bool true)))])
  .ret)))⟩
theorem F81_ok : compF Tryz.prog 81 = some F81 := by kernel_rfl
/-- slices.Clone[[]int,int] -/
def F82 : FC := ⟨8, [.tmp 2],
  (.seq (.ops [o 2 (.mov (.const (.slice none 0 0)))])
  (.seq (.seq (.ops [o 3 (.mov (q 0)), o 4 (.bin .eql (q 3) (.const (.slice none 0 0)) (some (.slice 3)))])
  (.cond (q 4)
  (.seq (.ops [o 2 (.mov (.const (.slice none 0 0)))])
  .ret)
  .skip))
  (.seq (.ops [o 5 (.buildSlice 1 0 [] []), o 6 (.mov (q 0)), o 7 (.append 1 8 (q 5) (q 6)), o 2 (.mov (q 7))])
  .ret)))⟩
theorem F82_ok : compF Tryz.prog 82 = some F82 := by kernel_rfl
/-- colonnade/kind.named -/
def F83 : FC := ⟨36, [.tmp 2],
  (.seq (.ops [o 2 (.mov (.const (.bool false)))])
  (.seq (.seq (.ops [o 5 (.mov (q 0)), o 6 (.len 0 (q 5)), o 7 (.mov (.const (.int .i64 0)))])
  (.block 0 (.loop (.seq (.ops [o 8 (.bin .lss (q 7) (q 6) (some (.int .i64)))])
  (.seq (.cond (q 8)
  .skip
  (.exit 0))
  (.seq (.block 1 (.seq (.ops [o 9 (.mov (q 7)), o 3 (.mov (q 9))])
  (.seq (.ops [o 10 (.mov (q 0)), o 11 (.mov (q 3)), o 12 (.indexStr (q 10) (q 11)), o 4 (.mov (q 12))])
  (.seq (.ops [o 13 (.mov (q 4)), o 14 (.call 105 [.tmp 13]), o 15 (.un .not (q 14)), o 16 (.mov (q 15)), ⟨some 17, .mov (q 3), some (16, false)⟩, ⟨some 18, .bin .eql (q 17) (.const (.int .i64 0)) (some (.int .i64)), some (16, false)⟩, ⟨some 19, .mov (q 18), some (16, false)⟩, ⟨some 20, .mov (q 4), some (19, true)⟩, ⟨some 21, .bin .geq (q 20) (.const (.int .u8 48)) (some (.int .u8)), some (19, true)⟩, ⟨some 22, .pick (q 19) (q 21) (.const (.bool false)), some (16, false)⟩, ⟨some 23, .mov (q 22), some (16, false)⟩, ⟨some 24, .mov (q 4), some (23, true)⟩, ⟨some 25, .bin .leq (q 24) (.const (.int .u8 57)) (some (.int .u8)), some (23, true)⟩, ⟨some 26, .pick (q 23) (q 25) (.const (.bool false)), some (16, false)⟩, o 27 (.pick (q 16) (.const (.bool true)) (q 26))])
  (.cond (q 27)
  (.seq (.ops [o 2 (.mov (.const (.bool false)))])
  .ret)
  .skip)))))
  (.ops [o 28 (.bin .add (q 7) (.const (.int .i64 1)) (some (.int .i64))), o 7 (.mov (q 28))])))))))
  (.seq (.ops [o 29 (.mov (q 0)), o 30 (.bin .neq (q 29) (.const (.string ⟨#[]⟩)) (some .string)), o 31 (.mov (q 30)), ⟨some 32, .mov (q 0), some (31, true)⟩, ⟨some 33, .len 0 (q 32), some (31, true)⟩, ⟨some 34, .bin .leq (q 33) (.const (.int .i64 48)) (some (.int .i64)), some (31, true)⟩, o 35 (.pick (q 31) (q 34) (.const (.bool false))), o 2 (.mov (q 35))])
  .ret)))⟩
theorem F83_ok : compF Tryz.prog 83 = some F83 := by kernel_rfl
/-- slices.ContainsFunc[[]colonnade/api.Field,colonnade/api.Field] -/
def F84 : FC := ⟨9, [.tmp 4],
  (.seq (.ops [o 4 (.mov (.const (.bool false)))])
  (.seq (.ops [o 5 (.mov (q 0)), o 6 (.mov (q 1)), o 7 (.call 106 [.tmp 5, .tmp 6]), o 8 (.bin .geq (q 7) (.const (.int .i64 0)) (some (.int .i64))), o 4 (.mov (q 8))])
  .ret))⟩
theorem F84_ok : compF Tryz.prog 84 = some F84 := by kernel_rfl
/-- colonnade/kind.wrong$1 -/
def F85 : FC := ⟨10, [.tmp 3],
  (.seq (.ops [o 2 (.box (q 0)), o 3 (.mov (.const (.bool false)))])
  (.seq (.ops [o 4 (.fieldAddr 0 (q 2)), o 5 (.load false 1 (q 4)), o 6 (.fieldAddr 2 (q 1)), o 7 (.fieldAddr 0 (q 6)), o 8 (.load false 1 (q 7)), o 9 (.bin .eql (q 5) (q 8) (some .string)), o 3 (.mov (q 9))])
  .ret))⟩
theorem F85_ok : compF Tryz.prog 85 = some F85 := by kernel_rfl
/-- colonnade/kind.fits -/
def F86 : FC := ⟨89, [.tmp 2],
  (.seq (.ops [o 1 (.box (q 0)), o 2 (.mov (.const (.bool false)))])
  (.seq (.seq (.ops [o 9 (.fieldAddr 0 (q 1)), o 10 (.load false 1 (q 9)), o 11 (.call 107 [.tmp 10]), o 12 (.un .not (q 11))])
  (.cond (q 12)
  (.seq (.ops [o 2 (.mov (.const (.bool false)))])
  .ret)
  .skip))
  (.seq (.ops [o 3 (.mov (.const (.int .i64 0))), o 4 (.mov (.const (.int .i64 0)))])
  (.seq (.ops [o 5 (.mov (.const (.int .i64 0))), o 6 (.mov (.const (.bool false)))])
  (.seq (.seq (.ops [o 13 (.fieldAddr 0 (q 1)), o 14 (.load false 1 (q 13))])
  (.block 0 (.seq (.ops [o 16 (.bin .eql (q 14) (.const (.int .i64 14)) (some (.int .i64))), o 15 (.mov (q 16))])
  (.cond (q 15)
  (.ops [o 5 (.mov (.const (.int .i64 16)))])
  (.seq (.seq (.ops [o 18 (.bin .eql (q 14) (.const (.int .i64 15)) (some (.int .i64))), o 17 (.mov (q 18))])
  (.cond (q 17)
  .skip
  (.ops [o 19 (.bin .eql (q 14) (.const (.int .i64 20)) (some (.int .i64))), o 17 (.mov (q 19))])))
  (.cond (q 17)
  (.ops [o 3 (.mov (.const (.int .i64 1))), o 4 (.mov (.const (.int .i64 1)))])
  (.seq (.ops [o 21 (.bin .eql (q 14) (.const (.int .i64 16)) (some (.int .i64))), o 20 (.mov (q 21))])
  (.cond (q 20)
  (.ops [o 3 (.mov (.const (.int .i64 1))), o 4 (.mov (.const (.int .i64 1))), o 5 (.mov (.const (.int .i64 64)))])
  (.seq (.ops [o 23 (.bin .eql (q 14) (.const (.int .i64 17)) (some (.int .i64))), o 22 (.mov (q 23))])
  (.cond (q 22)
  (.ops [o 4 (.mov (.const (.int .i64 32)))])
  (.seq (.ops [o 25 (.bin .eql (q 14) (.const (.int .i64 18)) (some (.int .i64))), o 24 (.mov (q 25))])
  (.cond (q 24)
  (.ops [o 3 (.mov (.const (.int .i64 1))), o 4 (.mov (.const (.int .i64 32)))])
  (.seq (.ops [o 27 (.bin .eql (q 14) (.const (.int .i64 19)) (some (.int .i64))), o 26 (.mov (q 27))])
  (.cond (q 26)
  (.ops [o 3 (.mov (.const (.int .i64 1))), o 4 (.mov (.const (.int .i64 1))), o 6 (.mov (.const (.bool true)))])
  .skip))))))))))))))
  (.seq (.ops [o 28 (.fieldAddr 1 (q 1)), o 29 (.load false 1 (q 28)), o 30 (.bin .eql (q 29) (.const (.int .i64 0)) (some (.int .i64))), o 7 (.mov (q 30))])
  (.seq (.seq (.ops [o 31 (.mov (q 5)), o 32 (.bin .gtr (q 31) (.const (.int .i64 0)) (some (.int .i64)))])
  (.cond (q 32)
  (.ops [o 33 (.fieldAddr 1 (q 1)), o 34 (.load false 1 (q 33)), o 35 (.bin .geq (q 34) (.const (.int .i64 1)) (some (.int .i64))), o 36 (.mov (q 35)), ⟨some 37, .fieldAddr 1 (q 1), some (36, true)⟩, ⟨some 38, .load false 1 (q 37), some (36, true)⟩, ⟨some 39, .mov (q 5), some (36, true)⟩, ⟨some 40, .bin .leq (q 38) (q 39) (some (.int .i64)), some (36, true)⟩, o 41 (.pick (q 36) (q 40) (.const (.bool false))), o 7 (.mov (q 41))])
  .skip))
  (.seq (.ops [o 42 (.fieldAddr 2 (q 1)), o 43 (.load false 1 (q 42)), o 44 (.bin .eql (q 43) (.const (.int .i64 0)) (some (.int .i64))), o 45 (.mov (q 44)), ⟨some 46, .fieldAddr 3 (q 1), some (45, true)⟩, ⟨some 47, .load false 1 (q 46), some (45, true)⟩, ⟨some 48, .bin .eql (q 47) (.const (.int .i64 0)) (some (.int .i64)), some (45, true)⟩, o 49 (.pick (q 45) (q 48) (.const (.bool false))), o 8 (.mov (q 49))])
  (.seq (.seq (.ops [o 50 (.mov (q 6))])
  (.cond (q 50)
  (.ops [o 51 (.fieldAddr 2 (q 1)), o 52 (.load false 1 (q 51)), o 53 (.bin .geq (q 52) (.const (.int .i64 0)) (some (.int .i64))), o 54 (.mov (q 53)), ⟨some 55, .fieldAddr 2 (q 1), some (54, true)⟩, ⟨some 56, .load false 1 (q 55), some (54, true)⟩, ⟨some 57, .bin .lss (q 56) (.const (.int .i64 32)) (some (.int .i64)), some (54, true)⟩, o 58 (.pick (q 54) (q 57) (.const (.bool false))), o 59 (.mov (q 58)), ⟨some 60, .fieldAddr 3 (q 1), some (59, true)⟩, ⟨some 61, .load false 1 (q 60), some (59, true)⟩, ⟨some 62, .call 107 [.tmp 61], some (59, true)⟩, o 63 (.pick (q 59) (q 62) (.const (.bool false))), o 64 (.mov (q 63)), ⟨some 65, .fieldAddr 3 (q 1), some (64, true)⟩, ⟨some 66, .load false 1 (q 65), some (64, true)⟩, ⟨some 67, .indexAddrArr 4 21 (.global 1) (q 66), some (64, true)⟩, ⟨some 68, .fieldAddr 3 (q 67), some (64, true)⟩, ⟨some 69, .load false 1 (q 68), some (64, true)⟩, o 70 (.pick (q 64) (q 69) (.const (.bool false))), o 8 (.mov (q 70))])
  .skip))
  (.seq (.ops [o 71 (.mov (q 7)), o 72 (.mov (q 71)), ⟨some 73, .mov (q 8), some (72, true)⟩, o 74 (.pick (q 72) (q 73) (.const (.bool false))), o 75 (.mov (q 74)), ⟨some 76, .fieldAddr 4 (q 1), some (75, true)⟩, ⟨some 77, .load false 1 (q 76), some (75, true)⟩, ⟨some 78, .len 1 (q 77), some (75, true)⟩, ⟨some 79, .mov (q 3), some (75, true)⟩, ⟨some 80, .bin .geq (q 78) (q 79) (some (.int .i64)), some (75, true)⟩, o 81 (.pick (q 75) (q 80) (.const (.bool false))), o 82 (.mov (q 81)), ⟨some 83, .fieldAddr 4 (q 1), some (82, true)⟩, ⟨some 84, .load false 1 (q 83), some (82, true)⟩, ⟨some 85, .len 1 (q 84), some (82, true)⟩, ⟨some 86, .mov (q 4), some (82, true)⟩, ⟨some 87, .bin .leq (q 85) (q 86) (some (.int .i64)), some (82, true)⟩, o 88 (.pick (q 82) (q 87) (.const (.bool false))), o 2 (.mov (q 88))])
  .ret))))))))))⟩
theorem F86_ok : compF Tryz.prog 86 = some F86 := by kernel_rfl
/-- colonnade/kind.nulls -/
def F87 : FC := ⟨26, [.tmp 2],
  (.seq (.ops [o 1 (.box (q 0)), o 2 (.mov (.const (.bool false)))])
  (.seq (.seq (.ops [o 3 (.fieldAddr 2 (q 1)), o 4 (.fieldAddr 0 (q 3)), o 5 (.load false 1 (q 4))])
  (.block 0 (.seq (.ops [o 7 (.bin .eql (q 5) (.const (.int .i64 1)) (some (.int .i64))), o 6 (.mov (q 7))])
  (.cond (q 6)
  (.seq (.ops [o 8 (.fieldAddr 1 (q 1)), o 9 (.load false 1 (q 8)), o 2 (.mov (q 9))])
  .ret)
  (.seq (.ops [o 11 (.bin .eql (q 5) (.const (.int .i64 18)) (some (.int .i64))), o 10 (.mov (q 11))])
  (.cond (q 10)
  (.seq (.ops [o 12 (.fieldAddr 1 (q 1)), o 13 (.load false 1 (q 12)), o 14 (.un .not (q 13)), o 2 (.mov (q 14))])
  .ret)
  (.seq (.ops [o 16 (.bin .eql (q 5) (.const (.int .i64 20)) (some (.int .i64))), o 15 (.mov (q 16))])
  (.cond (q 15)
  (.seq (.ops [o 17 (.fieldAddr 1 (q 1)), o 18 (.load false 1 (q 17)), o 19 (.fieldAddr 2 (q 1)), o 20 (.fieldAddr 4 (q 19)), o 21 (.load false 1 (q 20)), o 22 (.indexAddr 7 (q 21) (.const (.int .i64 0))), o 23 (.fieldAddr 1 (q 22)), o 24 (.load false 1 (q 23)), o 25 (.bin .eql (q 18) (q 24) (some .bool)), o 2 (.mov (q 25))])
  .ret)
  .skip))))))))
  (.seq (.ops [o 2 (.mov (.const (.bool true)))])
  .ret)))⟩
theorem F87_ok : compF Tryz.prog 87 = some F87 := by kernel_rfl
end Go.Proofs.YtecephhhjhpcjaaGreatDoor.Stats
end
