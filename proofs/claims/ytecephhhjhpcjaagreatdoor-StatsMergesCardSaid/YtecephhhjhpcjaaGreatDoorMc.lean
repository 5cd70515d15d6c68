/- YtecephhhjhpcjaaGreatDoorMc: the texts Scc, brought together. No conditions. -/
import Derived.Test.YtecephhhjhpcjaaGreatDoorMb
import Derived.Test.YtecephhhjhpcjaaGreatDoorX22
import Derived.Test.YtecephhhjhpcjaaGreatDoorProg
import Derived.KernelRfl
section
set_option linter.unusedVariables false
namespace Go.Proofs.YtecephhhjhpcjaaGreatDoor.Stats
open Go Go.Proofs.YtecephhhjhpcjaaGreatDoor Go.Proofs.YtecephhhjhpcjaaGreatDoor.Em
/-- (*colonnade/value.fitter).fits -/
def F89 : FC := ⟨219, [.tmp 6],
  (.seq (.ops [o 4 (.box (q 1)), o 5 (.box (q 2)), o 6 (.mov (.const (.bool false)))])
  (.seq (.ops [o 8 (.mov (q 0)), o 9 (.nilCheck (q 8)), o 10 (.fieldAddr 0 (q 9)), o 11 (.load false 1 (q 10)), o 12 (.bin .sub (q 11) (.const (.int .i64 16)) (some (.int .i64))), o 13 (.nilCheck (q 8)), o 14 (.fieldAddr 0 (q 13)), ⟨none, .store 1 (q 14) (q 12), none⟩])
  (.seq (.seq (.ops [o 15 (.mov (q 0)), o 16 (.nilCheck (q 15)), o 17 (.fieldAddr 0 (q 16)), o 18 (.load false 1 (q 17)), o 19 (.bin .lss (q 18) (.const (.int .i64 0)) (some (.int .i64))), o 20 (.mov (q 19)), ⟨some 21, .fieldAddr 2 (q 5), some (20, false)⟩, ⟨some 22, .load false 1 (q 21), some (20, false)⟩, ⟨some 23, .len 0 (q 22), some (20, false)⟩, ⟨some 24, .mov (q 0), some (20, false)⟩, ⟨some 25, .nilCheck (q 24), some (20, false)⟩, ⟨some 26, .fieldAddr 0 (q 25), some (20, false)⟩, ⟨some 27, .load false 1 (q 26), some (20, false)⟩, ⟨some 28, .bin .gtr (q 23) (q 27) (some (.int .i64)), some (20, false)⟩, o 29 (.pick (q 20) (.const (.bool true)) (q 28)), o 30 (.mov (q 29)), ⟨some 31, .fieldAddr 3 (q 5), some (30, false)⟩, ⟨some 32, .load false 1 (q 31), some (30, false)⟩, ⟨some 33, .len 1 (q 32), some (30, false)⟩, ⟨some 34, .bin .gtr (q 33) (.const (.int .i64 4096)) (some (.int .i64)), some (30, false)⟩, o 35 (.pick (q 30) (.const (.bool true)) (q 34))])
  (.cond (q 35)
  (.seq (.ops [o 6 (.mov (.const (.bool false)))])
  .ret)
  .skip))
  (.seq (.ops [o 36 (.mov (q 0)), o 37 (.nilCheck (q 36)), o 38 (.fieldAddr 0 (q 37)), o 39 (.load false 1 (q 38)), o 40 (.fieldAddr 2 (q 5)), o 41 (.load false 1 (q 40)), o 42 (.len 0 (q 41)), o 43 (.bin .sub (q 39) (q 42) (some (.int .i64))), o 44 (.nilCheck (q 36)), o 45 (.fieldAddr 0 (q 44)), ⟨none, .store 1 (q 45) (q 43), none⟩])
  (.seq (.seq (.ops [o 46 (.fieldAddr 0 (q 5)), o 47 (.load false 1 (q 46))])
  (.cond (q 47)
  (.seq (.ops [o 48 (.fieldAddr 1 (q 5)), o 49 (.load false 1 (q 48)), o 50 (.bin .eql (q 49) (.const (.int .i64 0)) (some (.int .i64))), o 51 (.mov (q 50)), ⟨some 52, .fieldAddr 2 (q 5), some (51, true)⟩, ⟨some 53, .load false 1 (q 52), some (51, true)⟩, ⟨some 54, .bin .eql (q 53) (.const (.string ⟨#[]⟩)) (some .string), some (51, true)⟩, o 55 (.pick (q 51) (q 54) (.const (.bool false))), o 56 (.mov (q 55)), ⟨some 57, .fieldAddr 3 (q 5), some (56, true)⟩, ⟨some 58, .load false 1 (q 57), some (56, true)⟩, ⟨some 59, .len 1 (q 58), some (56, true)⟩, ⟨some 60, .bin .eql (q 59) (.const (.int .i64 0)) (some (.int .i64)), some (56, true)⟩, o 61 (.pick (q 56) (q 60) (.const (.bool false))), o 62 (.mov (q 61)), ⟨some 63, .load true 7 (q 4), some (62, true)⟩, ⟨some 64, .call 108 [.tmp 63], some (62, true)⟩, o 65 (.pick (q 62) (q 64) (.const (.bool false))), o 6 (.mov (q 65))])
  .ret)
  .skip))
  (.seq (.ops [o 66 (.fieldAddr 2 (q 4)), o 67 (.load true 5 (q 66)), o 7 (.alloc [.int .i64 0, .int .i64 0, .int .i64 0, .int .i64 0, .slice none 0 0]), ⟨none, .store 5 (q 7) (q 67), none⟩])
  (.seq (.seq (.ops [o 68 (.fieldAddr 0 (q 7)), o 69 (.load false 1 (q 68))])
  (.block 0 (.seq (.seq (.ops [o 71 (.bin .eql (q 69) (.const (.int .i64 19)) (some (.int .i64))), o 70 (.mov (q 71))])
  (.cond (q 70)
  .skip
  (.ops [o 72 (.bin .eql (q 69) (.const (.int .i64 20)) (some (.int .i64))), o 70 (.mov (q 72))])))
  (.cond (q 70)
  (.seq (.ops [o 73 (.mov (q 0)), o 74 (.nilCheck (q 73)), o 75 (.fieldAddr 0 (q 74)), o 76 (.load false 1 (q 75)), o 77 (.fieldAddr 2 (q 5)), o 78 (.load false 1 (q 77)), o 79 (.len 0 (q 78)), o 80 (.bin .add (.const (.int .i64 16)) (q 79) (some (.int .i64))), o 81 (.bin .add (q 76) (q 80) (some (.int .i64))), o 82 (.nilCheck (q 73)), o 83 (.fieldAddr 0 (q 82)), ⟨none, .store 1 (q 83) (q 81), none⟩])
  (.seq (.ops [o 84 (.mov (q 0)), o 85 (.fieldAddr 4 (q 7)), o 86 (.load false 1 (q 85)), o 87 (.indexAddr 7 (q 86) (.const (.int .i64 0))), o 88 (.load true 7 (q 87)), o 89 (.load true 4 (q 5)), o 90 (.call 89 [.tmp 84, .tmp 88, .tmp 89]), o 6 (.mov (q 90))])
  .ret))
  (.seq (.ops [o 92 (.bin .eql (q 69) (.const (.int .i64 18)) (some (.int .i64))), o 91 (.mov (q 92))])
  (.cond (q 91)
  (.seq (.ops [o 93 (.fieldAddr 2 (q 5)), o 94 (.load false 1 (q 93)), o 95 (.bin .eql (q 94) (.const (.string ⟨#[]⟩)) (some .string)), o 96 (.mov (q 95)), ⟨some 97, .fieldAddr 1 (q 5), some (96, true)⟩, ⟨some 98, .load false 1 (q 97), some (96, true)⟩, ⟨some 99, .bin .geq (q 98) (.const (.int .i64 0)) (some (.int .i64)), some (96, true)⟩, o 100 (.pick (q 96) (q 99) (.const (.bool false))), o 101 (.mov (q 100)), ⟨some 102, .fieldAddr 1 (q 5), some (101, true)⟩, ⟨some 103, .load false 1 (q 102), some (101, true)⟩, ⟨some 104, .fieldAddr 4 (q 7), some (101, true)⟩, ⟨some 105, .load false 1 (q 104), some (101, true)⟩, ⟨some 106, .len 1 (q 105), some (101, true)⟩, ⟨some 107, .bin .lss (q 103) (q 106) (some (.int .i64)), some (101, true)⟩, o 108 (.pick (q 101) (q 107) (.const (.bool false))), o 109 (.mov (q 108)), ⟨some 110, .fieldAddr 3 (q 5), some (109, true)⟩, ⟨some 111, .load false 1 (q 110), some (109, true)⟩, ⟨some 112, .len 1 (q 111), some (109, true)⟩, ⟨some 113, .bin .eql (q 112) (.const (.int .i64 1)) (some (.int .i64)), some (109, true)⟩, o 114 (.pick (q 109) (q 113) (.const (.bool false))), o 115 (.mov (q 114)), ⟨some 116, .mov (q 0), some (115, true)⟩, ⟨some 117, .fieldAddr 4 (q 7), some (115, true)⟩, ⟨some 118, .load false 1 (q 117), some (115, true)⟩, ⟨some 119, .fieldAddr 1 (q 5), some (115, true)⟩, ⟨some 120, .load false 1 (q 119), some (115, true)⟩, ⟨some 121, .indexAddr 7 (q 118) (q 120), some (115, true)⟩, ⟨some 122, .load true 7 (q 121), some (115, true)⟩, ⟨some 123, .fieldAddr 3 (q 5), some (115, true)⟩, ⟨some 124, .load false 1 (q 123), some (115, true)⟩, ⟨some 125, .indexAddr 4 (q 124) (.const (.int .i64 0)), some (115, true)⟩, ⟨some 126, .load true 4 (q 125), some (115, true)⟩, ⟨some 127, .call 89 [.tmp 116, .tmp 122, .tmp 126], some (115, true)⟩, o 128 (.pick (q 115) (q 127) (.const (.bool false))), o 6 (.mov (q 128))])
  .ret)
  (.seq (.seq (.ops [o 130 (.bin .eql (q 69) (.const (.int .i64 15)) (some (.int .i64))), o 129 (.mov (q 130))])
  (.cond (q 129)
  .skip
  (.seq (.ops [o 131 (.bin .eql (q 69) (.const (.int .i64 16)) (some (.int .i64))), o 129 (.mov (q 131))])
  (.cond (q 129)
  .skip
  (.ops [o 132 (.bin .eql (q 69) (.const (.int .i64 17)) (some (.int .i64))), o 129 (.mov (q 132))])))))
  (.cond (q 129)
  (.seq (.ops [o 133 (.fieldAddr 1 (q 5)), o 134 (.load false 1 (q 133)), o 135 (.bin .eql (q 134) (.const (.int .i64 0)) (some (.int .i64))), o 136 (.mov (q 135)), ⟨some 137, .fieldAddr 2 (q 5), some (136, true)⟩, ⟨some 138, .load false 1 (q 137), some (136, true)⟩, ⟨some 139, .bin .eql (q 138) (.const (.string ⟨#[]⟩)) (some .string), some (136, true)⟩, o 140 (.pick (q 136) (q 139) (.const (.bool false))), o 141 (.mov (q 140)), ⟨some 142, .mov (q 0), some (141, true)⟩, ⟨some 143, .load true 5 (q 7), some (141, true)⟩, ⟨some 144, .fieldAddr 3 (q 5), some (141, true)⟩, ⟨some 145, .load false 1 (q 144), some (141, true)⟩, ⟨some 146, .call 109 [.tmp 142, .tmp 143, .tmp 145], some (141, true)⟩, o 147 (.pick (q 141) (q 146) (.const (.bool false))), o 6 (.mov (q 147))])
  .ret)
  (.seq (.seq (.ops [o 149 (.bin .eql (q 69) (.const (.int .i64 12)) (some (.int .i64))), o 148 (.mov (q 149))])
  (.cond (q 148)
  .skip
  (.seq (.ops [o 150 (.bin .eql (q 69) (.const (.int .i64 13)) (some (.int .i64))), o 148 (.mov (q 150))])
  (.cond (q 148)
  .skip
  (.ops [o 151 (.bin .eql (q 69) (.const (.int .i64 14)) (some (.int .i64))), o 148 (.mov (q 151))])))))
  (.cond (q 148)
  (.seq (.ops [o 152 (.fieldAddr 1 (q 5)), o 153 (.load false 1 (q 152)), o 154 (.bin .eql (q 153) (.const (.int .i64 0)) (some (.int .i64))), o 155 (.mov (q 154)), ⟨some 156, .fieldAddr 3 (q 5), some (155, true)⟩, ⟨some 157, .load false 1 (q 156), some (155, true)⟩, ⟨some 158, .len 1 (q 157), some (155, true)⟩, ⟨some 159, .bin .eql (q 158) (.const (.int .i64 0)) (some (.int .i64)), some (155, true)⟩, o 160 (.pick (q 155) (q 159) (.const (.bool false))), o 161 (.mov (q 160)), ⟨some 162, .fieldAddr 0 (q 7), some (161, true)⟩, ⟨some 163, .load false 1 (q 162), some (161, true)⟩, ⟨some 164, .bin .neq (q 163) (.const (.int .i64 12)) (some (.int .i64)), some (161, true)⟩, ⟨some 165, .mov (q 164), some (161, true)⟩, ⟨some 166, .fieldAddr 2 (q 5), some (165, false)⟩, ⟨some 167, .load false 1 (q 166), some (165, false)⟩, ⟨some 168, .call 110 [.tmp 167], some (165, false)⟩, ⟨some 169, .pick (q 165) (.const (.bool true)) (q 168), some (161, true)⟩, o 170 (.pick (q 161) (q 169) (.const (.bool false))), o 171 (.mov (q 170)), ⟨some 172, .fieldAddr 0 (q 7), some (171, true)⟩, ⟨some 173, .load false 1 (q 172), some (171, true)⟩, ⟨some 174, .bin .neq (q 173) (.const (.int .i64 14)) (some (.int .i64)), some (171, true)⟩, ⟨some 175, .mov (q 174), some (171, true)⟩, ⟨some 176, .fieldAddr 2 (q 5), some (175, false)⟩, ⟨some 177, .load false 1 (q 176), some (175, false)⟩, ⟨some 178, .len 0 (q 177), some (175, false)⟩, ⟨some 179, .fieldAddr 1 (q 7), some (175, false)⟩, ⟨some 180, .load false 1 (q 179), some (175, false)⟩, ⟨some 181, .bin .eql (q 178) (q 180) (some (.int .i64)), some (175, false)⟩, ⟨some 182, .pick (q 175) (.const (.bool true)) (q 181), some (171, true)⟩, o 183 (.pick (q 171) (q 182) (.const (.bool false))), o 6 (.mov (q 183))])
  .ret)
  .skip))))))))))
  (.seq (.seq (.ops [o 184 (.fieldAddr 2 (q 5)), o 185 (.load false 1 (q 184)), o 186 (.bin .neq (q 185) (.const (.string ⟨#[]⟩)) (some .string)), o 187 (.mov (q 186)), ⟨some 188, .fieldAddr 3 (q 5), some (187, false)⟩, ⟨some 189, .load false 1 (q 188), some (187, false)⟩, ⟨some 190, .len 1 (q 189), some (187, false)⟩, ⟨some 191, .bin .gtr (q 190) (.const (.int .i64 0)) (some (.int .i64)), some (187, false)⟩, o 192 (.pick (q 187) (.const (.bool true)) (q 191))])
  (.cond (q 192)
  (.seq (.ops [o 6 (.mov (.const (.bool false)))])
  .ret)
  .skip))
  (.seq (.block 1 (.seq (.ops [o 194 (.fieldAddr 0 (q 7)), o 195 (.load false 1 (q 194)), o 196 (.bin .eql (q 195) (.const (.int .i64 2)) (some (.int .i64))), o 193 (.mov (q 196))])
  (.cond (q 193)
  (.seq (.ops [o 197 (.fieldAddr 1 (q 5)), o 198 (.load false 1 (q 197)), o 199 (.bin .eql (q 198) (.const (.int .i64 0)) (some (.int .i64))), o 200 (.mov (q 199)), ⟨some 201, .fieldAddr 1 (q 5), some (200, false)⟩, ⟨some 202, .load false 1 (q 201), some (200, false)⟩, ⟨some 203, .bin .eql (q 202) (.const (.int .i64 1)) (some (.int .i64)), some (200, false)⟩, o 204 (.pick (q 200) (.const (.bool true)) (q 203)), o 6 (.mov (q 204))])
  .ret)
  (.seq (.ops [o 206 (.fieldAddr 0 (q 7)), o 207 (.load false 1 (q 206)), o 208 (.bin .eql (q 207) (.const (.int .i64 11)) (some (.int .i64))), o 205 (.mov (q 208))])
  (.cond (q 205)
  (.seq (.ops [o 6 (.mov (.const (.bool true)))])
  .ret)
  .skip)))))
  (.seq (.ops [o 209 (.fieldAddr 0 (q 7)), o 210 (.load false 1 (q 209)), o 211 (.call 111 [.tmp 210]), o 212 (.mov (q 211)), ⟨some 213, .fieldAddr 0 (q 7), some (212, true)⟩, ⟨some 214, .load false 1 (q 213), some (212, true)⟩, ⟨some 215, .fieldAddr 1 (q 5), some (212, true)⟩, ⟨some 216, .load false 1 (q 215), some (212, true)⟩, ⟨some 217, .call 112 [.tmp 214, .tmp 216], some (212, true)⟩, o 218 (.pick (q 212) (q 217) (.const (.bool false))), o 6 (.mov (q 218))])
  .ret))))))))))⟩
theorem F89_ok : compF Tryz.prog 89 = some F89 := by kernel_rfl
/-- cmp.Compare[uint64] -/
def F90 : FC := ⟨20, [.tmp 4],
  (.seq (.ops [o 4 (.mov (.const (.int .i64 0)))])
  (.seq (.ops [o 7 (.mov (q 0)), o 8 (.call 113 [.tmp 7]), o 5 (.mov (q 8))])
  (.seq (.ops [o 9 (.mov (q 1)), o 10 (.call 113 [.tmp 9]), o 6 (.mov (q 10))])
  (.seq (.seq (.ops [o 11 (.mov (q 5))])
  (.cond (q 11)
  (.seq (.seq (.ops [o 12 (.mov (q 6))])
  (.cond (q 12)
  (.seq (.ops [o 4 (.mov (.const (.int .i64 0)))])
  .ret)
  .skip))
  (.seq (.ops [o 4 (.mov (.const (.int .i64 (-1))))])
  .ret))
  .skip))
  (.seq (.seq (.ops [o 13 (.mov (q 6))])
  (.cond (q 13)
  (.seq (.ops [o 4 (.mov (.const (.int .i64 1)))])
  .ret)
  .skip))
  (.seq (.seq (.ops [o 14 (.mov (q 0)), o 15 (.mov (q 1)), o 16 (.bin .lss (q 14) (q 15) (some (.int .u64)))])
  (.cond (q 16)
  (.seq (.ops [o 4 (.mov (.const (.int .i64 (-1))))])
  .ret)
  .skip))
  (.seq (.seq (.ops [o 17 (.mov (q 0)), o 18 (.mov (q 1)), o 19 (.bin .gtr (q 17) (q 18) (some (.int .u64)))])
  (.cond (q 19)
  (.seq (.ops [o 4 (.mov (.const (.int .i64 1)))])
  .ret)
  .skip))
  (.seq (.ops [o 4 (.mov (.const (.int .i64 0)))])
  .ret))))))))⟩
theorem F90_ok : compF Tryz.prog 90 = some F90 := by kernel_rfl
/-- colonnade/value.total -/
def F91 : FC := ⟨11, [.tmp 2],
  (.seq (.ops [o 2 (.mov (.const (.int .u64 0)))])
  (.seq (.seq (.ops [o 3 (.mov (q 0)), o 4 (.bin .lss (q 3) (.const (.int .i64 0)) (some (.int .i64)))])
  (.cond (q 4)
  (.seq (.ops [o 5 (.mov (q 0)), o 6 (.conv .u64 (q 5)), o 7 (.un .xor (q 6)), o 2 (.mov (q 7))])
  .ret)
  .skip))
  (.seq (.ops [o 8 (.mov (q 0)), o 9 (.conv .u64 (q 8)), o 10 (.bin .or (q 9) (.const (.int .u64 9223372036854775808)) (some (.int .u64))), o 2 (.mov (q 10))])
  .ret)))⟩
theorem F91_ok : compF Tryz.prog 91 = some F91 := by kernel_rfl
/-- cmp.Compare[int64] -/
def F92 : FC := ⟨20, [.tmp 4],
  (.seq (.ops [o 4 (.mov (.const (.int .i64 0)))])
  (.seq (.ops [o 7 (.mov (q 0)), o 8 (.call 114 [.tmp 7]), o 5 (.mov (q 8))])
  (.seq (.ops [o 9 (.mov (q 1)), o 10 (.call 114 [.tmp 9]), o 6 (.mov (q 10))])
  (.seq (.seq (.ops [o 11 (.mov (q 5))])
  (.cond (q 11)
  (.seq (.seq (.ops [o 12 (.mov (q 6))])
  (.cond (q 12)
  (.seq (.ops [o 4 (.mov (.const (.int .i64 0)))])
  .ret)
  .skip))
  (.seq (.ops [o 4 (.mov (.const (.int .i64 (-1))))])
  .ret))
  .skip))
  (.seq (.seq (.ops [o 13 (.mov (q 6))])
  (.cond (q 13)
  (.seq (.ops [o 4 (.mov (.const (.int .i64 1)))])
  .ret)
  .skip))
  (.seq (.seq (.ops [o 14 (.mov (q 0)), o 15 (.mov (q 1)), o 16 (.bin .lss (q 14) (q 15) (some (.int .i64)))])
  (.cond (q 16)
  (.seq (.ops [o 4 (.mov (.const (.int .i64 (-1))))])
  .ret)
  .skip))
  (.seq (.seq (.ops [o 17 (.mov (q 0)), o 18 (.mov (q 1)), o 19 (.bin .gtr (q 17) (q 18) (some (.int .i64)))])
  (.cond (q 19)
  (.seq (.ops [o 4 (.mov (.const (.int .i64 1)))])
  .ret)
  .skip))
  (.seq (.ops [o 4 (.mov (.const (.int .i64 0)))])
  .ret))))))))⟩
theorem F92_ok : compF Tryz.prog 92 = some F92 := by kernel_rfl
/-- cmp.Compare[int] -/
def F93 : FC := ⟨20, [.tmp 4],
  (.seq (.ops [o 4 (.mov (.const (.int .i64 0)))])
  (.seq (.ops [o 7 (.mov (q 0)), o 8 (.call 115 [.tmp 7]), o 5 (.mov (q 8))])
  (.seq (.ops [o 9 (.mov (q 1)), o 10 (.call 115 [.tmp 9]), o 6 (.mov (q 10))])
  (.seq (.seq (.ops [o 11 (.mov (q 5))])
  (.cond (q 11)
  (.seq (.seq (.ops [o 12 (.mov (q 6))])
  (.cond (q 12)
  (.seq (.ops [o 4 (.mov (.const (.int .i64 0)))])
  .ret)
  .skip))
  (.seq (.ops [o 4 (.mov (.const (.int .i64 (-1))))])
  .ret))
  .skip))
  (.seq (.seq (.ops [o 13 (.mov (q 6))])
  (.cond (q 13)
  (.seq (.ops [o 4 (.mov (.const (.int .i64 1)))])
  .ret)
  .skip))
  (.seq (.seq (.ops [o 14 (.mov (q 0)), o 15 (.mov (q 1)), o 16 (.bin .lss (q 14) (q 15) (some (.int .i64)))])
  (.cond (q 16)
  (.seq (.ops [o 4 (.mov (.const (.int .i64 (-1))))])
  .ret)
  .skip))
  (.seq (.seq (.ops [o 17 (.mov (q 0)), o 18 (.mov (q 1)), o 19 (.bin .gtr (q 17) (q 18) (some (.int .i64)))])
  (.cond (q 19)
  (.seq (.ops [o 4 (.mov (.const (.int .i64 1)))])
  .ret)
  .skip))
  (.seq (.ops [o 4 (.mov (.const (.int .i64 0)))])
  .ret))))))))⟩
theorem F93_ok : compF Tryz.prog 93 = some F93 := by kernel_rfl
/-- colonnade/colonnaderef04.Weight -/
def F94 : FC := ⟨52, [.tmp 4],
  (.seq (.ops [o 2 (.box (q 0)), o 4 (.mov (.const (.int .i64 0)))])
  (.seq (.ops [o 5 (.mov (.const (.int .i64 16)))])
  (.seq (.seq (.ops [o 8 (.fieldAddr 2 (q 2)), o 9 (.load false 1 (q 8)), o 10 (.len 0 (q 9)), o 11 (.mov (q 1)), o 12 (.mov (q 5)), o 13 (.bin .sub (q 11) (q 12) (some (.int .i64))), o 14 (.bin .gtr (q 10) (q 13) (some (.int .i64)))])
  (.cond (q 14)
  (.seq (.ops [o 15 (.mov (q 1)), o 16 (.bin .add (q 15) (.const (.int .i64 1)) (some (.int .i64))), o 4 (.mov (q 16))])
  .ret)
  .skip))
  (.seq (.ops [o 17 (.mov (q 5)), o 18 (.fieldAddr 2 (q 2)), o 19 (.load false 1 (q 18)), o 20 (.len 0 (q 19)), o 21 (.bin .add (q 17) (q 20) (some (.int .i64))), o 5 (.mov (q 21))])
  (.seq (.seq (.ops [o 6 (.mov (.const (.int .i64 0)))])
  (.block 0 (.loop (.seq (.seq (.ops [o 22 (.mov (q 6)), o 23 (.fieldAddr 3 (q 2)), o 24 (.load false 1 (q 23)), o 25 (.len 1 (q 24)), o 26 (.bin .lss (q 22) (q 25) (some (.int .i64)))])
  (.cond (q 26)
  .skip
  (.exit 0)))
  (.seq (.block 1 (.seq (.seq (.ops [o 29 (.mov (q 5)), o 30 (.mov (q 1)), o 31 (.bin .gtr (q 29) (q 30) (some (.int .i64)))])
  (.cond (q 31)
  (.seq (.ops [o 32 (.mov (q 1)), o 33 (.bin .add (q 32) (.const (.int .i64 1)) (some (.int .i64))), o 4 (.mov (q 33))])
  .ret)
  .skip))
  (.seq (.ops [o 34 (.fieldAddr 3 (q 2)), o 35 (.load false 1 (q 34)), o 36 (.mov (q 6)), o 37 (.indexAddr 4 (q 35) (q 36)), o 38 (.load true 4 (q 37)), o 39 (.mov (q 1)), o 40 (.mov (q 5)), o 41 (.bin .sub (q 39) (q 40) (some (.int .i64))), o 42 (.call 94 [.tmp 38, .tmp 41]), o 7 (.mov (q 42))])
  (.ops [o 43 (.mov (q 5)), o 44 (.mov (q 7)), o 45 (.bin .add (q 43) (q 44) (some (.int .i64))), o 5 (.mov (q 45))]))))
  (.ops [o 27 (.mov (q 6)), o 28 (.bin .add (q 27) (.const (.int .i64 1)) (some (.int .i64))), o 6 (.mov (q 28))]))))))
  (.seq (.seq (.ops [o 46 (.mov (q 5)), o 47 (.mov (q 1)), o 48 (.bin .gtr (q 46) (q 47) (some (.int .i64)))])
  (.cond (q 48)
  (.seq (.ops [o 49 (.mov (q 1)), o 50 (.bin .add (q 49) (.const (.int .i64 1)) (some (.int .i64))), o 4 (.mov (q 50))])
  .ret)
  .skip))
  (.seq (.ops [o 51 (.mov (q 5)), o 4 (.mov (q 51))])
  .ret)))))))⟩
theorem F94_ok : compF Tryz.prog 94 = some F94 := by kernel_rfl
/-- colonnade/colonnaderef04.fits -/
def F95 : FC := ⟨127, [.tmp 4],
  (.seq (.ops [o 2 (.box (q 0)), o 3 (.box (q 1)), o 4 (.mov (.const (.bool false)))])
  (.seq (.ops [o 9 (.fieldAddr 2 (q 2)), o 10 (.load true 5 (q 9)), o 5 (.alloc [.int .i64 0, .int .i64 0, .int .i64 0, .int .i64 0, .slice none 0 0]), ⟨none, .store 5 (q 5) (q 10), none⟩])
  (.seq (.seq (.ops [o 11 (.fieldAddr 0 (q 3)), o 12 (.load false 1 (q 11))])
  (.cond (q 12)
  (.seq (.ops [o 13 (.load true 7 (q 2)), o 14 (.call 116 [.tmp 13]), o 6 (.mov (q 14))])
  (.seq (.ops [o 15 (.mov (q 6)), o 16 (.mov (q 15)), ⟨some 17, .fieldAddr 1 (q 3), some (16, true)⟩, ⟨some 18, .load false 1 (q 17), some (16, true)⟩, ⟨some 19, .bin .eql (q 18) (.const (.int .i64 0)) (some (.int .i64)), some (16, true)⟩, o 20 (.pick (q 16) (q 19) (.const (.bool false))), o 21 (.mov (q 20)), ⟨some 22, .fieldAddr 2 (q 3), some (21, true)⟩, ⟨some 23, .load false 1 (q 22), some (21, true)⟩, ⟨some 24, .bin .eql (q 23) (.const (.string ⟨#[]⟩)) (some .string), some (21, true)⟩, o 25 (.pick (q 21) (q 24) (.const (.bool false))), o 26 (.mov (q 25)), ⟨some 27, .fieldAddr 3 (q 3), some (26, true)⟩, ⟨some 28, .load false 1 (q 27), some (26, true)⟩, ⟨some 29, .len 1 (q 28), some (26, true)⟩, ⟨some 30, .bin .eql (q 29) (.const (.int .i64 0)) (some (.int .i64)), some (26, true)⟩, o 31 (.pick (q 26) (q 30) (.const (.bool false))), o 4 (.mov (q 31))])
  .ret))
  .skip))
  (.seq (.ops [o 32 (.fieldAddr 0 (q 5)), o 33 (.load false 1 (q 32)), o 34 (.call 117 [.tmp 33]), o 7 (.mov (q 34))])
  (.seq (.block 0 (.seq (.ops [o 36 (.mov (q 7)), o 35 (.mov (q 36))])
  (.cond (q 35)
  (.seq (.ops [o 37 (.fieldAddr 0 (q 5)), o 38 (.load false 1 (q 37)), o 39 (.fieldAddr 1 (q 3)), o 40 (.load false 1 (q 39)), o 41 (.call 118 [.tmp 38, .tmp 40]), o 42 (.mov (q 41)), ⟨some 43, .fieldAddr 2 (q 3), some (42, true)⟩, ⟨some 44, .load false 1 (q 43), some (42, true)⟩, ⟨some 45, .bin .eql (q 44) (.const (.string ⟨#[]⟩)) (some .string), some (42, true)⟩, o 46 (.pick (q 42) (q 45) (.const (.bool false))), o 47 (.mov (q 46)), ⟨some 48, .fieldAddr 3 (q 3), some (47, true)⟩, ⟨some 49, .load false 1 (q 48), some (47, true)⟩, ⟨some 50, .len 1 (q 49), some (47, true)⟩, ⟨some 51, .bin .eql (q 50) (.const (.int .i64 0)) (some (.int .i64)), some (47, true)⟩, o 52 (.pick (q 47) (q 51) (.const (.bool false))), o 4 (.mov (q 52))])
  .ret)
  (.seq (.ops [o 54 (.fieldAddr 0 (q 5)), o 55 (.load false 1 (q 54)), o 56 (.bin .eql (q 55) (.const (.int .i64 12)) (some (.int .i64))), o 53 (.mov (q 56))])
  (.cond (q 53)
  (.seq (.ops [o 57 (.fieldAddr 2 (q 3)), o 58 (.load false 1 (q 57)), o 59 (.call 119 [.tmp 58]), o 8 (.mov (q 59))])
  (.seq (.ops [o 60 (.mov (q 8)), o 61 (.mov (q 60)), ⟨some 62, .fieldAddr 1 (q 3), some (61, true)⟩, ⟨some 63, .load false 1 (q 62), some (61, true)⟩, ⟨some 64, .bin .eql (q 63) (.const (.int .i64 0)) (some (.int .i64)), some (61, true)⟩, o 65 (.pick (q 61) (q 64) (.const (.bool false))), o 66 (.mov (q 65)), ⟨some 67, .fieldAddr 3 (q 3), some (66, true)⟩, ⟨some 68, .load false 1 (q 67), some (66, true)⟩, ⟨some 69, .len 1 (q 68), some (66, true)⟩, ⟨some 70, .bin .eql (q 69) (.const (.int .i64 0)) (some (.int .i64)), some (66, true)⟩, o 71 (.pick (q 66) (q 70) (.const (.bool false))), o 4 (.mov (q 71))])
  .ret))
  (.seq (.ops [o 73 (.fieldAddr 0 (q 5)), o 74 (.load false 1 (q 73)), o 75 (.bin .eql (q 74) (.const (.int .i64 13)) (some (.int .i64))), o 72 (.mov (q 75))])
  (.cond (q 72)
  (.seq (.ops [o 76 (.fieldAddr 1 (q 3)), o 77 (.load false 1 (q 76)), o 78 (.bin .eql (q 77) (.const (.int .i64 0)) (some (.int .i64))), o 79 (.mov (q 78)), ⟨some 80, .fieldAddr 3 (q 3), some (79, true)⟩, ⟨some 81, .load false 1 (q 80), some (79, true)⟩, ⟨some 82, .len 1 (q 81), some (79, true)⟩, ⟨some 83, .bin .eql (q 82) (.const (.int .i64 0)) (some (.int .i64)), some (79, true)⟩, o 84 (.pick (q 79) (q 83) (.const (.bool false))), o 4 (.mov (q 84))])
  .ret)
  (.seq (.ops [o 86 (.fieldAddr 0 (q 5)), o 87 (.load false 1 (q 86)), o 88 (.bin .eql (q 87) (.const (.int .i64 14)) (some (.int .i64))), o 85 (.mov (q 88))])
  (.cond (q 85)
  (.seq (.ops [o 89 (.fieldAddr 1 (q 3)), o 90 (.load false 1 (q 89)), o 91 (.bin .eql (q 90) (.const (.int .i64 0)) (some (.int .i64))), o 92 (.mov (q 91)), ⟨some 93, .fieldAddr 3 (q 3), some (92, true)⟩, ⟨some 94, .load false 1 (q 93), some (92, true)⟩, ⟨some 95, .len 1 (q 94), some (92, true)⟩, ⟨some 96, .bin .eql (q 95) (.const (.int .i64 0)) (some (.int .i64)), some (92, true)⟩, o 97 (.pick (q 92) (q 96) (.const (.bool false))), o 98 (.mov (q 97)), ⟨some 99, .fieldAddr 2 (q 3), some (98, true)⟩, ⟨some 100, .load false 1 (q 99), some (98, true)⟩, ⟨some 101, .len 0 (q 100), some (98, true)⟩, ⟨some 102, .fieldAddr 1 (q 5), some (98, true)⟩, ⟨some 103, .load false 1 (q 102), some (98, true)⟩, ⟨some 104, .bin .eql (q 101) (q 103) (some (.int .i64)), some (98, true)⟩, o 105 (.pick (q 98) (q 104) (.const (.bool false))), o 4 (.mov (q 105))])
  .ret)
  (.seq (.seq (.ops [o 107 (.fieldAddr 0 (q 5)), o 108 (.load false 1 (q 107)), o 109 (.bin .eql (q 108) (.const (.int .i64 19)) (some (.int .i64))), o 106 (.mov (q 109))])
  (.cond (q 106)
  .skip
  (.ops [o 110 (.fieldAddr 0 (q 5)), o 111 (.load false 1 (q 110)), o 112 (.bin .eql (q 111) (.const (.int .i64 20)) (some (.int .i64))), o 106 (.mov (q 112))])))
  (.cond (q 106)
  (.seq (.ops [o 113 (.fieldAddr 4 (q 5)), o 114 (.load false 1 (q 113)), o 115 (.indexAddr 7 (q 114) (.const (.int .i64 0))), o 116 (.load true 7 (q 115)), o 117 (.load true 4 (q 3)), o 118 (.call 95 [.tmp 116, .tmp 117]), o 4 (.mov (q 118))])
  .ret)
  .skip)))))))))))
  (.seq (.ops [o 119 (.fieldAddr 2 (q 3)), o 120 (.load false 1 (q 119)), o 121 (.bin .eql (q 120) (.const (.string ⟨#[]⟩)) (some .string)), o 122 (.mov (q 121)), ⟨some 123, .load true 5 (q 5), some (122, true)⟩, ⟨some 124, .load true 4 (q 3), some (122, true)⟩, ⟨some 125, .call 120 [.tmp 123, .tmp 124], some (122, true)⟩, o 126 (.pick (q 122) (q 125) (.const (.bool false))), o 4 (.mov (q 126))])
  .ret))))))⟩
theorem F95_ok : compF Tryz.prog 95 = some F95 := by kernel_rfl
/-- colonnade/array.check -/
def F97 : FC := ⟨92, [.cell 4 true 3, .tmp 5],
  (.seq (.ops [o 2 (.box (q 0)), o 3 (.box (q 1)), o 4 (.alloc [.int .i64 0, .slice none 0 0, .int .i64 0]), o 5 (.mov (.const (.slice none 0 0)))])
  (.seq (.seq (.ops [o 18 (.load true 7 (q 2)), o 19 (.load true 6 (q 3)), o 20 (.call 121 [.tmp 18, .tmp 19]), o 6 (.alloc [.int .i64 0, .slice none 0 0, .int .i64 0]), ⟨none, .store 3 (q 6) (q 20), none⟩])
  (.seq (.ops [o 21 (.fieldAddr 0 (q 6)), o 22 (.load false 1 (q 21)), o 23 (.bin .neq (q 22) (.const (.int .i64 0)) (some (.int .i64)))])
  (.cond (q 23)
  (.seq (.ops [o 24 (.load true 3 (q 6)), ⟨none, .store 3 (q 4) (q 24), none⟩, o 5 (.mov (.const (.slice none 0 0)))])
  .ret)
  .skip)))
  (.seq (.seq (.ops [o 25 (.load true 7 (q 2)), o 26 (.load true 6 (q 3)), o 27 (.call 122 [.tmp 25, .tmp 26]), o 7 (.alloc [.int .i64 0, .slice none 0 0, .int .i64 0]), ⟨none, .store 3 (q 7) (q 27), none⟩])
  (.seq (.ops [o 28 (.fieldAddr 0 (q 7)), o 29 (.load false 1 (q 28)), o 30 (.bin .neq (q 29) (.const (.int .i64 0)) (some (.int .i64)))])
  (.cond (q 30)
  (.seq (.ops [o 31 (.load true 3 (q 7)), ⟨none, .store 3 (q 4) (q 31), none⟩, o 5 (.mov (.const (.slice none 0 0)))])
  .ret)
  .skip)))
  (.seq (.ops [o 8 (.mov (.const (.slice none 0 0)))])
  (.seq (.seq (.ops [o 32 (.load true 6 (q 3)), o 33 (.call 123 [.tmp 32]), o 34 (.len 1 (q 33)), o 35 (.mov (.const (.int .i64 0)))])
  (.block 0 (.loop (.seq (.ops [o 36 (.bin .lss (q 35) (q 34) (some (.int .i64)))])
  (.seq (.cond (q 36)
  .skip
  (.exit 0))
  (.seq (.block 1 (.seq (.ops [o 37 (.mov (q 35)), o 38 (.indexAddr 6 (q 33) (q 35)), o 39 (.load true 6 (q 38)), o 10 (.alloc [.int .i64 0, .int .i64 0, .int .i64 0, .slice none 0 0, .slice none 0 0, .slice none 0 0]), o 9 (.mov (q 37)), ⟨none, .store 6 (q 10) (q 39), none⟩])
  (.seq (.ops [o 41 (.load true 7 (q 2)), o 42 (.mov (q 9)), o 44 (.load true 6 (q 10)), o 43 (.call 124 [.tmp 41, .tmp 42]), ⟨none, .again 44 true 6 (q 10), none⟩, o 45 (.call 97 [.tmp 43, .tmp 44]), o 40 (.mov (q 45)), o 46 (.extract (q 40) 0), o 47 (.extract (q 40) 1), o 11 (.alloc [.int .i64 0, .slice none 0 0, .int .i64 0]), ⟨none, .store 3 (q 11) (q 46), none⟩, o 12 (.mov (q 47))])
  (.seq (.seq (.ops [o 48 (.fieldAddr 0 (q 11)), o 49 (.load false 1 (q 48)), o 50 (.bin .neq (q 49) (.const (.int .i64 0)) (some (.int .i64)))])
  (.cond (q 50)
  (.seq (.ops [o 51 (.mov (q 9)), o 52 (.buildSlice 1 1 [.int .i64 0] [(0, 1, (q 51))]), o 53 (.fieldAddr 1 (q 11)), o 54 (.load false 1 (q 53)), o 55 (.append 1 8 (q 52) (q 54)), o 56 (.fieldAddr 1 (q 11)), ⟨none, .store 1 (q 56) (q 55), none⟩])
  (.seq (.ops [o 57 (.load true 3 (q 11)), ⟨none, .store 3 (q 4) (q 57), none⟩, o 5 (.mov (.const (.slice none 0 0)))])
  .ret))
  .skip))
  (.ops [o 58 (.mov (q 8)), o 59 (.mov (q 12)), o 60 (.buildSlice 1 1 [.slice none 0 0] [(0, 1, (q 59))]), o 61 (.append 1 24 (q 58) (q 60)), o 8 (.mov (q 61))])))))
  (.ops [o 62 (.bin .add (q 35) (.const (.int .i64 1)) (some (.int .i64))), o 35 (.mov (q 62))])))))))
  (.seq (.seq (.ops [o 63 (.fieldAddr 2 (q 2)), o 64 (.fieldAddr 0 (q 63)), o 65 (.load false 1 (q 64)), o 66 (.bin .eql (q 65) (.const (.int .i64 20)) (some (.int .i64)))])
  (.cond (q 66)
  (.seq (.ops [o 67 (.load true 6 (q 3)), o 68 (.call 125 [.tmp 67]), o 13 (.alloc [.int .i64 0, .slice none 0 0, .int .i64 0]), ⟨none, .store 3 (q 13) (q 68), none⟩])
  (.seq (.ops [o 69 (.fieldAddr 0 (q 13)), o 70 (.load false 1 (q 69)), o 71 (.bin .neq (q 70) (.const (.int .i64 0)) (some (.int .i64)))])
  (.cond (q 71)
  (.seq (.ops [o 72 (.load true 3 (q 13)), ⟨none, .store 3 (q 4) (q 72), none⟩, o 5 (.mov (.const (.slice none 0 0)))])
  .ret)
  .skip)))
  .skip))
  (.seq (.ops [o 73 (.load true 7 (q 2)), o 74 (.load true 6 (q 3)), o 75 (.mov (q 8)), o 76 (.call 126 [.tmp 73, .tmp 74, .tmp 75]), o 14 (.mov (q 76))])
  (.seq (.ops [o 15 (.mov (.const (.int .i64 0)))])
  (.seq (.seq (.ops [o 77 (.mov (q 14)), o 78 (.len 1 (q 77)), o 79 (.mov (.const (.int .i64 0)))])
  (.block 2 (.loop (.seq (.ops [o 80 (.bin .lss (q 79) (q 78) (some (.int .i64)))])
  (.seq (.cond (q 80)
  .skip
  (.exit 2))
  (.seq (.block 3 (.seq (.ops [o 81 (.indexAddr 1 (q 77) (q 79)), o 82 (.load false 1 (q 81)), o 17 (.mov (q 82))])
  (.ops [o 83 (.mov (q 15)), o 84 (.mov (q 17)), o 85 (.bin .add (q 83) (q 84) (some (.int .i64))), o 15 (.mov (q 85))])))
  (.ops [o 86 (.bin .add (q 79) (.const (.int .i64 1)) (some (.int .i64))), o 79 (.mov (q 86))])))))))
  (.seq (.seq (.ops [o 87 (.mov (q 15)), o 88 (.bin .gtr (q 87) (.const (.int .i64 4194304)) (some (.int .i64)))])
  (.cond (q 88)
  (.seq (.ops [o 89 (.call 96 [(.const (.int .i64 3)), (.const (.int .i64 1))]), ⟨none, .store 3 (q 4) (q 89), none⟩, o 5 (.mov (.const (.slice none 0 0)))])
  .ret)
  .skip))
  (.seq (.ops [o 90 (.build [.int .i64 0, .slice none 0 0, .int .i64 0] []), o 91 (.mov (q 14)), ⟨none, .store 3 (q 4) (q 90), none⟩, o 5 (.mov (q 91))])
  .ret)))))))))))⟩
theorem F97_ok : compF Tryz.prog 97 = some F97 := by kernel_rfl
/-- colonnade/array.familyOf -/
def F98 : FC := ⟨32, [.tmp 2],
  (.seq (.ops [o 2 (.mov (.const .nilIface))])
  (.seq (.seq (.ops [o 3 (.mov (q 0))])
  (.block 0 (.seq (.seq (.ops [o 5 (.bin .eql (q 3) (.const (.int .i64 12)) (some (.int .i64))), o 4 (.mov (q 5))])
  (.cond (q 4)
  .skip
  (.ops [o 6 (.bin .eql (q 3) (.const (.int .i64 13)) (some (.int .i64))), o 4 (.mov (q 6))])))
  (.cond (q 4)
  (.seq (.ops [o 7 (.build [] []), o 8 (.mkIface 171 (q 7)), o 2 (.mov (q 8))])
  .ret)
  (.seq (.seq (.ops [o 10 (.bin .eql (q 3) (.const (.int .i64 15)) (some (.int .i64))), o 9 (.mov (q 10))])
  (.cond (q 9)
  .skip
  (.ops [o 11 (.bin .eql (q 3) (.const (.int .i64 16)) (some (.int .i64))), o 9 (.mov (q 11))])))
  (.cond (q 9)
  (.seq (.ops [o 12 (.build [] []), o 13 (.mkIface 172 (q 12)), o 2 (.mov (q 13))])
  .ret)
  (.seq (.ops [o 15 (.bin .eql (q 3) (.const (.int .i64 17)) (some (.int .i64))), o 14 (.mov (q 15))])
  (.cond (q 14)
  (.seq (.ops [o 16 (.build [] []), o 17 (.mkIface 173 (q 16)), o 2 (.mov (q 17))])
  .ret)
  (.seq (.ops [o 19 (.bin .eql (q 3) (.const (.int .i64 18)) (some (.int .i64))), o 18 (.mov (q 19))])
  (.cond (q 18)
  (.seq (.ops [o 20 (.build [] []), o 21 (.mkIface 174 (q 20)), o 2 (.mov (q 21))])
  .ret)
  (.seq (.ops [o 23 (.bin .eql (q 3) (.const (.int .i64 19)) (some (.int .i64))), o 22 (.mov (q 23))])
  (.cond (q 22)
  (.seq (.ops [o 24 (.build [] []), o 25 (.mkIface 175 (q 24)), o 2 (.mov (q 25))])
  .ret)
  (.seq (.ops [o 27 (.bin .eql (q 3) (.const (.int .i64 20)) (some (.int .i64))), o 26 (.mov (q 27))])
  (.cond (q 26)
  (.seq (.ops [o 28 (.build [] []), o 29 (.mkIface 176 (q 28)), o 2 (.mov (q 29))])
  .ret)
  .skip))))))))))))))
  (.seq (.ops [o 30 (.build [] []), o 31 (.mkIface 177 (q 30)), o 2 (.mov (q 31))])
  .ret)))⟩
theorem F98_ok : compF Tryz.prog 98 = some F98 := by kernel_rfl
/-- slices.Clone[[]colonnade/api.Field,colonnade/api.Field] -/
def F99 : FC := ⟨8, [.tmp 2],
  (.seq (.ops [o 2 (.mov (.const (.slice none 0 0)))])
  (.seq (.seq (.ops [o 3 (.mov (q 0)), o 4 (.bin .eql (q 3) (.const (.slice none 0 0)) (some (.slice 26)))])
  (.cond (q 4)
  (.seq (.ops [o 2 (.mov (.const (.slice none 0 0)))])
  .ret)
  .skip))
  (.seq (.ops [o 5 (.buildSlice 7 0 [] []), o 6 (.mov (q 0)), o 7 (.append 7 80 (q 5) (q 6)), o 2 (.mov (q 7))])
  .ret)))⟩
theorem F99_ok : compF Tryz.prog 99 = some F99 := by kernel_rfl
/-- slices.Clone[[][]byte,[]byte] -/
def F100 : FC := ⟨8, [.tmp 2],
  (.seq (.ops [o 2 (.mov (.const (.slice none 0 0)))])
  (.seq (.seq (.ops [o 3 (.mov (q 0)), o 4 (.bin .eql (q 3) (.const (.slice none 0 0)) (some (.slice 42)))])
  (.cond (q 4)
  (.seq (.ops [o 2 (.mov (.const (.slice none 0 0)))])
  .ret)
  .skip))
  (.seq (.ops [o 5 (.buildSlice 1 0 [] []), o 6 (.mov (q 0)), o 7 (.append 1 24 (q 5) (q 6)), o 2 (.mov (q 7))])
  .ret)))⟩
theorem F100_ok : compF Tryz.prog 100 = some F100 := by kernel_rfl
/-- colonnade/array.copiedList -/
def F101 : FC := ⟨19, [.tmp 2],
  (.seq (.ops [o 2 (.mov (.const (.slice none 0 0)))])
  (.seq (.ops [o 3 (.mov (.const (.slice none 0 0)))])
  (.seq (.seq (.ops [o 6 (.mov (q 0)), o 7 (.len 1 (q 6)), o 8 (.mov (.const (.int .i64 0)))])
  (.block 0 (.loop (.seq (.ops [o 9 (.bin .lss (q 8) (q 7) (some (.int .i64)))])
  (.seq (.cond (q 9)
  .skip
  (.exit 0))
  (.seq (.block 1 (.seq (.ops [o 10 (.indexAddr 6 (q 6) (q 8)), o 11 (.load true 6 (q 10)), o 5 (.alloc [.int .i64 0, .int .i64 0, .int .i64 0, .slice none 0 0, .slice none 0 0, .slice none 0 0]), ⟨none, .store 6 (q 5) (q 11), none⟩])
  (.ops [o 12 (.mov (q 3)), o 13 (.load true 6 (q 5)), o 14 (.call 74 [.tmp 13]), o 15 (.buildSlice 6 1 [.int .i64 0, .int .i64 0, .int .i64 0, .slice none 0 0, .slice none 0 0, .slice none 0 0] [(0, 6, (q 14))]), o 16 (.append 6 96 (q 12) (q 15)), o 3 (.mov (q 16))])))
  (.ops [o 17 (.bin .add (q 8) (.const (.int .i64 1)) (some (.int .i64))), o 8 (.mov (q 17))])))))))
  (.seq (.ops [o 18 (.mov (q 3)), o 2 (.mov (q 18))])
  .ret))))⟩
theorem F101_ok : compF Tryz.prog 101 = some F101 := by kernel_rfl
/-- (*colonnade/array.Array).own -/
def F103 : FC := ⟨16, [.cell 6 true 4],
  (.seq (.ops [o 6 (.alloc [(.bool false), (.int .i64 0), (.string ⟨#[]⟩), (.slice none 0 0)])])
  (.seq (.ops [o 7 (.mov (q 0)), o 8 (.mov (q 0)), o 9 (.nilCheck (q 8)), o 10 (.fieldAddr 13 (q 9)), o 11 (.load false 1 (q 10)), o 12 (.mov (q 1)), o 13 (.bin .add (q 11) (q 12) (some (.int .i64))), o 14 (.mov (q 2)), o 15 (.call 127 [.tmp 7, .tmp 13, .tmp 14]), ⟨none, .store 4 (q 6) (q 15), none⟩])
  .ret))⟩
theorem F103_ok : compF Tryz.prog 103 = some F103 := by kernel_rfl
/-- colonnade/colonnaderef03.letter -/
def F104 : FC := ⟨29, [.tmp 2],
  (.seq (.ops [o 2 (.mov (.const (.bool false)))])
  (.seq (.ops [o 3 (.mov (q 0)), o 4 (.bin .geq (q 3) (.const (.int .u8 97)) (some (.int .u8))), o 5 (.mov (q 4)), ⟨some 6, .mov (q 0), some (5, true)⟩, ⟨some 7, .bin .leq (q 6) (.const (.int .u8 122)) (some (.int .u8)), some (5, true)⟩, o 8 (.pick (q 5) (q 7) (.const (.bool false))), o 9 (.mov (q 8)), ⟨some 10, .mov (q 0), some (9, false)⟩, ⟨some 11, .bin .geq (q 10) (.const (.int .u8 65)) (some (.int .u8)), some (9, false)⟩, ⟨some 12, .mov (q 11), some (9, false)⟩, ⟨some 13, .mov (q 0), some (12, true)⟩, ⟨some 14, .bin .leq (q 13) (.const (.int .u8 90)) (some (.int .u8)), some (12, true)⟩, ⟨some 15, .pick (q 12) (q 14) (.const (.bool false)), some (9, false)⟩, o 16 (.pick (q 9) (.const (.bool true)) (q 15)), o 17 (.mov (q 16)), ⟨some 18, .mov (q 0), some (17, false)⟩, ⟨some 19, .bin .geq (q 18) (.const (.int .u8 48)) (some (.int .u8)), some (17, false)⟩, ⟨some 20, .mov (q 19), some (17, false)⟩, ⟨some 21, .mov (q 0), some (20, true)⟩, ⟨some 22, .bin .leq (q 21) (.const (.int .u8 57)) (some (.int .u8)), some (20, true)⟩, ⟨some 23, .pick (q 20) (q 22) (.const (.bool false)), some (17, false)⟩, o 24 (.pick (q 17) (.const (.bool true)) (q 23)), o 25 (.mov (q 24)), ⟨some 26, .mov (q 0), some (25, false)⟩, ⟨some 27, .bin .eql (q 26) (.const (.int .u8 95)) (some (.int .u8)), some (25, false)⟩, o 28 (.pick (q 25) (.const (.bool true)) (q 27)), o 2 (.mov (q 28))])
  .ret))⟩
theorem F104_ok : compF Tryz.prog 104 = some F104 := by kernel_rfl
/-- colonnade/kind.letter -/
def F105 : FC := ⟨29, [.tmp 2],
  (.seq (.ops [o 2 (.mov (.const (.bool false)))])
  (.seq (.ops [o 3 (.mov (q 0)), o 4 (.bin .geq (q 3) (.const (.int .u8 97)) (some (.int .u8))), o 5 (.mov (q 4)), ⟨some 6, .mov (q 0), some (5, true)⟩, ⟨some 7, .bin .leq (q 6) (.const (.int .u8 122)) (some (.int .u8)), some (5, true)⟩, o 8 (.pick (q 5) (q 7) (.const (.bool false))), o 9 (.mov (q 8)), ⟨some 10, .mov (q 0), some (9, false)⟩, ⟨some 11, .bin .geq (q 10) (.const (.int .u8 65)) (some (.int .u8)), some (9, false)⟩, ⟨some 12, .mov (q 11), some (9, false)⟩, ⟨some 13, .mov (q 0), some (12, true)⟩, ⟨some 14, .bin .leq (q 13) (.const (.int .u8 90)) (some (.int .u8)), some (12, true)⟩, ⟨some 15, .pick (q 12) (q 14) (.const (.bool false)), some (9, false)⟩, o 16 (.pick (q 9) (.const (.bool true)) (q 15)), o 17 (.mov (q 16)), ⟨some 18, .mov (q 0), some (17, false)⟩, ⟨some 19, .bin .geq (q 18) (.const (.int .u8 48)) (some (.int .u8)), some (17, false)⟩, ⟨some 20, .mov (q 19), some (17, false)⟩, ⟨some 21, .mov (q 0), some (20, true)⟩, ⟨some 22, .bin .leq (q 21) (.const (.int .u8 57)) (some (.int .u8)), some (20, true)⟩, ⟨some 23, .pick (q 20) (q 22) (.const (.bool false)), some (17, false)⟩, o 24 (.pick (q 17) (.const (.bool true)) (q 23)), o 25 (.mov (q 24)), ⟨some 26, .mov (q 0), some (25, false)⟩, ⟨some 27, .bin .eql (q 26) (.const (.int .u8 95)) (some (.int .u8)), some (25, false)⟩, o 28 (.pick (q 25) (.const (.bool true)) (q 27)), o 2 (.mov (q 28))])
  .ret))⟩
theorem F105_ok : compF Tryz.prog 105 = some F105 := by kernel_rfl
/-- slices.IndexFunc[[]colonnade/api.Field,colonnade/api.Field] -/
def F106 : FC := ⟨19, [.tmp 4],
  (.seq (.ops [o 4 (.mov (.const (.int .i64 0)))])
  (.seq (.seq (.ops [o 6 (.mov (q 0)), o 7 (.len 1 (q 6)), o 8 (.mov (.const (.int .i64 0)))])
  (.block 0 (.loop (.seq (.ops [o 9 (.bin .lss (q 8) (q 7) (some (.int .i64)))])
  (.seq (.cond (q 9)
  .skip
  (.exit 0))
  (.seq (.block 1 (.seq (.ops [o 10 (.mov (q 8)), o 5 (.mov (q 10))])
  (.seq (.ops [o 11 (.mov (q 1)), o 12 (.mov (q 0)), o 13 (.mov (q 5)), o 14 (.indexAddr 7 (q 12) (q 13)), o 15 (.load true 7 (q 14)), o 16 (.callv (q 11) [.tmp 15])])
  (.cond (q 16)
  (.seq (.ops [o 17 (.mov (q 5)), o 4 (.mov (q 17))])
  .ret)
  .skip))))
  (.ops [o 18 (.bin .add (q 8) (.const (.int .i64 1)) (some (.int .i64))), o 8 (.mov (q 18))])))))))
  (.seq (.ops [o 4 (.mov (.const (.int .i64 (-1))))])
  .ret)))⟩
theorem F106_ok : compF Tryz.prog 106 = some F106 := by kernel_rfl
/-- colonnade/kind.known -/
def F107 : FC := ⟨9, [.tmp 2],
  (.seq (.ops [o 2 (.mov (.const (.bool false)))])
  (.seq (.ops [o 3 (.mov (q 0)), o 4 (.bin .geq (q 3) (.const (.int .i64 1)) (some (.int .i64))), o 5 (.mov (q 4)), ⟨some 6, .mov (q 0), some (5, true)⟩, ⟨some 7, .bin .leq (q 6) (.const (.int .i64 20)) (some (.int .i64)), some (5, true)⟩, o 8 (.pick (q 5) (q 7) (.const (.bool false))), o 2 (.mov (q 8))])
  .ret))⟩
theorem F107_ok : compF Tryz.prog 107 = some F107 := by kernel_rfl
/-- colonnade/value.lets -/
def F108 : FC := ⟨27, [.tmp 2],
  (.seq (.ops [o 1 (.box (q 0)), o 2 (.mov (.const (.bool false)))])
  (.seq (.block 0 (.loop (.seq (.seq (.ops [o 3 (.fieldAddr 2 (q 1)), o 4 (.fieldAddr 0 (q 3)), o 5 (.load false 1 (q 4)), o 6 (.bin .eql (q 5) (.const (.int .i64 20)) (some (.int .i64))), o 7 (.mov (q 6)), ⟨some 8, .fieldAddr 2 (q 1), some (7, true)⟩, ⟨some 9, .fieldAddr 4 (q 8), some (7, true)⟩, ⟨some 10, .load false 1 (q 9), some (7, true)⟩, ⟨some 11, .len 1 (q 10), some (7, true)⟩, ⟨some 12, .bin .eql (q 11) (.const (.int .i64 1)) (some (.int .i64)), some (7, true)⟩, o 13 (.pick (q 7) (q 12) (.const (.bool false)))])
  (.cond (q 13)
  .skip
  (.exit 0)))
  (.block 1 (.ops [o 14 (.fieldAddr 2 (q 1)), o 15 (.fieldAddr 4 (q 14)), o 16 (.load false 1 (q 15)), o 17 (.indexAddr 7 (q 16) (.const (.int .i64 0))), o 18 (.load true 7 (q 17)), ⟨none, .store 7 (q 1) (q 18), none⟩])))))
  (.seq (.ops [o 19 (.fieldAddr 1 (q 1)), o 20 (.load false 1 (q 19)), o 21 (.mov (q 20)), ⟨some 22, .fieldAddr 2 (q 1), some (21, true)⟩, ⟨some 23, .fieldAddr 0 (q 22), some (21, true)⟩, ⟨some 24, .load false 1 (q 23), some (21, true)⟩, ⟨some 25, .bin .neq (q 24) (.const (.int .i64 18)) (some (.int .i64)), some (21, true)⟩, o 26 (.pick (q 21) (q 25) (.const (.bool false))), o 2 (.mov (q 26))])
  .ret)))⟩
theorem F108_ok : compF Tryz.prog 108 = some F108 := by kernel_rfl
/-- colonnade/value.whole -/
def F111 : FC := ⟨9, [.tmp 2],
  (.seq (.ops [o 2 (.mov (.const (.bool false)))])
  (.seq (.ops [o 3 (.mov (q 0)), o 4 (.bin .geq (q 3) (.const (.int .i64 3)) (some (.int .i64))), o 5 (.mov (q 4)), ⟨some 6, .mov (q 0), some (5, true)⟩, ⟨some 7, .bin .leq (q 6) (.const (.int .i64 10)) (some (.int .i64)), some (5, true)⟩, o 8 (.pick (q 5) (q 7) (.const (.bool false))), o 2 (.mov (q 8))])
  .ret))⟩
theorem F111_ok : compF Tryz.prog 111 = some F111 := by kernel_rfl
/-- colonnade/value.ranged -/
def F112 : FC := ⟨37, [.tmp 4],
  (.seq (.ops [o 4 (.mov (.const (.bool false)))])
  (.seq (.ops [o 8 (.mov (q 0)), o 9 (.call 129 [.tmp 8]), o 7 (.mov (q 9)), o 10 (.extract (q 7) 0), o 11 (.extract (q 7) 1), o 5 (.mov (q 10)), o 6 (.mov (q 11))])
  (.seq (.block 0 (.seq (.ops [o 13 (.mov (q 5)), o 14 (.bin .eql (q 13) (.const (.int .i64 64)) (some (.int .i64))), o 12 (.mov (q 14))])
  (.cond (q 12)
  (.seq (.ops [o 4 (.mov (.const (.bool true)))])
  .ret)
  (.seq (.ops [o 16 (.mov (q 6)), o 15 (.mov (q 16))])
  (.cond (q 15)
  (.seq (.ops [o 17 (.mov (q 1)), o 18 (.mov (q 5)), o 19 (.bin .sub (q 18) (.const (.int .i64 1)) (some (.int .i64))), o 20 (.bin .shl (.const (.int .i64 (-1))) (q 19) (some (.int .i64))), o 21 (.bin .geq (q 17) (q 20) (some (.int .i64))), o 22 (.mov (q 21)), ⟨some 23, .mov (q 1), some (22, true)⟩, ⟨some 24, .mov (q 5), some (22, true)⟩, ⟨some 25, .bin .sub (q 24) (.const (.int .i64 1)) (some (.int .i64)), some (22, true)⟩, ⟨some 26, .bin .shl (.const (.int .i64 1)) (q 25) (some (.int .i64)), some (22, true)⟩, ⟨some 27, .bin .lss (q 23) (q 26) (some (.int .i64)), some (22, true)⟩, o 28 (.pick (q 22) (q 27) (.const (.bool false))), o 4 (.mov (q 28))])
  .ret)
  .skip)))))
  (.seq (.ops [o 29 (.mov (q 1)), o 30 (.bin .geq (q 29) (.const (.int .i64 0)) (some (.int .i64))), o 31 (.mov (q 30)), ⟨some 32, .mov (q 1), some (31, true)⟩, ⟨some 33, .mov (q 5), some (31, true)⟩, ⟨some 34, .bin .shl (.const (.int .i64 1)) (q 33) (some (.int .i64)), some (31, true)⟩, ⟨some 35, .bin .lss (q 32) (q 34) (some (.int .i64)), some (31, true)⟩, o 36 (.pick (q 31) (q 35) (.const (.bool false))), o 4 (.mov (q 36))])
  .ret))))⟩
theorem F112_ok : compF Tryz.prog 112 = some F112 := by kernel_rfl
/-- cmp.isNaN[uint64] -/
def F113 : FC := ⟨6, [.tmp 2],
  (.seq (.ops [o 2 (.mov (.const (.bool false)))])
  (.seq (.ops [o 3 (.mov (q 0)), o 4 (.mov (q 0)), o 5 (.bin .neq (q 3) (q 4) (some (.int .u64))), o 2 (.mov (q 5))])
  .ret))⟩
theorem F113_ok : compF Tryz.prog 113 = some F113 := by kernel_rfl
/-- cmp.isNaN[int64] -/
def F114 : FC := ⟨6, [.tmp 2],
  (.seq (.ops [o 2 (.mov (.const (.bool false)))])
  (.seq (.ops [o 3 (.mov (q 0)), o 4 (.mov (q 0)), o 5 (.bin .neq (q 3) (q 4) (some (.int .i64))), o 2 (.mov (q 5))])
  .ret))⟩
theorem F114_ok : compF Tryz.prog 114 = some F114 := by kernel_rfl
/-- cmp.isNaN[int] -/
def F115 : FC := ⟨6, [.tmp 2],
  (.seq (.ops [o 2 (.mov (.const (.bool false)))])
  (.seq (.ops [o 3 (.mov (q 0)), o 4 (.mov (q 0)), o 5 (.bin .neq (q 3) (q 4) (some (.int .i64))), o 2 (.mov (q 5))])
  .ret))⟩
theorem F115_ok : compF Tryz.prog 115 = some F115 := by kernel_rfl
/-- colonnade/colonnaderef04.nullable -/
def F116 : FC := ⟨21, [.tmp 2],
  (.seq (.ops [o 1 (.box (q 0)), o 2 (.mov (.const (.bool false)))])
  (.seq (.seq (.ops [o 3 (.fieldAddr 2 (q 1)), o 4 (.fieldAddr 0 (q 3)), o 5 (.load false 1 (q 4)), o 6 (.bin .eql (q 5) (.const (.int .i64 20)) (some (.int .i64)))])
  (.cond (q 6)
  (.seq (.ops [o 7 (.fieldAddr 2 (q 1)), o 8 (.fieldAddr 4 (q 7)), o 9 (.load false 1 (q 8)), o 10 (.indexAddr 7 (q 9) (.const (.int .i64 0))), o 11 (.load true 7 (q 10)), o 12 (.call 116 [.tmp 11]), o 2 (.mov (q 12))])
  .ret)
  .skip))
  (.seq (.ops [o 13 (.fieldAddr 1 (q 1)), o 14 (.load false 1 (q 13)), o 15 (.mov (q 14)), ⟨some 16, .fieldAddr 2 (q 1), some (15, true)⟩, ⟨some 17, .fieldAddr 0 (q 16), some (15, true)⟩, ⟨some 18, .load false 1 (q 17), some (15, true)⟩, ⟨some 19, .bin .neq (q 18) (.const (.int .i64 18)) (some (.int .i64)), some (15, true)⟩, o 20 (.pick (q 15) (q 19) (.const (.bool false))), o 2 (.mov (q 20))])
  .ret)))⟩
theorem F116_ok : compF Tryz.prog 116 = some F116 := by kernel_rfl
/-- colonnade/colonnaderef04.Number -/
def F117 : FC := ⟨9, [.tmp 2],
  (.seq (.ops [o 2 (.mov (.const (.bool false)))])
  (.seq (.ops [o 3 (.mov (q 0)), o 4 (.bin .geq (q 3) (.const (.int .i64 2)) (some (.int .i64))), o 5 (.mov (q 4)), ⟨some 6, .mov (q 0), some (5, true)⟩, ⟨some 7, .bin .leq (q 6) (.const (.int .i64 11)) (some (.int .i64)), some (5, true)⟩, o 8 (.pick (q 5) (q 7) (.const (.bool false))), o 2 (.mov (q 8))])
  .ret))⟩
theorem F117_ok : compF Tryz.prog 117 = some F117 := by kernel_rfl
/-- colonnade/colonnaderef04.ranged -/
def F118 : FC := ⟨62, [.tmp 4],
  (.seq (.ops [o 4 (.mov (.const (.bool false)))])
  (.seq (.seq (.ops [o 5 (.mov (q 0))])
  (.block 0 (.seq (.ops [o 7 (.bin .eql (q 5) (.const (.int .i64 2)) (some (.int .i64))), o 6 (.mov (q 7))])
  (.cond (q 6)
  (.seq (.ops [o 8 (.mov (q 1)), o 9 (.bin .eql (q 8) (.const (.int .i64 0)) (some (.int .i64))), o 10 (.mov (q 9)), ⟨some 11, .mov (q 1), some (10, false)⟩, ⟨some 12, .bin .eql (q 11) (.const (.int .i64 1)) (some (.int .i64)), some (10, false)⟩, o 13 (.pick (q 10) (.const (.bool true)) (q 12)), o 4 (.mov (q 13))])
  .ret)
  (.seq (.ops [o 15 (.bin .eql (q 5) (.const (.int .i64 3)) (some (.int .i64))), o 14 (.mov (q 15))])
  (.cond (q 14)
  (.seq (.ops [o 16 (.mov (q 1)), o 17 (.bin .geq (q 16) (.const (.int .i64 (-128))) (some (.int .i64))), o 18 (.mov (q 17)), ⟨some 19, .mov (q 1), some (18, true)⟩, ⟨some 20, .bin .leq (q 19) (.const (.int .i64 127)) (some (.int .i64)), some (18, true)⟩, o 21 (.pick (q 18) (q 20) (.const (.bool false))), o 4 (.mov (q 21))])
  .ret)
  (.seq (.ops [o 23 (.bin .eql (q 5) (.const (.int .i64 4)) (some (.int .i64))), o 22 (.mov (q 23))])
  (.cond (q 22)
  (.seq (.ops [o 24 (.mov (q 1)), o 25 (.bin .geq (q 24) (.const (.int .i64 (-32768))) (some (.int .i64))), o 26 (.mov (q 25)), ⟨some 27, .mov (q 1), some (26, true)⟩, ⟨some 28, .bin .leq (q 27) (.const (.int .i64 32767)) (some (.int .i64)), some (26, true)⟩, o 29 (.pick (q 26) (q 28) (.const (.bool false))), o 4 (.mov (q 29))])
  .ret)
  (.seq (.ops [o 31 (.bin .eql (q 5) (.const (.int .i64 5)) (some (.int .i64))), o 30 (.mov (q 31))])
  (.cond (q 30)
  (.seq (.ops [o 32 (.mov (q 1)), o 33 (.bin .geq (q 32) (.const (.int .i64 (-2147483648))) (some (.int .i64))), o 34 (.mov (q 33)), ⟨some 35, .mov (q 1), some (34, true)⟩, ⟨some 36, .bin .leq (q 35) (.const (.int .i64 2147483647)) (some (.int .i64)), some (34, true)⟩, o 37 (.pick (q 34) (q 36) (.const (.bool false))), o 4 (.mov (q 37))])
  .ret)
  (.seq (.ops [o 39 (.bin .eql (q 5) (.const (.int .i64 7)) (some (.int .i64))), o 38 (.mov (q 39))])
  (.cond (q 38)
  (.seq (.ops [o 40 (.mov (q 1)), o 41 (.bin .geq (q 40) (.const (.int .i64 0)) (some (.int .i64))), o 42 (.mov (q 41)), ⟨some 43, .mov (q 1), some (42, true)⟩, ⟨some 44, .bin .leq (q 43) (.const (.int .i64 255)) (some (.int .i64)), some (42, true)⟩, o 45 (.pick (q 42) (q 44) (.const (.bool false))), o 4 (.mov (q 45))])
  .ret)
  (.seq (.ops [o 47 (.bin .eql (q 5) (.const (.int .i64 8)) (some (.int .i64))), o 46 (.mov (q 47))])
  (.cond (q 46)
  (.seq (.ops [o 48 (.mov (q 1)), o 49 (.bin .geq (q 48) (.const (.int .i64 0)) (some (.int .i64))), o 50 (.mov (q 49)), ⟨some 51, .mov (q 1), some (50, true)⟩, ⟨some 52, .bin .leq (q 51) (.const (.int .i64 65535)) (some (.int .i64)), some (50, true)⟩, o 53 (.pick (q 50) (q 52) (.const (.bool false))), o 4 (.mov (q 53))])
  .ret)
  (.seq (.ops [o 55 (.bin .eql (q 5) (.const (.int .i64 9)) (some (.int .i64))), o 54 (.mov (q 55))])
  (.cond (q 54)
  (.seq (.ops [o 56 (.mov (q 1)), o 57 (.bin .geq (q 56) (.const (.int .i64 0)) (some (.int .i64))), o 58 (.mov (q 57)), ⟨some 59, .mov (q 1), some (58, true)⟩, ⟨some 60, .bin .leq (q 59) (.const (.int .i64 4294967295)) (some (.int .i64)), some (58, true)⟩, o 61 (.pick (q 58) (q 60) (.const (.bool false))), o 4 (.mov (q 61))])
  .ret)
  .skip))))))))))))))))
  (.seq (.ops [o 4 (.mov (.const (.bool true)))])
  .ret)))⟩
theorem F118_ok : compF Tryz.prog 118 = some F118 := by kernel_rfl
/-- colonnade/colonnaderef04.Letters -/
def F119 : FC := ⟨17, [.tmp 2],
  (.seq (.ops [o 2 (.mov (.const (.bool false)))])
  (.seq (.seq (.ops [o 3 (.mov (.const (.int .i64 0)))])
  (.block 0 (.loop (.seq (.seq (.ops [o 5 (.mov (q 3)), o 6 (.mov (q 0)), o 7 (.len 0 (q 6)), o 8 (.bin .lss (q 5) (q 7) (some (.int .i64)))])
  (.cond (q 8)
  .skip
  (.exit 0)))
  (.block 1 (.seq (.ops [o 9 (.mov (q 0)), o 10 (.mov (q 3)), o 11 (.call 130 [.tmp 9, .tmp 10]), o 4 (.mov (q 11))])
  (.seq (.seq (.ops [o 12 (.mov (q 4)), o 13 (.bin .eql (q 12) (.const (.int .i64 0)) (some (.int .i64)))])
  (.cond (q 13)
  (.seq (.ops [o 2 (.mov (.const (.bool false)))])
  .ret)
  .skip))
  (.ops [o 14 (.mov (q 3)), o 15 (.mov (q 4)), o 16 (.bin .add (q 14) (q 15) (some (.int .i64))), o 3 (.mov (q 16))]))))))))
  (.seq (.ops [o 2 (.mov (.const (.bool true)))])
  .ret)))⟩
theorem F119_ok : compF Tryz.prog 119 = some F119 := by kernel_rfl
/-- colonnade/colonnaderef04.listed -/
def F120 : FC := ⟨98, [.tmp 4],
  (.seq (.ops [o 2 (.box (q 0)), o 3 (.box (q 1)), o 4 (.mov (.const (.bool false)))])
  (.seq (.ops [o 9 (.fieldAddr 3 (q 3)), o 10 (.load false 1 (q 9)), o 11 (.len 1 (q 10)), o 5 (.mov (q 11))])
  (.seq (.seq (.ops [o 12 (.fieldAddr 0 (q 2)), o 13 (.load false 1 (q 12))])
  (.block 0 (.seq (.ops [o 15 (.bin .eql (q 13) (.const (.int .i64 15)) (some (.int .i64))), o 14 (.mov (q 15))])
  (.cond (q 14)
  (.seq (.ops [o 16 (.mov (q 5)), o 17 (.bin .gtr (q 16) (.const (.int .i64 4096)) (some (.int .i64))), o 18 (.mov (q 17)), ⟨some 19, .fieldAddr 1 (q 3), some (18, false)⟩, ⟨some 20, .load false 1 (q 19), some (18, false)⟩, ⟨some 21, .bin .neq (q 20) (.const (.int .i64 0)) (some (.int .i64)), some (18, false)⟩, o 22 (.pick (q 18) (.const (.bool true)) (q 21))])
  (.cond (q 22)
  (.seq (.ops [o 4 (.mov (.const (.bool false)))])
  .ret)
  .skip))
  (.seq (.ops [o 24 (.bin .eql (q 13) (.const (.int .i64 16)) (some (.int .i64))), o 23 (.mov (q 24))])
  (.cond (q 23)
  (.seq (.ops [o 25 (.mov (q 5)), o 26 (.fieldAddr 1 (q 2)), o 27 (.load false 1 (q 26)), o 28 (.bin .neq (q 25) (q 27) (some (.int .i64))), o 29 (.mov (q 28)), ⟨some 30, .fieldAddr 1 (q 3), some (29, false)⟩, ⟨some 31, .load false 1 (q 30), some (29, false)⟩, ⟨some 32, .bin .neq (q 31) (.const (.int .i64 0)) (some (.int .i64)), some (29, false)⟩, o 33 (.pick (q 29) (.const (.bool true)) (q 32))])
  (.cond (q 33)
  (.seq (.ops [o 4 (.mov (.const (.bool false)))])
  .ret)
  .skip))
  (.seq (.ops [o 35 (.bin .eql (q 13) (.const (.int .i64 17)) (some (.int .i64))), o 34 (.mov (q 35))])
  (.cond (q 34)
  (.seq (.ops [o 36 (.mov (q 5)), o 37 (.fieldAddr 4 (q 2)), o 38 (.load false 1 (q 37)), o 39 (.len 1 (q 38)), o 40 (.bin .neq (q 36) (q 39) (some (.int .i64))), o 41 (.mov (q 40)), ⟨some 42, .fieldAddr 1 (q 3), some (41, false)⟩, ⟨some 43, .load false 1 (q 42), some (41, false)⟩, ⟨some 44, .bin .neq (q 43) (.const (.int .i64 0)) (some (.int .i64)), some (41, false)⟩, o 45 (.pick (q 41) (.const (.bool true)) (q 44))])
  (.cond (q 45)
  (.seq (.ops [o 4 (.mov (.const (.bool false)))])
  .ret)
  .skip))
  (.seq (.ops [o 47 (.bin .eql (q 13) (.const (.int .i64 18)) (some (.int .i64))), o 46 (.mov (q 47))])
  (.cond (q 46)
  (.seq (.ops [o 48 (.mov (q 5)), o 49 (.bin .eql (q 48) (.const (.int .i64 1)) (some (.int .i64))), o 50 (.mov (q 49)), ⟨some 51, .fieldAddr 1 (q 3), some (50, true)⟩, ⟨some 52, .load false 1 (q 51), some (50, true)⟩, ⟨some 53, .bin .geq (q 52) (.const (.int .i64 0)) (some (.int .i64)), some (50, true)⟩, o 54 (.pick (q 50) (q 53) (.const (.bool false))), o 55 (.mov (q 54)), ⟨some 56, .fieldAddr 1 (q 3), some (55, true)⟩, ⟨some 57, .load false 1 (q 56), some (55, true)⟩, ⟨some 58, .fieldAddr 4 (q 2), some (55, true)⟩, ⟨some 59, .load false 1 (q 58), some (55, true)⟩, ⟨some 60, .len 1 (q 59), some (55, true)⟩, ⟨some 61, .bin .lss (q 57) (q 60) (some (.int .i64)), some (55, true)⟩, o 62 (.pick (q 55) (q 61) (.const (.bool false))), o 63 (.mov (q 62)), ⟨some 64, .fieldAddr 4 (q 2), some (63, true)⟩, ⟨some 65, .load false 1 (q 64), some (63, true)⟩, ⟨some 66, .fieldAddr 1 (q 3), some (63, true)⟩, ⟨some 67, .load false 1 (q 66), some (63, true)⟩, ⟨some 68, .indexAddr 7 (q 65) (q 67), some (63, true)⟩, ⟨some 69, .load true 7 (q 68), some (63, true)⟩, ⟨some 70, .fieldAddr 3 (q 3), some (63, true)⟩, ⟨some 71, .load false 1 (q 70), some (63, true)⟩, ⟨some 72, .indexAddr 4 (q 71) (.const (.int .i64 0)), some (63, true)⟩, ⟨some 73, .load true 4 (q 72), some (63, true)⟩, ⟨some 74, .call 95 [.tmp 69, .tmp 73], some (63, true)⟩, o 75 (.pick (q 63) (q 74) (.const (.bool false))), o 4 (.mov (q 75))])
  .ret)
  (.seq (.ops [o 4 (.mov (.const (.bool false)))])
  .ret)))))))))))
  (.seq (.seq (.ops [o 6 (.mov (.const (.int .i64 0)))])
  (.block 1 (.loop (.seq (.seq (.ops [o 76 (.mov (q 6)), o 77 (.mov (q 5)), o 78 (.bin .lss (q 76) (q 77) (some (.int .i64)))])
  (.cond (q 78)
  .skip
  (.exit 1)))
  (.seq (.block 2 (.seq (.ops [o 7 (.mov (.const (.int .i64 0)))])
  (.seq (.seq (.ops [o 81 (.fieldAddr 0 (q 2)), o 82 (.load false 1 (q 81)), o 83 (.bin .eql (q 82) (.const (.int .i64 17)) (some (.int .i64)))])
  (.cond (q 83)
  (.ops [o 84 (.mov (q 6)), o 7 (.mov (q 84))])
  .skip))
  (.seq (.ops [o 85 (.fieldAddr 4 (q 2)), o 86 (.load false 1 (q 85)), o 87 (.mov (q 7)), o 88 (.indexAddr 7 (q 86) (q 87)), o 89 (.load true 7 (q 88)), o 90 (.fieldAddr 3 (q 3)), o 91 (.load false 1 (q 90)), o 92 (.mov (q 6)), o 93 (.indexAddr 4 (q 91) (q 92)), o 94 (.load true 4 (q 93)), o 95 (.call 95 [.tmp 89, .tmp 94]), o 8 (.mov (q 95))])
  (.seq (.ops [o 96 (.mov (q 8)), o 97 (.un .not (q 96))])
  (.cond (q 97)
  (.seq (.ops [o 4 (.mov (.const (.bool false)))])
  .ret)
  .skip))))))
  (.ops [o 79 (.mov (q 6)), o 80 (.bin .add (q 79) (.const (.int .i64 1)) (some (.int .i64))), o 6 (.mov (q 80))]))))))
  (.seq (.ops [o 4 (.mov (.const (.bool true)))])
  .ret)))))⟩
theorem F120_ok : compF Tryz.prog 120 = some F120 := by kernel_rfl
/-- colonnade/array.sizes -/
def F121 : FC := ⟨161, [.cell 4 true 3],
  (.seq (.ops [o 2 (.box (q 0)), o 3 (.box (q 1)), o 4 (.alloc [.int .i64 0, .slice none 0 0, .int .i64 0])])
  (.seq (.ops [o 16 (.fieldAddr 2 (q 2)), o 17 (.load true 5 (q 16)), o 18 (.call 131 [.tmp 17]), o 15 (.mov (q 18)), o 19 (.extract (q 15) 0), o 20 (.extract (q 15) 1), o 21 (.extract (q 15) 2), o 5 (.mov (q 19)), o 6 (.mov (q 20)), o 7 (.mov (q 21))])
  (.seq (.ops [o 22 (.fieldAddr 1 (q 3)), o 23 (.load false 1 (q 22)), o 24 (.fieldAddr 0 (q 3)), o 25 (.load false 1 (q 24)), o 26 (.bin .add (q 23) (q 25) (some (.int .i64))), o 8 (.mov (q 26))])
  (.seq (.block 0 (.seq (.ops [o 28 (.fieldAddr 3 (q 3)), o 29 (.load false 1 (q 28)), o 30 (.len 1 (q 29)), o 31 (.mov (q 5)), o 32 (.bin .neq (q 30) (q 31) (some (.int .i64))), o 33 (.mov (q 32)), ⟨some 34, .fieldAddr 4 (q 3), some (33, false)⟩, ⟨some 35, .load false 1 (q 34), some (33, false)⟩, ⟨some 36, .len 1 (q 35), some (33, false)⟩, ⟨some 37, .mov (q 6), some (33, false)⟩, ⟨some 38, .bin .neq (q 36) (q 37) (some (.int .i64)), some (33, false)⟩, o 39 (.pick (q 33) (.const (.bool true)) (q 38)), o 40 (.mov (q 39)), ⟨some 41, .fieldAddr 5 (q 3), some (40, false)⟩, ⟨some 42, .load false 1 (q 41), some (40, false)⟩, ⟨some 43, .len 1 (q 42), some (40, false)⟩, ⟨some 44, .mov (q 7), some (40, false)⟩, ⟨some 45, .bin .neq (q 43) (q 44) (some (.int .i64)), some (40, false)⟩, o 46 (.pick (q 40) (.const (.bool true)) (q 45)), o 27 (.mov (q 46))])
  (.cond (q 27)
  (.seq (.ops [o 47 (.call 96 [(.const (.int .i64 80)), (.const (.int .i64 0))]), ⟨none, .store 3 (q 4) (q 47), none⟩])
  .ret)
  (.seq (.ops [o 49 (.fieldAddr 0 (q 3)), o 50 (.load false 1 (q 49)), o 51 (.bin .lss (q 50) (.const (.int .i64 0)) (some (.int .i64))), o 52 (.mov (q 51)), ⟨some 53, .fieldAddr 1 (q 3), some (52, false)⟩, ⟨some 54, .load false 1 (q 53), some (52, false)⟩, ⟨some 55, .bin .lss (q 54) (.const (.int .i64 0)) (some (.int .i64)), some (52, false)⟩, o 56 (.pick (q 52) (.const (.bool true)) (q 55)), o 57 (.mov (q 56)), ⟨some 58, .fieldAddr 2 (q 3), some (57, false)⟩, ⟨some 59, .load false 1 (q 58), some (57, false)⟩, ⟨some 60, .bin .lss (q 59) (.const (.int .i64 0)) (some (.int .i64)), some (57, false)⟩, o 61 (.pick (q 57) (.const (.bool true)) (q 60)), o 62 (.mov (q 61)), ⟨some 63, .fieldAddr 2 (q 3), some (62, false)⟩, ⟨some 64, .load false 1 (q 63), some (62, false)⟩, ⟨some 65, .fieldAddr 0 (q 3), some (62, false)⟩, ⟨some 66, .load false 1 (q 65), some (62, false)⟩, ⟨some 67, .bin .gtr (q 64) (q 66) (some (.int .i64)), some (62, false)⟩, o 68 (.pick (q 62) (.const (.bool true)) (q 67)), o 48 (.mov (q 68))])
  (.cond (q 48)
  (.seq (.ops [o 69 (.call 96 [(.const (.int .i64 81)), (.const (.int .i64 0))]), ⟨none, .store 3 (q 4) (q 69), none⟩])
  .ret)
  (.seq (.ops [o 71 (.fieldAddr 0 (q 3)), o 72 (.load false 1 (q 71)), o 73 (.bin .gtr (q 72) (.const (.int .i64 4096)) (some (.int .i64))), o 74 (.mov (q 73)), ⟨some 75, .fieldAddr 1 (q 3), some (74, false)⟩, ⟨some 76, .load false 1 (q 75), some (74, false)⟩, ⟨some 77, .bin .gtr (q 76) (.const (.int .i64 4096)) (some (.int .i64)), some (74, false)⟩, o 78 (.pick (q 74) (.const (.bool true)) (q 77)), o 79 (.mov (q 78)), ⟨some 80, .mov (q 8), some (79, false)⟩, ⟨some 81, .bin .gtr (q 80) (.const (.int .i64 4096)) (some (.int .i64)), some (79, false)⟩, o 82 (.pick (q 79) (.const (.bool true)) (q 81)), o 70 (.mov (q 82))])
  (.cond (q 70)
  (.seq (.ops [o 83 (.call 96 [(.const (.int .i64 3)), (.const (.int .i64 0))]), ⟨none, .store 3 (q 4) (q 83), none⟩])
  .ret)
  .skip)))))))
  (.seq (.seq (.ops [o 84 (.fieldAddr 3 (q 3)), o 85 (.load false 1 (q 84)), o 86 (.len 1 (q 85)), o 87 (.mov (.const (.int .i64 0)))])
  (.block 1 (.loop (.seq (.ops [o 88 (.bin .lss (q 87) (q 86) (some (.int .i64)))])
  (.seq (.cond (q 88)
  .skip
  (.exit 1))
  (.seq (.block 2 (.seq (.ops [o 89 (.mov (q 87)), o 90 (.indexAddr 1 (q 85) (q 87)), o 91 (.load false 1 (q 90)), o 9 (.mov (q 89)), o 10 (.mov (q 91))])
  (.seq (.ops [o 92 (.mov (q 10)), o 93 (.len 1 (q 92)), o 94 (.bin .gtr (q 93) (.const (.int .i64 65536)) (some (.int .i64)))])
  (.cond (q 94)
  (.seq (.ops [o 95 (.mov (q 9)), o 96 (.call 96 [(.const (.int .i64 4)), .tmp 95]), ⟨none, .store 3 (q 4) (q 96), none⟩])
  .ret)
  .skip))))
  (.ops [o 97 (.bin .add (q 87) (.const (.int .i64 1)) (some (.int .i64))), o 87 (.mov (q 97))])))))))
  (.seq (.seq (.ops [o 98 (.fieldAddr 3 (q 3)), o 99 (.load false 1 (q 98)), o 100 (.len 1 (q 99)), o 101 (.mov (.const (.int .i64 0)))])
  (.block 3 (.loop (.seq (.ops [o 102 (.bin .lss (q 101) (q 100) (some (.int .i64)))])
  (.seq (.cond (q 102)
  .skip
  (.exit 3))
  (.seq (.block 4 (.seq (.ops [o 103 (.mov (q 101)), o 104 (.indexAddr 1 (q 99) (q 101)), o 105 (.load false 1 (q 104)), o 11 (.mov (q 103)), o 12 (.mov (q 105))])
  (.seq (.ops [o 106 (.mov (q 12)), o 107 (.len 1 (q 106)), o 108 (.fieldAddr 2 (q 2)), o 109 (.load true 5 (q 108)), o 110 (.mov (q 11)), o 111 (.mov (q 8)), o 112 (.mov (q 12)), o 113 (.len 1 (q 112)), o 114 (.call 132 [.tmp 109, .tmp 110, .tmp 111, .tmp 113]), o 115 (.bin .lss (q 107) (q 114) (some (.int .i64)))])
  (.cond (q 115)
  (.seq (.ops [o 116 (.mov (q 11)), o 117 (.call 96 [(.const (.int .i64 82)), .tmp 116]), ⟨none, .store 3 (q 4) (q 117), none⟩])
  .ret)
  .skip))))
  (.ops [o 118 (.bin .add (q 101) (.const (.int .i64 1)) (some (.int .i64))), o 101 (.mov (q 118))])))))))
  (.seq (.seq (.ops [o 119 (.fieldAddr 4 (q 3)), o 120 (.load false 1 (q 119)), o 121 (.len 1 (q 120)), o 122 (.mov (.const (.int .i64 0)))])
  (.block 5 (.loop (.seq (.ops [o 123 (.bin .lss (q 122) (q 121) (some (.int .i64)))])
  (.seq (.cond (q 123)
  .skip
  (.exit 5))
  (.seq (.block 6 (.seq (.ops [o 124 (.mov (q 122)), o 125 (.indexAddr 6 (q 120) (q 122)), o 126 (.load true 6 (q 125)), o 14 (.alloc [.int .i64 0, .int .i64 0, .int .i64 0, .slice none 0 0, .slice none 0 0, .slice none 0 0]), o 13 (.mov (q 124)), ⟨none, .store 6 (q 14) (q 126), none⟩])
  (.seq (.ops [o 127 (.fieldAddr 2 (q 2)), o 128 (.fieldAddr 0 (q 127)), o 129 (.load false 1 (q 128)), o 130 (.bin .eql (q 129) (.const (.int .i64 16)) (some (.int .i64))), o 131 (.mov (q 130)), ⟨some 132, .fieldAddr 0 (q 14), some (131, true)⟩, ⟨some 133, .load false 1 (q 132), some (131, true)⟩, ⟨some 134, .mov (q 8), some (131, true)⟩, ⟨some 135, .fieldAddr 2 (q 2), some (131, true)⟩, ⟨some 136, .fieldAddr 1 (q 135), some (131, true)⟩, ⟨some 137, .load false 1 (q 136), some (131, true)⟩, ⟨some 138, .bin .mul (q 134) (q 137) (some (.int .i64)), some (131, true)⟩, ⟨some 139, .bin .lss (q 133) (q 138) (some (.int .i64)), some (131, true)⟩, o 140 (.pick (q 131) (q 139) (.const (.bool false))), o 141 (.mov (q 140)), ⟨some 142, .fieldAddr 2 (q 2), some (141, false)⟩, ⟨some 143, .fieldAddr 0 (q 142), some (141, false)⟩, ⟨some 144, .load false 1 (q 143), some (141, false)⟩, ⟨some 145, .bin .eql (q 144) (.const (.int .i64 17)) (some (.int .i64)), some (141, false)⟩, ⟨some 146, .mov (q 145), some (141, false)⟩, ⟨some 147, .fieldAddr 0 (q 14), some (146, true)⟩, ⟨some 148, .load false 1 (q 147), some (146, true)⟩, ⟨some 149, .mov (q 8), some (146, true)⟩, ⟨some 150, .bin .lss (q 148) (q 149) (some (.int .i64)), some (146, true)⟩, ⟨some 151, .pick (q 146) (q 150) (.const (.bool false)), some (141, false)⟩, o 152 (.pick (q 141) (.const (.bool true)) (q 151))])
  (.cond (q 152)
  (.seq (.ops [o 153 (.mov (q 5)), o 154 (.mov (q 13)), o 155 (.bin .add (q 153) (q 154) (some (.int .i64))), o 156 (.call 96 [(.const (.int .i64 82)), .tmp 155]), ⟨none, .store 3 (q 4) (q 156), none⟩])
  .ret)
  .skip))))
  (.ops [o 157 (.bin .add (q 122) (.const (.int .i64 1)) (some (.int .i64))), o 122 (.mov (q 157))])))))))
  (.seq (.ops [o 158 (.load true 7 (q 2)), o 159 (.load true 6 (q 3)), o 160 (.call 133 [.tmp 158, .tmp 159]), ⟨none, .store 3 (q 4) (q 160), none⟩])
  .ret))))))))⟩
theorem F121_ok : compF Tryz.prog 121 = some F121 := by kernel_rfl
/-- colonnade/array.rows -/
def F122 : FC := ⟨95, [.cell 4 true 3],
  (.seq (.ops [o 2 (.box (q 0)), o 3 (.box (q 1)), o 4 (.alloc [.int .i64 0, .slice none 0 0, .int .i64 0])])
  (.seq (.seq (.ops [o 11 (.fieldAddr 2 (q 2)), o 12 (.fieldAddr 0 (q 11)), o 13 (.load false 1 (q 12))])
  (.block 0 (.seq (.seq (.ops [o 15 (.bin .eql (q 13) (.const (.int .i64 12)) (some (.int .i64))), o 14 (.mov (q 15))])
  (.cond (q 14)
  .skip
  (.seq (.ops [o 16 (.bin .eql (q 13) (.const (.int .i64 13)) (some (.int .i64))), o 14 (.mov (q 16))])
  (.cond (q 14)
  .skip
  (.ops [o 17 (.bin .eql (q 13) (.const (.int .i64 15)) (some (.int .i64))), o 14 (.mov (q 17))])))))
  (.cond (q 14)
  (.seq (.ops [o 18 (.load true 7 (q 2)), o 19 (.load true 6 (q 3)), o 20 (.call 134 [.tmp 18, .tmp 19]), ⟨none, .store 3 (q 4) (q 20), none⟩])
  .ret)
  (.seq (.ops [o 22 (.bin .eql (q 13) (.const (.int .i64 18)) (some (.int .i64))), o 21 (.mov (q 22))])
  (.cond (q 21)
  (.seq (.ops [o 23 (.fieldAddr 0 (q 3)), o 24 (.load false 1 (q 23)), o 25 (.mov (.const (.int .i64 0)))])
  (.block 1 (.loop (.seq (.ops [o 26 (.bin .lss (q 25) (q 24) (some (.int .i64)))])
  (.seq (.cond (q 26)
  .skip
  (.exit 1))
  (.seq (.block 2 (.seq (.ops [o 27 (.mov (q 25)), o 5 (.mov (q 27))])
  (.seq (.ops [o 28 (.fieldAddr 1 (q 3)), o 29 (.load false 1 (q 28)), o 30 (.mov (q 5)), o 31 (.bin .add (q 29) (q 30) (some (.int .i64))), o 6 (.mov (q 31))])
  (.seq (.ops [o 32 (.fieldAddr 3 (q 3)), o 33 (.load false 1 (q 32)), o 34 (.indexAddr 1 (q 33) (.const (.int .i64 0))), o 35 (.load false 1 (q 34)), o 36 (.mov (q 6)), o 37 (.indexAddr 1 (q 35) (q 36)), o 38 (.load false 1 (q 37)), o 39 (.conv .i64 (q 38)), o 7 (.mov (q 39))])
  (.seq (.seq (.ops [o 40 (.mov (q 7)), o 41 (.fieldAddr 4 (q 3)), o 42 (.load false 1 (q 41)), o 43 (.len 1 (q 42)), o 44 (.bin .geq (q 40) (q 43) (some (.int .i64)))])
  (.cond (q 44)
  (.seq (.ops [o 45 (.mov (q 5)), o 46 (.call 96 [(.const (.int .i64 85)), .tmp 45]), ⟨none, .store 3 (q 4) (q 46), none⟩])
  .ret)
  .skip))
  (.seq (.ops [o 47 (.fieldAddr 3 (q 3)), o 48 (.load false 1 (q 47)), o 49 (.indexAddr 1 (q 48) (.const (.int .i64 1))), o 50 (.load false 1 (q 49)), o 51 (.mov (q 6)), o 52 (.call 135 [.tmp 50, .tmp 51]), o 8 (.mov (q 52))])
  (.seq (.ops [o 53 (.mov (q 8)), o 54 (.bin .lss (q 53) (.const (.int .i64 0)) (some (.int .i64))), o 55 (.mov (q 54)), ⟨some 56, .mov (q 8), some (55, false)⟩, ⟨some 57, .fieldAddr 4 (q 3), some (55, false)⟩, ⟨some 58, .load false 1 (q 57), some (55, false)⟩, ⟨some 59, .mov (q 7), some (55, false)⟩, ⟨some 60, .indexAddr 6 (q 58) (q 59), some (55, false)⟩, ⟨some 61, .fieldAddr 0 (q 60), some (55, false)⟩, ⟨some 62, .load false 1 (q 61), some (55, false)⟩, ⟨some 63, .bin .geq (q 56) (q 62) (some (.int .i64)), some (55, false)⟩, o 64 (.pick (q 55) (.const (.bool true)) (q 63))])
  (.cond (q 64)
  (.seq (.ops [o 65 (.mov (q 5)), o 66 (.call 96 [(.const (.int .i64 83)), .tmp 65]), ⟨none, .store 3 (q 4) (q 66), none⟩])
  .ret)
  .skip))))))))
  (.ops [o 67 (.bin .add (q 25) (.const (.int .i64 1)) (some (.int .i64))), o 25 (.mov (q 67))])))))))
  (.seq (.ops [o 69 (.bin .eql (q 13) (.const (.int .i64 19)) (some (.int .i64))), o 68 (.mov (q 69))])
  (.cond (q 68)
  (.seq (.ops [o 70 (.fieldAddr 0 (q 3)), o 71 (.load false 1 (q 70)), o 72 (.mov (.const (.int .i64 0)))])
  (.block 3 (.loop (.seq (.ops [o 73 (.bin .lss (q 72) (q 71) (some (.int .i64)))])
  (.seq (.cond (q 73)
  .skip
  (.exit 3))
  (.seq (.block 4 (.seq (.ops [o 74 (.mov (q 72)), o 9 (.mov (q 74))])
  (.seq (.ops [o 75 (.fieldAddr 1 (q 3)), o 76 (.load false 1 (q 75)), o 77 (.mov (q 9)), o 78 (.bin .add (q 76) (q 77) (some (.int .i64))), o 10 (.mov (q 78))])
  (.seq (.ops [o 79 (.load true 7 (q 2)), o 80 (.load true 6 (q 3)), o 81 (.mov (q 10)), o 82 (.call 136 [.tmp 79, .tmp 80, .tmp 81]), o 83 (.un .not (q 82)), o 84 (.mov (q 83)), ⟨some 85, .load true 7 (q 2), some (84, true)⟩, ⟨some 86, .load true 6 (q 3), some (84, true)⟩, ⟨some 87, .mov (q 10), some (84, true)⟩, ⟨some 88, .call 137 [.tmp 85, .tmp 86, .tmp 87], some (84, true)⟩, ⟨some 89, .bin .lss (q 88) (.const (.int .i64 0)) (some (.int .i64)), some (84, true)⟩, o 90 (.pick (q 84) (q 89) (.const (.bool false)))])
  (.cond (q 90)
  (.seq (.ops [o 91 (.mov (q 9)), o 92 (.call 96 [(.const (.int .i64 86)), .tmp 91]), ⟨none, .store 3 (q 4) (q 92), none⟩])
  .ret)
  .skip)))))
  (.ops [o 93 (.bin .add (q 72) (.const (.int .i64 1)) (some (.int .i64))), o 72 (.mov (q 93))])))))))
  .skip))))))))
  (.seq (.ops [o 94 (.build [.int .i64 0, .slice none 0 0, .int .i64 0] []), ⟨none, .store 3 (q 4) (q 94), none⟩])
  .ret)))⟩
theorem F122_ok : compF Tryz.prog 122 = some F122 := by kernel_rfl
end Go.Proofs.YtecephhhjhpcjaaGreatDoor.Stats
end
