/- The code that the call meets, as instructions. No conditions. -/
import Derived.Test.YtdgfcgadefodfaaGreatDoorEm22
import Derived.Test.YtdgfcgadefodfaaGreatDoorProg
import Derived.KernelRfl
set_option linter.unusedVariables false
namespace Go.Proofs.YtdgfcgadefodfaaGreatDoor.Calc
open Go Go.Proofs.YtdgfcgadefodfaaGreatDoor Go.Proofs.YtdgfcgadefodfaaGreatDoor.Em

/-- slices.Clone[[]int,int] -/
def F126 : FC := ⟨8, [.tmp 2],
  (.seq (.ops [⟨(some 2), .mov (.const (.slice none 0 0)), none⟩])
  (.seq (.seq (.ops [⟨(some 3), .mov (.tmp 0), none⟩,
    ⟨(some 4), .bin .eql (.tmp 3) (.const (.slice none 0 0)) (some (.slice 3)), none⟩])
  (.cond (.tmp 4)
  (.seq (.ops [⟨(some 2), .mov (.const (.slice none 0 0)), none⟩])
  .ret)
  .skip))
  (.seq (.ops [⟨(some 5), .buildSlice 1 0 [] [], none⟩,
    ⟨(some 6), .mov (.tmp 0), none⟩,
    ⟨(some 7), .append 1 8 (.tmp 5) (.tmp 6), none⟩,
    ⟨(some 2), .mov (.tmp 7), none⟩])
  .ret)))⟩
theorem F126_ok : compF Tryz.prog 126 = some F126 := by kernel_rfl

/-- colonnade/kind.named -/
def F127 : FC := ⟨36, [.tmp 2],
  (.seq (.ops [⟨(some 2), .mov (.const (.bool false)), none⟩])
  (.seq (.seq (.ops [⟨(some 5), .mov (.tmp 0), none⟩,
    ⟨(some 6), .len 0 (.tmp 5), none⟩,
    ⟨(some 7), .mov (.const (.int .i64 0)), none⟩])
  (.block 0 (.loop (.seq (.ops [⟨(some 8), .bin .lss (.tmp 7) (.tmp 6) (some (.int .i64)), none⟩])
  (.seq (.cond (.tmp 8)
  .skip
  (.exit 0))
  (.seq (.block 1 (.seq (.ops [⟨(some 9), .mov (.tmp 7), none⟩,
    ⟨(some 3), .mov (.tmp 9), none⟩])
  (.seq (.ops [⟨(some 10), .mov (.tmp 0), none⟩,
    ⟨(some 11), .mov (.tmp 3), none⟩,
    ⟨(some 12), .indexStr (.tmp 10) (.tmp 11), none⟩,
    ⟨(some 4), .mov (.tmp 12), none⟩])
  (.seq (.ops [⟨(some 13), .mov (.tmp 4), none⟩,
    ⟨(some 14), .call 164 [(.tmp 13)], none⟩,
    ⟨(some 15), .un .not (.tmp 14), none⟩,
    ⟨(some 16), .mov (.tmp 15), none⟩,
    ⟨(some 17), .mov (.tmp 3), (some (16, false))⟩,
    ⟨(some 18), .bin .eql (.tmp 17) (.const (.int .i64 0)) (some (.int .i64)), (some (16, false))⟩,
    ⟨(some 19), .mov (.tmp 18), (some (16, false))⟩,
    ⟨(some 20), .mov (.tmp 4), (some (19, true))⟩,
    ⟨(some 21), .bin .geq (.tmp 20) (.const (.int .u8 48)) (some (.int .u8)), (some (19, true))⟩,
    ⟨(some 22), .pick (.tmp 19) (.tmp 21) (.const (.bool false)), (some (16, false))⟩,
    ⟨(some 23), .mov (.tmp 22), (some (16, false))⟩,
    ⟨(some 24), .mov (.tmp 4), (some (23, true))⟩,
    ⟨(some 25), .bin .leq (.tmp 24) (.const (.int .u8 57)) (some (.int .u8)), (some (23, true))⟩,
    ⟨(some 26), .pick (.tmp 23) (.tmp 25) (.const (.bool false)), (some (16, false))⟩,
    ⟨(some 27), .pick (.tmp 16) (.const (.bool true)) (.tmp 26), none⟩])
  (.cond (.tmp 27)
  (.seq (.ops [⟨(some 2), .mov (.const (.bool false)), none⟩])
  .ret)
  .skip)))))
  (.ops [⟨(some 28), .bin .add (.tmp 7) (.const (.int .i64 1)) (some (.int .i64)), none⟩,
    ⟨(some 7), .mov (.tmp 28), none⟩])))))))
  (.seq (.ops [⟨(some 29), .mov (.tmp 0), none⟩,
    ⟨(some 30), .bin .neq (.tmp 29) (.const (.string ⟨#[]⟩)) (some .string), none⟩,
    ⟨(some 31), .mov (.tmp 30), none⟩,
    ⟨(some 32), .mov (.tmp 0), (some (31, true))⟩,
    ⟨(some 33), .len 0 (.tmp 32), (some (31, true))⟩,
    ⟨(some 34), .bin .leq (.tmp 33) (.const (.int .i64 48)) (some (.int .i64)), (some (31, true))⟩,
    ⟨(some 35), .pick (.tmp 31) (.tmp 34) (.const (.bool false)), none⟩,
    ⟨(some 2), .mov (.tmp 35), none⟩])
  .ret)))⟩
theorem F127_ok : compF Tryz.prog 127 = some F127 := by kernel_rfl

/-- slices.ContainsFunc[[]colonnade/api.Field,colonnade/api.Field] -/
def F128 : FC := ⟨9, [.tmp 4],
  (.seq (.ops [⟨(some 4), .mov (.const (.bool false)), none⟩])
  (.seq (.ops [⟨(some 5), .mov (.tmp 0), none⟩,
    ⟨(some 6), .mov (.tmp 1), none⟩,
    ⟨(some 7), .call 165 [(.tmp 5), (.tmp 6)], none⟩,
    ⟨(some 8), .bin .geq (.tmp 7) (.const (.int .i64 0)) (some (.int .i64)), none⟩,
    ⟨(some 4), .mov (.tmp 8), none⟩])
  .ret))⟩
theorem F128_ok : compF Tryz.prog 128 = some F128 := by kernel_rfl

/-- colonnade/kind.fits -/
def F130 : FC := ⟨89, [.tmp 2],
  (.seq (.ops [⟨(some 1), .box (.tmp 0), none⟩,
    ⟨(some 2), .mov (.const (.bool false)), none⟩])
  (.seq (.seq (.ops [⟨(some 9), .fieldAddr 0 (.tmp 1), none⟩,
    ⟨(some 10), .load false 1 (.tmp 9), none⟩,
    ⟨(some 11), .call 166 [(.tmp 10)], none⟩,
    ⟨(some 12), .un .not (.tmp 11), none⟩])
  (.cond (.tmp 12)
  (.seq (.ops [⟨(some 2), .mov (.const (.bool false)), none⟩])
  .ret)
  .skip))
  (.seq (.ops [⟨(some 3), .mov (.const (.int .i64 0)), none⟩,
    ⟨(some 4), .mov (.const (.int .i64 0)), none⟩])
  (.seq (.ops [⟨(some 5), .mov (.const (.int .i64 0)), none⟩,
    ⟨(some 6), .mov (.const (.bool false)), none⟩])
  (.seq (.seq (.ops [⟨(some 13), .fieldAddr 0 (.tmp 1), none⟩,
    ⟨(some 14), .load false 1 (.tmp 13), none⟩])
  (.block 0 (.seq (.ops [⟨(some 16), .bin .eql (.tmp 14) (.const (.int .i64 14)) (some (.int .i64)), none⟩,
    ⟨(some 15), .mov (.tmp 16), none⟩])
  (.cond (.tmp 15)
  (.ops [⟨(some 5), .mov (.const (.int .i64 16)), none⟩])
  (.seq (.seq (.ops [⟨(some 18), .bin .eql (.tmp 14) (.const (.int .i64 15)) (some (.int .i64)), none⟩,
    ⟨(some 17), .mov (.tmp 18), none⟩])
  (.cond (.tmp 17)
  .skip
  (.ops [⟨(some 19), .bin .eql (.tmp 14) (.const (.int .i64 20)) (some (.int .i64)), none⟩,
    ⟨(some 17), .mov (.tmp 19), none⟩])))
  (.cond (.tmp 17)
  (.ops [⟨(some 3), .mov (.const (.int .i64 1)), none⟩,
    ⟨(some 4), .mov (.const (.int .i64 1)), none⟩])
  (.seq (.ops [⟨(some 21), .bin .eql (.tmp 14) (.const (.int .i64 16)) (some (.int .i64)), none⟩,
    ⟨(some 20), .mov (.tmp 21), none⟩])
  (.cond (.tmp 20)
  (.ops [⟨(some 3), .mov (.const (.int .i64 1)), none⟩,
    ⟨(some 4), .mov (.const (.int .i64 1)), none⟩,
    ⟨(some 5), .mov (.const (.int .i64 64)), none⟩])
  (.seq (.ops [⟨(some 23), .bin .eql (.tmp 14) (.const (.int .i64 17)) (some (.int .i64)), none⟩,
    ⟨(some 22), .mov (.tmp 23), none⟩])
  (.cond (.tmp 22)
  (.ops [⟨(some 4), .mov (.const (.int .i64 32)), none⟩])
  (.seq (.ops [⟨(some 25), .bin .eql (.tmp 14) (.const (.int .i64 18)) (some (.int .i64)), none⟩,
    ⟨(some 24), .mov (.tmp 25), none⟩])
  (.cond (.tmp 24)
  (.ops [⟨(some 3), .mov (.const (.int .i64 1)), none⟩,
    ⟨(some 4), .mov (.const (.int .i64 32)), none⟩])
  (.seq (.ops [⟨(some 27), .bin .eql (.tmp 14) (.const (.int .i64 19)) (some (.int .i64)), none⟩,
    ⟨(some 26), .mov (.tmp 27), none⟩])
  (.cond (.tmp 26)
  (.ops [⟨(some 3), .mov (.const (.int .i64 1)), none⟩,
    ⟨(some 4), .mov (.const (.int .i64 1)), none⟩,
    ⟨(some 6), .mov (.const (.bool true)), none⟩])
  .skip))))))))))))))
  (.seq (.ops [⟨(some 28), .fieldAddr 1 (.tmp 1), none⟩,
    ⟨(some 29), .load false 1 (.tmp 28), none⟩,
    ⟨(some 30), .bin .eql (.tmp 29) (.const (.int .i64 0)) (some (.int .i64)), none⟩,
    ⟨(some 7), .mov (.tmp 30), none⟩])
  (.seq (.seq (.ops [⟨(some 31), .mov (.tmp 5), none⟩,
    ⟨(some 32), .bin .gtr (.tmp 31) (.const (.int .i64 0)) (some (.int .i64)), none⟩])
  (.cond (.tmp 32)
  (.ops [⟨(some 33), .fieldAddr 1 (.tmp 1), none⟩,
    ⟨(some 34), .load false 1 (.tmp 33), none⟩,
    ⟨(some 35), .bin .geq (.tmp 34) (.const (.int .i64 1)) (some (.int .i64)), none⟩,
    ⟨(some 36), .mov (.tmp 35), none⟩,
    ⟨(some 37), .fieldAddr 1 (.tmp 1), (some (36, true))⟩,
    ⟨(some 38), .load false 1 (.tmp 37), (some (36, true))⟩,
    ⟨(some 39), .mov (.tmp 5), (some (36, true))⟩,
    ⟨(some 40), .bin .leq (.tmp 38) (.tmp 39) (some (.int .i64)), (some (36, true))⟩,
    ⟨(some 41), .pick (.tmp 36) (.tmp 40) (.const (.bool false)), none⟩,
    ⟨(some 7), .mov (.tmp 41), none⟩])
  .skip))
  (.seq (.ops [⟨(some 42), .fieldAddr 2 (.tmp 1), none⟩,
    ⟨(some 43), .load false 1 (.tmp 42), none⟩,
    ⟨(some 44), .bin .eql (.tmp 43) (.const (.int .i64 0)) (some (.int .i64)), none⟩,
    ⟨(some 45), .mov (.tmp 44), none⟩,
    ⟨(some 46), .fieldAddr 3 (.tmp 1), (some (45, true))⟩,
    ⟨(some 47), .load false 1 (.tmp 46), (some (45, true))⟩,
    ⟨(some 48), .bin .eql (.tmp 47) (.const (.int .i64 0)) (some (.int .i64)), (some (45, true))⟩,
    ⟨(some 49), .pick (.tmp 45) (.tmp 48) (.const (.bool false)), none⟩,
    ⟨(some 8), .mov (.tmp 49), none⟩])
  (.seq (.seq (.ops [⟨(some 50), .mov (.tmp 6), none⟩])
  (.cond (.tmp 50)
  (.ops [⟨(some 51), .fieldAddr 2 (.tmp 1), none⟩,
    ⟨(some 52), .load false 1 (.tmp 51), none⟩,
    ⟨(some 53), .bin .geq (.tmp 52) (.const (.int .i64 0)) (some (.int .i64)), none⟩,
    ⟨(some 54), .mov (.tmp 53), none⟩,
    ⟨(some 55), .fieldAddr 2 (.tmp 1), (some (54, true))⟩,
    ⟨(some 56), .load false 1 (.tmp 55), (some (54, true))⟩,
    ⟨(some 57), .bin .lss (.tmp 56) (.const (.int .i64 32)) (some (.int .i64)), (some (54, true))⟩,
    ⟨(some 58), .pick (.tmp 54) (.tmp 57) (.const (.bool false)), none⟩,
    ⟨(some 59), .mov (.tmp 58), none⟩,
    ⟨(some 60), .fieldAddr 3 (.tmp 1), (some (59, true))⟩,
    ⟨(some 61), .load false 1 (.tmp 60), (some (59, true))⟩,
    ⟨(some 62), .call 166 [(.tmp 61)], (some (59, true))⟩,
    ⟨(some 63), .pick (.tmp 59) (.tmp 62) (.const (.bool false)), none⟩,
    ⟨(some 64), .mov (.tmp 63), none⟩,
    ⟨(some 65), .fieldAddr 3 (.tmp 1), (some (64, true))⟩,
    ⟨(some 66), .load false 1 (.tmp 65), (some (64, true))⟩,
    ⟨(some 67), .indexAddrArr 4 21 (.global 2) (.tmp 66), (some (64, true))⟩,
    ⟨(some 68), .fieldAddr 3 (.tmp 67), (some (64, true))⟩,
    ⟨(some 69), .load false 1 (.tmp 68), (some (64, true))⟩,
    ⟨(some 70), .pick (.tmp 64) (.tmp 69) (.const (.bool false)), none⟩,
    ⟨(some 8), .mov (.tmp 70), none⟩])
  .skip))
  (.seq (.ops [⟨(some 71), .mov (.tmp 7), none⟩,
    ⟨(some 72), .mov (.tmp 71), none⟩,
    ⟨(some 73), .mov (.tmp 8), (some (72, true))⟩,
    ⟨(some 74), .pick (.tmp 72) (.tmp 73) (.const (.bool false)), none⟩,
    ⟨(some 75), .mov (.tmp 74), none⟩,
    ⟨(some 76), .fieldAddr 4 (.tmp 1), (some (75, true))⟩,
    ⟨(some 77), .load false 1 (.tmp 76), (some (75, true))⟩,
    ⟨(some 78), .len 1 (.tmp 77), (some (75, true))⟩,
    ⟨(some 79), .mov (.tmp 3), (some (75, true))⟩,
    ⟨(some 80), .bin .geq (.tmp 78) (.tmp 79) (some (.int .i64)), (some (75, true))⟩,
    ⟨(some 81), .pick (.tmp 75) (.tmp 80) (.const (.bool false)), none⟩,
    ⟨(some 82), .mov (.tmp 81), none⟩,
    ⟨(some 83), .fieldAddr 4 (.tmp 1), (some (82, true))⟩,
    ⟨(some 84), .load false 1 (.tmp 83), (some (82, true))⟩,
    ⟨(some 85), .len 1 (.tmp 84), (some (82, true))⟩,
    ⟨(some 86), .mov (.tmp 4), (some (82, true))⟩,
    ⟨(some 87), .bin .leq (.tmp 85) (.tmp 86) (some (.int .i64)), (some (82, true))⟩,
    ⟨(some 88), .pick (.tmp 82) (.tmp 87) (.const (.bool false)), none⟩,
    ⟨(some 2), .mov (.tmp 88), none⟩])
  .ret))))))))))⟩
theorem F130_ok : compF Tryz.prog 130 = some F130 := by kernel_rfl

/-- colonnade/kind.nulls -/
def F131 : FC := ⟨26, [.tmp 2],
  (.seq (.ops [⟨(some 1), .box (.tmp 0), none⟩,
    ⟨(some 2), .mov (.const (.bool false)), none⟩])
  (.seq (.seq (.ops [⟨(some 3), .fieldAddr 2 (.tmp 1), none⟩,
    ⟨(some 4), .fieldAddr 0 (.tmp 3), none⟩,
    ⟨(some 5), .load false 1 (.tmp 4), none⟩])
  (.block 0 (.seq (.ops [⟨(some 7), .bin .eql (.tmp 5) (.const (.int .i64 1)) (some (.int .i64)), none⟩,
    ⟨(some 6), .mov (.tmp 7), none⟩])
  (.cond (.tmp 6)
  (.seq (.ops [⟨(some 8), .fieldAddr 1 (.tmp 1), none⟩,
    ⟨(some 9), .load false 1 (.tmp 8), none⟩,
    ⟨(some 2), .mov (.tmp 9), none⟩])
  .ret)
  (.seq (.ops [⟨(some 11), .bin .eql (.tmp 5) (.const (.int .i64 18)) (some (.int .i64)), none⟩,
    ⟨(some 10), .mov (.tmp 11), none⟩])
  (.cond (.tmp 10)
  (.seq (.ops [⟨(some 12), .fieldAddr 1 (.tmp 1), none⟩,
    ⟨(some 13), .load false 1 (.tmp 12), none⟩,
    ⟨(some 14), .un .not (.tmp 13), none⟩,
    ⟨(some 2), .mov (.tmp 14), none⟩])
  .ret)
  (.seq (.ops [⟨(some 16), .bin .eql (.tmp 5) (.const (.int .i64 20)) (some (.int .i64)), none⟩,
    ⟨(some 15), .mov (.tmp 16), none⟩])
  (.cond (.tmp 15)
  (.seq (.ops [⟨(some 17), .fieldAddr 1 (.tmp 1), none⟩,
    ⟨(some 18), .load false 1 (.tmp 17), none⟩,
    ⟨(some 19), .fieldAddr 2 (.tmp 1), none⟩,
    ⟨(some 20), .fieldAddr 4 (.tmp 19), none⟩,
    ⟨(some 21), .load false 1 (.tmp 20), none⟩,
    ⟨(some 22), .indexAddr 7 (.tmp 21) (.const (.int .i64 0)), none⟩,
    ⟨(some 23), .fieldAddr 1 (.tmp 22), none⟩,
    ⟨(some 24), .load false 1 (.tmp 23), none⟩,
    ⟨(some 25), .bin .eql (.tmp 18) (.tmp 24) (some .bool), none⟩,
    ⟨(some 2), .mov (.tmp 25), none⟩])
  .ret)
  .skip))))))))
  (.seq (.ops [⟨(some 2), .mov (.const (.bool true)), none⟩])
  .ret)))⟩
theorem F131_ok : compF Tryz.prog 131 = some F131 := by kernel_rfl

/-- colonnade/array.sizes -/
def F132 : FC := ⟨161, [.cell 4 true 3],
  (.seq (.ops [⟨(some 2), .box (.tmp 0), none⟩,
    ⟨(some 3), .box (.tmp 1), none⟩,
    ⟨(some 4), .alloc [(.int .i64 0), (.slice none 0 0), (.int .i64 0)], none⟩])
  (.seq (.ops [⟨(some 16), .fieldAddr 2 (.tmp 2), none⟩,
    ⟨(some 17), .load true 5 (.tmp 16), none⟩,
    ⟨(some 18), .call 167 [(.tmp 17)], none⟩,
    ⟨(some 15), .mov (.tmp 18), none⟩,
    ⟨(some 19), .extract (.tmp 15) 0, none⟩,
    ⟨(some 20), .extract (.tmp 15) 1, none⟩,
    ⟨(some 21), .extract (.tmp 15) 2, none⟩,
    ⟨(some 5), .mov (.tmp 19), none⟩,
    ⟨(some 6), .mov (.tmp 20), none⟩,
    ⟨(some 7), .mov (.tmp 21), none⟩])
  (.seq (.ops [⟨(some 22), .fieldAddr 1 (.tmp 3), none⟩,
    ⟨(some 23), .load false 1 (.tmp 22), none⟩,
    ⟨(some 24), .fieldAddr 0 (.tmp 3), none⟩,
    ⟨(some 25), .load false 1 (.tmp 24), none⟩,
    ⟨(some 26), .bin .add (.tmp 23) (.tmp 25) (some (.int .i64)), none⟩,
    ⟨(some 8), .mov (.tmp 26), none⟩])
  (.seq (.block 0 (.seq (.ops [⟨(some 28), .fieldAddr 3 (.tmp 3), none⟩,
    ⟨(some 29), .load false 1 (.tmp 28), none⟩,
    ⟨(some 30), .len 1 (.tmp 29), none⟩,
    ⟨(some 31), .mov (.tmp 5), none⟩,
    ⟨(some 32), .bin .neq (.tmp 30) (.tmp 31) (some (.int .i64)), none⟩,
    ⟨(some 33), .mov (.tmp 32), none⟩,
    ⟨(some 34), .fieldAddr 4 (.tmp 3), (some (33, false))⟩,
    ⟨(some 35), .load false 1 (.tmp 34), (some (33, false))⟩,
    ⟨(some 36), .len 1 (.tmp 35), (some (33, false))⟩,
    ⟨(some 37), .mov (.tmp 6), (some (33, false))⟩,
    ⟨(some 38), .bin .neq (.tmp 36) (.tmp 37) (some (.int .i64)), (some (33, false))⟩,
    ⟨(some 39), .pick (.tmp 33) (.const (.bool true)) (.tmp 38), none⟩,
    ⟨(some 40), .mov (.tmp 39), none⟩,
    ⟨(some 41), .fieldAddr 5 (.tmp 3), (some (40, false))⟩,
    ⟨(some 42), .load false 1 (.tmp 41), (some (40, false))⟩,
    ⟨(some 43), .len 1 (.tmp 42), (some (40, false))⟩,
    ⟨(some 44), .mov (.tmp 7), (some (40, false))⟩,
    ⟨(some 45), .bin .neq (.tmp 43) (.tmp 44) (some (.int .i64)), (some (40, false))⟩,
    ⟨(some 46), .pick (.tmp 40) (.const (.bool true)) (.tmp 45), none⟩,
    ⟨(some 27), .mov (.tmp 46), none⟩])
  (.cond (.tmp 27)
  (.seq (.ops [⟨(some 47), .call 91 [(.const (.int .i64 80)), (.const (.int .i64 0))], none⟩,
    ⟨none, .store 3 (.tmp 4) (.tmp 47), none⟩])
  .ret)
  (.seq (.ops [⟨(some 49), .fieldAddr 0 (.tmp 3), none⟩,
    ⟨(some 50), .load false 1 (.tmp 49), none⟩,
    ⟨(some 51), .bin .lss (.tmp 50) (.const (.int .i64 0)) (some (.int .i64)), none⟩,
    ⟨(some 52), .mov (.tmp 51), none⟩,
    ⟨(some 53), .fieldAddr 1 (.tmp 3), (some (52, false))⟩,
    ⟨(some 54), .load false 1 (.tmp 53), (some (52, false))⟩,
    ⟨(some 55), .bin .lss (.tmp 54) (.const (.int .i64 0)) (some (.int .i64)), (some (52, false))⟩,
    ⟨(some 56), .pick (.tmp 52) (.const (.bool true)) (.tmp 55), none⟩,
    ⟨(some 57), .mov (.tmp 56), none⟩,
    ⟨(some 58), .fieldAddr 2 (.tmp 3), (some (57, false))⟩,
    ⟨(some 59), .load false 1 (.tmp 58), (some (57, false))⟩,
    ⟨(some 60), .bin .lss (.tmp 59) (.const (.int .i64 0)) (some (.int .i64)), (some (57, false))⟩,
    ⟨(some 61), .pick (.tmp 57) (.const (.bool true)) (.tmp 60), none⟩,
    ⟨(some 62), .mov (.tmp 61), none⟩,
    ⟨(some 63), .fieldAddr 2 (.tmp 3), (some (62, false))⟩,
    ⟨(some 64), .load false 1 (.tmp 63), (some (62, false))⟩,
    ⟨(some 65), .fieldAddr 0 (.tmp 3), (some (62, false))⟩,
    ⟨(some 66), .load false 1 (.tmp 65), (some (62, false))⟩,
    ⟨(some 67), .bin .gtr (.tmp 64) (.tmp 66) (some (.int .i64)), (some (62, false))⟩,
    ⟨(some 68), .pick (.tmp 62) (.const (.bool true)) (.tmp 67), none⟩,
    ⟨(some 48), .mov (.tmp 68), none⟩])
  (.cond (.tmp 48)
  (.seq (.ops [⟨(some 69), .call 91 [(.const (.int .i64 81)), (.const (.int .i64 0))], none⟩,
    ⟨none, .store 3 (.tmp 4) (.tmp 69), none⟩])
  .ret)
  (.seq (.ops [⟨(some 71), .fieldAddr 0 (.tmp 3), none⟩,
    ⟨(some 72), .load false 1 (.tmp 71), none⟩,
    ⟨(some 73), .bin .gtr (.tmp 72) (.const (.int .i64 4096)) (some (.int .i64)), none⟩,
    ⟨(some 74), .mov (.tmp 73), none⟩,
    ⟨(some 75), .fieldAddr 1 (.tmp 3), (some (74, false))⟩,
    ⟨(some 76), .load false 1 (.tmp 75), (some (74, false))⟩,
    ⟨(some 77), .bin .gtr (.tmp 76) (.const (.int .i64 4096)) (some (.int .i64)), (some (74, false))⟩,
    ⟨(some 78), .pick (.tmp 74) (.const (.bool true)) (.tmp 77), none⟩,
    ⟨(some 79), .mov (.tmp 78), none⟩,
    ⟨(some 80), .mov (.tmp 8), (some (79, false))⟩,
    ⟨(some 81), .bin .gtr (.tmp 80) (.const (.int .i64 4096)) (some (.int .i64)), (some (79, false))⟩,
    ⟨(some 82), .pick (.tmp 79) (.const (.bool true)) (.tmp 81), none⟩,
    ⟨(some 70), .mov (.tmp 82), none⟩])
  (.cond (.tmp 70)
  (.seq (.ops [⟨(some 83), .call 91 [(.const (.int .i64 3)), (.const (.int .i64 0))], none⟩,
    ⟨none, .store 3 (.tmp 4) (.tmp 83), none⟩])
  .ret)
  .skip)))))))
  (.seq (.seq (.ops [⟨(some 84), .fieldAddr 3 (.tmp 3), none⟩,
    ⟨(some 85), .load false 1 (.tmp 84), none⟩,
    ⟨(some 86), .len 1 (.tmp 85), none⟩,
    ⟨(some 87), .mov (.const (.int .i64 0)), none⟩])
  (.block 1 (.loop (.seq (.ops [⟨(some 88), .bin .lss (.tmp 87) (.tmp 86) (some (.int .i64)), none⟩])
  (.seq (.cond (.tmp 88)
  .skip
  (.exit 1))
  (.seq (.block 2 (.seq (.ops [⟨(some 89), .mov (.tmp 87), none⟩,
    ⟨(some 90), .indexAddr 1 (.tmp 85) (.tmp 87), none⟩,
    ⟨(some 91), .load false 1 (.tmp 90), none⟩,
    ⟨(some 9), .mov (.tmp 89), none⟩,
    ⟨(some 10), .mov (.tmp 91), none⟩])
  (.seq (.ops [⟨(some 92), .mov (.tmp 10), none⟩,
    ⟨(some 93), .len 1 (.tmp 92), none⟩,
    ⟨(some 94), .bin .gtr (.tmp 93) (.const (.int .i64 65536)) (some (.int .i64)), none⟩])
  (.cond (.tmp 94)
  (.seq (.ops [⟨(some 95), .mov (.tmp 9), none⟩,
    ⟨(some 96), .call 91 [(.const (.int .i64 4)), (.tmp 95)], none⟩,
    ⟨none, .store 3 (.tmp 4) (.tmp 96), none⟩])
  .ret)
  .skip))))
  (.ops [⟨(some 97), .bin .add (.tmp 87) (.const (.int .i64 1)) (some (.int .i64)), none⟩,
    ⟨(some 87), .mov (.tmp 97), none⟩])))))))
  (.seq (.seq (.ops [⟨(some 98), .fieldAddr 3 (.tmp 3), none⟩,
    ⟨(some 99), .load false 1 (.tmp 98), none⟩,
    ⟨(some 100), .len 1 (.tmp 99), none⟩,
    ⟨(some 101), .mov (.const (.int .i64 0)), none⟩])
  (.block 3 (.loop (.seq (.ops [⟨(some 102), .bin .lss (.tmp 101) (.tmp 100) (some (.int .i64)), none⟩])
  (.seq (.cond (.tmp 102)
  .skip
  (.exit 3))
  (.seq (.block 4 (.seq (.ops [⟨(some 103), .mov (.tmp 101), none⟩,
    ⟨(some 104), .indexAddr 1 (.tmp 99) (.tmp 101), none⟩,
    ⟨(some 105), .load false 1 (.tmp 104), none⟩,
    ⟨(some 11), .mov (.tmp 103), none⟩,
    ⟨(some 12), .mov (.tmp 105), none⟩])
  (.seq (.ops [⟨(some 106), .mov (.tmp 12), none⟩,
    ⟨(some 107), .len 1 (.tmp 106), none⟩,
    ⟨(some 108), .fieldAddr 2 (.tmp 2), none⟩,
    ⟨(some 109), .load true 5 (.tmp 108), none⟩,
    ⟨(some 110), .mov (.tmp 11), none⟩,
    ⟨(some 111), .mov (.tmp 8), none⟩,
    ⟨(some 112), .mov (.tmp 12), none⟩,
    ⟨(some 113), .len 1 (.tmp 112), none⟩,
    ⟨(some 114), .call 168 [(.tmp 109), (.tmp 110), (.tmp 111), (.tmp 113)], none⟩,
    ⟨(some 115), .bin .lss (.tmp 107) (.tmp 114) (some (.int .i64)), none⟩])
  (.cond (.tmp 115)
  (.seq (.ops [⟨(some 116), .mov (.tmp 11), none⟩,
    ⟨(some 117), .call 91 [(.const (.int .i64 82)), (.tmp 116)], none⟩,
    ⟨none, .store 3 (.tmp 4) (.tmp 117), none⟩])
  .ret)
  .skip))))
  (.ops [⟨(some 118), .bin .add (.tmp 101) (.const (.int .i64 1)) (some (.int .i64)), none⟩,
    ⟨(some 101), .mov (.tmp 118), none⟩])))))))
  (.seq (.seq (.ops [⟨(some 119), .fieldAddr 4 (.tmp 3), none⟩,
    ⟨(some 120), .load false 1 (.tmp 119), none⟩,
    ⟨(some 121), .len 1 (.tmp 120), none⟩,
    ⟨(some 122), .mov (.const (.int .i64 0)), none⟩])
  (.block 5 (.loop (.seq (.ops [⟨(some 123), .bin .lss (.tmp 122) (.tmp 121) (some (.int .i64)), none⟩])
  (.seq (.cond (.tmp 123)
  .skip
  (.exit 5))
  (.seq (.block 6 (.seq (.ops [⟨(some 124), .mov (.tmp 122), none⟩,
    ⟨(some 125), .indexAddr 6 (.tmp 120) (.tmp 122), none⟩,
    ⟨(some 126), .load true 6 (.tmp 125), none⟩,
    ⟨(some 14), .alloc [(.int .i64 0), (.int .i64 0), (.int .i64 0), (.slice none 0 0), (.slice none 0 0), (.slice none 0 0)], none⟩,
    ⟨(some 13), .mov (.tmp 124), none⟩,
    ⟨none, .store 6 (.tmp 14) (.tmp 126), none⟩])
  (.seq (.ops [⟨(some 127), .fieldAddr 2 (.tmp 2), none⟩,
    ⟨(some 128), .fieldAddr 0 (.tmp 127), none⟩,
    ⟨(some 129), .load false 1 (.tmp 128), none⟩,
    ⟨(some 130), .bin .eql (.tmp 129) (.const (.int .i64 16)) (some (.int .i64)), none⟩,
    ⟨(some 131), .mov (.tmp 130), none⟩,
    ⟨(some 132), .fieldAddr 0 (.tmp 14), (some (131, true))⟩,
    ⟨(some 133), .load false 1 (.tmp 132), (some (131, true))⟩,
    ⟨(some 134), .mov (.tmp 8), (some (131, true))⟩,
    ⟨(some 135), .fieldAddr 2 (.tmp 2), (some (131, true))⟩,
    ⟨(some 136), .fieldAddr 1 (.tmp 135), (some (131, true))⟩,
    ⟨(some 137), .load false 1 (.tmp 136), (some (131, true))⟩,
    ⟨(some 138), .bin .mul (.tmp 134) (.tmp 137) (some (.int .i64)), (some (131, true))⟩,
    ⟨(some 139), .bin .lss (.tmp 133) (.tmp 138) (some (.int .i64)), (some (131, true))⟩,
    ⟨(some 140), .pick (.tmp 131) (.tmp 139) (.const (.bool false)), none⟩,
    ⟨(some 141), .mov (.tmp 140), none⟩,
    ⟨(some 142), .fieldAddr 2 (.tmp 2), (some (141, false))⟩,
    ⟨(some 143), .fieldAddr 0 (.tmp 142), (some (141, false))⟩,
    ⟨(some 144), .load false 1 (.tmp 143), (some (141, false))⟩,
    ⟨(some 145), .bin .eql (.tmp 144) (.const (.int .i64 17)) (some (.int .i64)), (some (141, false))⟩,
    ⟨(some 146), .mov (.tmp 145), (some (141, false))⟩,
    ⟨(some 147), .fieldAddr 0 (.tmp 14), (some (146, true))⟩,
    ⟨(some 148), .load false 1 (.tmp 147), (some (146, true))⟩,
    ⟨(some 149), .mov (.tmp 8), (some (146, true))⟩,
    ⟨(some 150), .bin .lss (.tmp 148) (.tmp 149) (some (.int .i64)), (some (146, true))⟩,
    ⟨(some 151), .pick (.tmp 146) (.tmp 150) (.const (.bool false)), (some (141, false))⟩,
    ⟨(some 152), .pick (.tmp 141) (.const (.bool true)) (.tmp 151), none⟩])
  (.cond (.tmp 152)
  (.seq (.ops [⟨(some 153), .mov (.tmp 5), none⟩,
    ⟨(some 154), .mov (.tmp 13), none⟩,
    ⟨(some 155), .bin .add (.tmp 153) (.tmp 154) (some (.int .i64)), none⟩,
    ⟨(some 156), .call 91 [(.const (.int .i64 82)), (.tmp 155)], none⟩,
    ⟨none, .store 3 (.tmp 4) (.tmp 156), none⟩])
  .ret)
  .skip))))
  (.ops [⟨(some 157), .bin .add (.tmp 122) (.const (.int .i64 1)) (some (.int .i64)), none⟩,
    ⟨(some 122), .mov (.tmp 157), none⟩])))))))
  (.seq (.ops [⟨(some 158), .load true 7 (.tmp 2), none⟩,
    ⟨(some 159), .load true 6 (.tmp 3), none⟩,
    ⟨(some 160), .call 169 [(.tmp 158), (.tmp 159)], none⟩,
    ⟨none, .store 3 (.tmp 4) (.tmp 160), none⟩])
  .ret))))))))⟩
theorem F132_ok : compF Tryz.prog 132 = some F132 := by kernel_rfl

/-- colonnade/array.rows -/
def F133 : FC := ⟨95, [.cell 4 true 3],
  (.seq (.ops [⟨(some 2), .box (.tmp 0), none⟩,
    ⟨(some 3), .box (.tmp 1), none⟩,
    ⟨(some 4), .alloc [(.int .i64 0), (.slice none 0 0), (.int .i64 0)], none⟩])
  (.seq (.seq (.ops [⟨(some 11), .fieldAddr 2 (.tmp 2), none⟩,
    ⟨(some 12), .fieldAddr 0 (.tmp 11), none⟩,
    ⟨(some 13), .load false 1 (.tmp 12), none⟩])
  (.block 0 (.seq (.seq (.ops [⟨(some 15), .bin .eql (.tmp 13) (.const (.int .i64 12)) (some (.int .i64)), none⟩,
    ⟨(some 14), .mov (.tmp 15), none⟩])
  (.cond (.tmp 14)
  .skip
  (.seq (.ops [⟨(some 16), .bin .eql (.tmp 13) (.const (.int .i64 13)) (some (.int .i64)), none⟩,
    ⟨(some 14), .mov (.tmp 16), none⟩])
  (.cond (.tmp 14)
  .skip
  (.ops [⟨(some 17), .bin .eql (.tmp 13) (.const (.int .i64 15)) (some (.int .i64)), none⟩,
    ⟨(some 14), .mov (.tmp 17), none⟩])))))
  (.cond (.tmp 14)
  (.seq (.ops [⟨(some 18), .load true 7 (.tmp 2), none⟩,
    ⟨(some 19), .load true 6 (.tmp 3), none⟩,
    ⟨(some 20), .call 170 [(.tmp 18), (.tmp 19)], none⟩,
    ⟨none, .store 3 (.tmp 4) (.tmp 20), none⟩])
  .ret)
  (.seq (.ops [⟨(some 22), .bin .eql (.tmp 13) (.const (.int .i64 18)) (some (.int .i64)), none⟩,
    ⟨(some 21), .mov (.tmp 22), none⟩])
  (.cond (.tmp 21)
  (.seq (.ops [⟨(some 23), .fieldAddr 0 (.tmp 3), none⟩,
    ⟨(some 24), .load false 1 (.tmp 23), none⟩,
    ⟨(some 25), .mov (.const (.int .i64 0)), none⟩])
  (.block 1 (.loop (.seq (.ops [⟨(some 26), .bin .lss (.tmp 25) (.tmp 24) (some (.int .i64)), none⟩])
  (.seq (.cond (.tmp 26)
  .skip
  (.exit 1))
  (.seq (.block 2 (.seq (.ops [⟨(some 27), .mov (.tmp 25), none⟩,
    ⟨(some 5), .mov (.tmp 27), none⟩])
  (.seq (.ops [⟨(some 28), .fieldAddr 1 (.tmp 3), none⟩,
    ⟨(some 29), .load false 1 (.tmp 28), none⟩,
    ⟨(some 30), .mov (.tmp 5), none⟩,
    ⟨(some 31), .bin .add (.tmp 29) (.tmp 30) (some (.int .i64)), none⟩,
    ⟨(some 6), .mov (.tmp 31), none⟩])
  (.seq (.ops [⟨(some 32), .fieldAddr 3 (.tmp 3), none⟩,
    ⟨(some 33), .load false 1 (.tmp 32), none⟩,
    ⟨(some 34), .indexAddr 1 (.tmp 33) (.const (.int .i64 0)), none⟩,
    ⟨(some 35), .load false 1 (.tmp 34), none⟩,
    ⟨(some 36), .mov (.tmp 6), none⟩,
    ⟨(some 37), .indexAddr 1 (.tmp 35) (.tmp 36), none⟩,
    ⟨(some 38), .load false 1 (.tmp 37), none⟩,
    ⟨(some 39), .conv .i64 (.tmp 38), none⟩,
    ⟨(some 7), .mov (.tmp 39), none⟩])
  (.seq (.seq (.ops [⟨(some 40), .mov (.tmp 7), none⟩,
    ⟨(some 41), .fieldAddr 4 (.tmp 3), none⟩,
    ⟨(some 42), .load false 1 (.tmp 41), none⟩,
    ⟨(some 43), .len 1 (.tmp 42), none⟩,
    ⟨(some 44), .bin .geq (.tmp 40) (.tmp 43) (some (.int .i64)), none⟩])
  (.cond (.tmp 44)
  (.seq (.ops [⟨(some 45), .mov (.tmp 5), none⟩,
    ⟨(some 46), .call 91 [(.const (.int .i64 85)), (.tmp 45)], none⟩,
    ⟨none, .store 3 (.tmp 4) (.tmp 46), none⟩])
  .ret)
  .skip))
  (.seq (.ops [⟨(some 47), .fieldAddr 3 (.tmp 3), none⟩,
    ⟨(some 48), .load false 1 (.tmp 47), none⟩,
    ⟨(some 49), .indexAddr 1 (.tmp 48) (.const (.int .i64 1)), none⟩,
    ⟨(some 50), .load false 1 (.tmp 49), none⟩,
    ⟨(some 51), .mov (.tmp 6), none⟩,
    ⟨(some 52), .call 171 [(.tmp 50), (.tmp 51)], none⟩,
    ⟨(some 8), .mov (.tmp 52), none⟩])
  (.seq (.ops [⟨(some 53), .mov (.tmp 8), none⟩,
    ⟨(some 54), .bin .lss (.tmp 53) (.const (.int .i64 0)) (some (.int .i64)), none⟩,
    ⟨(some 55), .mov (.tmp 54), none⟩,
    ⟨(some 56), .mov (.tmp 8), (some (55, false))⟩,
    ⟨(some 57), .fieldAddr 4 (.tmp 3), (some (55, false))⟩,
    ⟨(some 58), .load false 1 (.tmp 57), (some (55, false))⟩,
    ⟨(some 59), .mov (.tmp 7), (some (55, false))⟩,
    ⟨(some 60), .indexAddr 6 (.tmp 58) (.tmp 59), (some (55, false))⟩,
    ⟨(some 61), .fieldAddr 0 (.tmp 60), (some (55, false))⟩,
    ⟨(some 62), .load false 1 (.tmp 61), (some (55, false))⟩,
    ⟨(some 63), .bin .geq (.tmp 56) (.tmp 62) (some (.int .i64)), (some (55, false))⟩,
    ⟨(some 64), .pick (.tmp 55) (.const (.bool true)) (.tmp 63), none⟩])
  (.cond (.tmp 64)
  (.seq (.ops [⟨(some 65), .mov (.tmp 5), none⟩,
    ⟨(some 66), .call 91 [(.const (.int .i64 83)), (.tmp 65)], none⟩,
    ⟨none, .store 3 (.tmp 4) (.tmp 66), none⟩])
  .ret)
  .skip))))))))
  (.ops [⟨(some 67), .bin .add (.tmp 25) (.const (.int .i64 1)) (some (.int .i64)), none⟩,
    ⟨(some 25), .mov (.tmp 67), none⟩])))))))
  (.seq (.ops [⟨(some 69), .bin .eql (.tmp 13) (.const (.int .i64 19)) (some (.int .i64)), none⟩,
    ⟨(some 68), .mov (.tmp 69), none⟩])
  (.cond (.tmp 68)
  (.seq (.ops [⟨(some 70), .fieldAddr 0 (.tmp 3), none⟩,
    ⟨(some 71), .load false 1 (.tmp 70), none⟩,
    ⟨(some 72), .mov (.const (.int .i64 0)), none⟩])
  (.block 3 (.loop (.seq (.ops [⟨(some 73), .bin .lss (.tmp 72) (.tmp 71) (some (.int .i64)), none⟩])
  (.seq (.cond (.tmp 73)
  .skip
  (.exit 3))
  (.seq (.block 4 (.seq (.ops [⟨(some 74), .mov (.tmp 72), none⟩,
    ⟨(some 9), .mov (.tmp 74), none⟩])
  (.seq (.ops [⟨(some 75), .fieldAddr 1 (.tmp 3), none⟩,
    ⟨(some 76), .load false 1 (.tmp 75), none⟩,
    ⟨(some 77), .mov (.tmp 9), none⟩,
    ⟨(some 78), .bin .add (.tmp 76) (.tmp 77) (some (.int .i64)), none⟩,
    ⟨(some 10), .mov (.tmp 78), none⟩])
  (.seq (.ops [⟨(some 79), .load true 7 (.tmp 2), none⟩,
    ⟨(some 80), .load true 6 (.tmp 3), none⟩,
    ⟨(some 81), .mov (.tmp 10), none⟩,
    ⟨(some 82), .call 172 [(.tmp 79), (.tmp 80), (.tmp 81)], none⟩,
    ⟨(some 83), .un .not (.tmp 82), none⟩,
    ⟨(some 84), .mov (.tmp 83), none⟩,
    ⟨(some 85), .load true 7 (.tmp 2), (some (84, true))⟩,
    ⟨(some 86), .load true 6 (.tmp 3), (some (84, true))⟩,
    ⟨(some 87), .mov (.tmp 10), (some (84, true))⟩,
    ⟨(some 88), .call 173 [(.tmp 85), (.tmp 86), (.tmp 87)], (some (84, true))⟩,
    ⟨(some 89), .bin .lss (.tmp 88) (.const (.int .i64 0)) (some (.int .i64)), (some (84, true))⟩,
    ⟨(some 90), .pick (.tmp 84) (.tmp 89) (.const (.bool false)), none⟩])
  (.cond (.tmp 90)
  (.seq (.ops [⟨(some 91), .mov (.tmp 9), none⟩,
    ⟨(some 92), .call 91 [(.const (.int .i64 86)), (.tmp 91)], none⟩,
    ⟨none, .store 3 (.tmp 4) (.tmp 92), none⟩])
  .ret)
  .skip)))))
  (.ops [⟨(some 93), .bin .add (.tmp 72) (.const (.int .i64 1)) (some (.int .i64)), none⟩,
    ⟨(some 72), .mov (.tmp 93), none⟩])))))))
  .skip))))))))
  (.seq (.ops [⟨(some 94), .build [(.int .i64 0), (.slice none 0 0), (.int .i64 0)] [], none⟩,
    ⟨none, .store 3 (.tmp 4) (.tmp 94), none⟩])
  .ret)))⟩
theorem F133_ok : compF Tryz.prog 133 = some F133 := by kernel_rfl

/-- colonnade/array.parts -/
def F134 : FC := ⟨11, [.tmp 2],
  (.seq (.ops [⟨(some 1), .box (.tmp 0), none⟩,
    ⟨(some 2), .mov (.const (.slice none 0 0)), none⟩])
  (.seq (.seq (.ops [⟨(some 3), .fieldAddr 5 (.tmp 1), none⟩,
    ⟨(some 4), .load false 1 (.tmp 3), none⟩,
    ⟨(some 5), .len 1 (.tmp 4), none⟩,
    ⟨(some 6), .bin .gtr (.tmp 5) (.const (.int .i64 0)) (some (.int .i64)), none⟩])
  (.cond (.tmp 6)
  (.seq (.ops [⟨(some 7), .fieldAddr 5 (.tmp 1), none⟩,
    ⟨(some 8), .load false 1 (.tmp 7), none⟩,
    ⟨(some 2), .mov (.tmp 8), none⟩])
  .ret)
  .skip))
  (.seq (.ops [⟨(some 9), .fieldAddr 4 (.tmp 1), none⟩,
    ⟨(some 10), .load false 1 (.tmp 9), none⟩,
    ⟨(some 2), .mov (.tmp 10), none⟩])
  .ret)))⟩
theorem F134_ok : compF Tryz.prog 134 = some F134 := by kernel_rfl

/-- colonnade/array.weights -/
def F137 : FC := ⟨207, [.tmp 6],
  (.seq (.ops [⟨(some 3), .box (.tmp 0), none⟩,
    ⟨(some 4), .box (.tmp 1), none⟩,
    ⟨(some 6), .mov (.const (.slice none 0 0)), none⟩])
  (.seq (.ops [⟨(some 19), .fieldAddr 2 (.tmp 3), none⟩,
    ⟨(some 20), .load true 5 (.tmp 19), none⟩,
    ⟨(some 7), .alloc [(.int .i64 0), (.int .i64 0), (.int .i64 0), (.int .i64 0), (.slice none 0 0)], none⟩,
    ⟨none, .store 5 (.tmp 7) (.tmp 20), none⟩])
  (.seq (.ops [⟨(some 21), .fieldAddr 0 (.tmp 4), none⟩,
    ⟨(some 22), .load false 1 (.tmp 21), none⟩,
    ⟨(some 23), .mkSlice 1 8 [(.int .i64 0)] (.tmp 22) (.tmp 22), none⟩,
    ⟨(some 8), .mov (.tmp 23), none⟩])
  (.seq (.ops [⟨(some 9), .mov (.const (.int .i64 0)), none⟩])
  (.seq (.seq (.ops [⟨(some 24), .mov (.tmp 8), none⟩,
    ⟨(some 25), .len 1 (.tmp 24), none⟩,
    ⟨(some 26), .mov (.const (.int .i64 0)), none⟩])
  (.block 0 (.loop (.seq (.ops [⟨(some 27), .bin .lss (.tmp 26) (.tmp 25) (some (.int .i64)), none⟩])
  (.seq (.cond (.tmp 27)
  .skip
  (.exit 0))
  (.seq (.block 1 (.seq (.ops [⟨(some 28), .mov (.tmp 26), none⟩,
    ⟨(some 10), .mov (.tmp 28), none⟩])
  (.seq (.ops [⟨(some 29), .fieldAddr 1 (.tmp 4), none⟩,
    ⟨(some 30), .load false 1 (.tmp 29), none⟩,
    ⟨(some 31), .mov (.tmp 10), none⟩,
    ⟨(some 32), .bin .add (.tmp 30) (.tmp 31) (some (.int .i64)), none⟩,
    ⟨(some 11), .mov (.tmp 32), none⟩])
  (.seq (.ops [⟨(some 33), .mov (.tmp 8), none⟩,
    ⟨(some 34), .mov (.tmp 10), none⟩,
    ⟨(some 35), .indexAddr 1 (.tmp 33) (.tmp 34), none⟩,
    ⟨none, .store 1 (.tmp 35) (.const (.int .i64 16)), none⟩])
  (.seq (.seq (.ops [⟨(some 36), .load true 7 (.tmp 3), none⟩,
    ⟨(some 37), .load true 6 (.tmp 4), none⟩,
    ⟨(some 38), .mov (.tmp 11), none⟩,
    ⟨(some 39), .call 172 [(.tmp 36), (.tmp 37), (.tmp 38)], none⟩])
  (.cond (.tmp 39)
  (.exit 1)
  .skip))
  (.seq (.ops [⟨(some 12), .mov (.const (.int .i64 0)), none⟩,
    ⟨(some 13), .mov (.const (.int .i64 0)), none⟩])
  (.seq (.seq (.ops [⟨(some 40), .fieldAddr 0 (.tmp 7), none⟩,
    ⟨(some 41), .load false 1 (.tmp 40), none⟩])
  (.block 2 (.seq (.ops [⟨(some 43), .bin .eql (.tmp 41) (.const (.int .i64 14)) (some (.int .i64)), none⟩,
    ⟨(some 42), .mov (.tmp 43), none⟩])
  (.cond (.tmp 42)
  (.ops [⟨(some 44), .mov (.tmp 8), none⟩,
    ⟨(some 45), .mov (.tmp 10), none⟩,
    ⟨(some 46), .indexAddr 1 (.tmp 44) (.tmp 45), none⟩,
    ⟨(some 47), .load false 1 (.tmp 46), none⟩,
    ⟨(some 48), .fieldAddr 1 (.tmp 7), none⟩,
    ⟨(some 49), .load false 1 (.tmp 48), none⟩,
    ⟨(some 50), .bin .add (.tmp 47) (.tmp 49) (some (.int .i64)), none⟩,
    ⟨(some 51), .indexAddr 1 (.tmp 44) (.tmp 45), none⟩,
    ⟨none, .store 1 (.tmp 51) (.tmp 50), none⟩])
  (.seq (.seq (.ops [⟨(some 53), .bin .eql (.tmp 41) (.const (.int .i64 12)) (some (.int .i64)), none⟩,
    ⟨(some 52), .mov (.tmp 53), none⟩])
  (.cond (.tmp 52)
  .skip
  (.ops [⟨(some 54), .bin .eql (.tmp 41) (.const (.int .i64 13)) (some (.int .i64)), none⟩,
    ⟨(some 52), .mov (.tmp 54), none⟩])))
  (.cond (.tmp 52)
  (.ops [⟨(some 55), .mov (.tmp 8), none⟩,
    ⟨(some 56), .mov (.tmp 10), none⟩,
    ⟨(some 57), .indexAddr 1 (.tmp 55) (.tmp 56), none⟩,
    ⟨(some 58), .load false 1 (.tmp 57), none⟩,
    ⟨(some 59), .fieldAddr 3 (.tmp 4), none⟩,
    ⟨(some 60), .load false 1 (.tmp 59), none⟩,
    ⟨(some 61), .indexAddr 1 (.tmp 60) (.const (.int .i64 1)), none⟩,
    ⟨(some 62), .load false 1 (.tmp 61), none⟩,
    ⟨(some 63), .mov (.tmp 11), none⟩,
    ⟨(some 64), .bin .add (.tmp 63) (.const (.int .i64 1)) (some (.int .i64)), none⟩,
    ⟨(some 66), .fieldAddr 3 (.tmp 4), none⟩,
    ⟨(some 67), .load false 1 (.tmp 66), none⟩,
    ⟨(some 68), .indexAddr 1 (.tmp 67) (.const (.int .i64 1)), none⟩,
    ⟨(some 69), .load false 1 (.tmp 68), none⟩,
    ⟨(some 70), .mov (.tmp 11), none⟩,
    ⟨(some 65), .call 171 [(.tmp 62), (.tmp 64)], none⟩,
    ⟨none, .again 69 false 1 (.tmp 68), none⟩,
    ⟨none, .again 67 false 1 (.tmp 66), none⟩,
    ⟨none, .again 58 false 1 (.tmp 57), none⟩,
    ⟨(some 71), .call 171 [(.tmp 69), (.tmp 70)], none⟩,
    ⟨none, .again 58 false 1 (.tmp 57), none⟩,
    ⟨(some 72), .bin .sub (.tmp 65) (.tmp 71) (some (.int .i64)), none⟩,
    ⟨(some 73), .bin .add (.tmp 58) (.tmp 72) (some (.int .i64)), none⟩,
    ⟨(some 74), .indexAddr 1 (.tmp 55) (.tmp 56), none⟩,
    ⟨none, .store 1 (.tmp 74) (.tmp 73), none⟩])
  (.seq (.ops [⟨(some 76), .bin .eql (.tmp 41) (.const (.int .i64 15)) (some (.int .i64)), none⟩,
    ⟨(some 75), .mov (.tmp 76), none⟩])
  (.cond (.tmp 75)
  (.ops [⟨(some 77), .fieldAddr 3 (.tmp 4), none⟩,
    ⟨(some 78), .load false 1 (.tmp 77), none⟩,
    ⟨(some 79), .indexAddr 1 (.tmp 78) (.const (.int .i64 1)), none⟩,
    ⟨(some 80), .load false 1 (.tmp 79), none⟩,
    ⟨(some 81), .mov (.tmp 11), none⟩,
    ⟨(some 83), .fieldAddr 3 (.tmp 4), none⟩,
    ⟨(some 84), .load false 1 (.tmp 83), none⟩,
    ⟨(some 85), .indexAddr 1 (.tmp 84) (.const (.int .i64 1)), none⟩,
    ⟨(some 86), .load false 1 (.tmp 85), none⟩,
    ⟨(some 87), .mov (.tmp 11), none⟩,
    ⟨(some 88), .bin .add (.tmp 87) (.const (.int .i64 1)) (some (.int .i64)), none⟩,
    ⟨(some 82), .call 171 [(.tmp 80), (.tmp 81)], none⟩,
    ⟨none, .again 86 false 1 (.tmp 85), none⟩,
    ⟨none, .again 84 false 1 (.tmp 83), none⟩,
    ⟨(some 89), .call 171 [(.tmp 86), (.tmp 88)], none⟩,
    ⟨(some 12), .mov (.tmp 82), none⟩,
    ⟨(some 13), .mov (.tmp 89), none⟩])
  (.seq (.ops [⟨(some 91), .bin .eql (.tmp 41) (.const (.int .i64 16)) (some (.int .i64)), none⟩,
    ⟨(some 90), .mov (.tmp 91), none⟩])
  (.cond (.tmp 90)
  (.ops [⟨(some 92), .mov (.tmp 11), none⟩,
    ⟨(some 93), .fieldAddr 1 (.tmp 7), none⟩,
    ⟨(some 94), .load false 1 (.tmp 93), none⟩,
    ⟨(some 95), .bin .mul (.tmp 92) (.tmp 94) (some (.int .i64)), none⟩,
    ⟨(some 96), .mov (.tmp 11), none⟩,
    ⟨(some 97), .bin .add (.tmp 96) (.const (.int .i64 1)) (some (.int .i64)), none⟩,
    ⟨(some 98), .fieldAddr 1 (.tmp 7), none⟩,
    ⟨(some 99), .load false 1 (.tmp 98), none⟩,
    ⟨(some 100), .bin .mul (.tmp 97) (.tmp 99) (some (.int .i64)), none⟩,
    ⟨(some 12), .mov (.tmp 95), none⟩,
    ⟨(some 13), .mov (.tmp 100), none⟩])
  (.seq (.ops [⟨(some 102), .bin .eql (.tmp 41) (.const (.int .i64 17)) (some (.int .i64)), none⟩,
    ⟨(some 101), .mov (.tmp 102), none⟩])
  (.cond (.tmp 101)
  (.seq (.ops [⟨(some 103), .mov (.tmp 2), none⟩,
    ⟨(some 104), .len 1 (.tmp 103), none⟩,
    ⟨(some 105), .mov (.const (.int .i64 0)), none⟩])
  (.block 3 (.loop (.seq (.ops [⟨(some 106), .bin .lss (.tmp 105) (.tmp 104) (some (.int .i64)), none⟩])
  (.seq (.cond (.tmp 106)
  .skip
  (.exit 3))
  (.seq (.block 4 (.seq (.ops [⟨(some 107), .indexAddr 1 (.tmp 103) (.tmp 105), none⟩,
    ⟨(some 108), .load false 1 (.tmp 107), none⟩,
    ⟨(some 15), .mov (.tmp 108), none⟩])
  (.ops [⟨(some 109), .mov (.tmp 8), none⟩,
    ⟨(some 110), .mov (.tmp 10), none⟩,
    ⟨(some 111), .indexAddr 1 (.tmp 109) (.tmp 110), none⟩,
    ⟨(some 112), .load false 1 (.tmp 111), none⟩,
    ⟨(some 113), .mov (.tmp 15), none⟩,
    ⟨(some 114), .mov (.tmp 11), none⟩,
    ⟨(some 115), .indexAddr 1 (.tmp 113) (.tmp 114), none⟩,
    ⟨(some 116), .load false 1 (.tmp 115), none⟩,
    ⟨(some 117), .bin .add (.tmp 112) (.tmp 116) (some (.int .i64)), none⟩,
    ⟨(some 118), .indexAddr 1 (.tmp 109) (.tmp 110), none⟩,
    ⟨none, .store 1 (.tmp 118) (.tmp 117), none⟩])))
  (.ops [⟨(some 119), .bin .add (.tmp 105) (.const (.int .i64 1)) (some (.int .i64)), none⟩,
    ⟨(some 105), .mov (.tmp 119), none⟩])))))))
  (.seq (.ops [⟨(some 121), .bin .eql (.tmp 41) (.const (.int .i64 18)) (some (.int .i64)), none⟩,
    ⟨(some 120), .mov (.tmp 121), none⟩])
  (.cond (.tmp 120)
  (.ops [⟨(some 122), .mov (.tmp 8), none⟩,
    ⟨(some 123), .mov (.tmp 10), none⟩,
    ⟨(some 124), .indexAddr 1 (.tmp 122) (.tmp 123), none⟩,
    ⟨(some 125), .load false 1 (.tmp 124), none⟩,
    ⟨(some 126), .mov (.tmp 2), none⟩,
    ⟨(some 127), .fieldAddr 3 (.tmp 4), none⟩,
    ⟨(some 128), .load false 1 (.tmp 127), none⟩,
    ⟨(some 129), .indexAddr 1 (.tmp 128) (.const (.int .i64 0)), none⟩,
    ⟨(some 130), .load false 1 (.tmp 129), none⟩,
    ⟨(some 131), .mov (.tmp 11), none⟩,
    ⟨(some 132), .indexAddr 1 (.tmp 130) (.tmp 131), none⟩,
    ⟨(some 133), .load false 1 (.tmp 132), none⟩,
    ⟨(some 134), .indexAddr 1 (.tmp 126) (.tmp 133), none⟩,
    ⟨(some 135), .load false 1 (.tmp 134), none⟩,
    ⟨(some 136), .fieldAddr 3 (.tmp 4), none⟩,
    ⟨(some 137), .load false 1 (.tmp 136), none⟩,
    ⟨(some 138), .indexAddr 1 (.tmp 137) (.const (.int .i64 1)), none⟩,
    ⟨(some 139), .load false 1 (.tmp 138), none⟩,
    ⟨(some 140), .mov (.tmp 11), none⟩,
    ⟨(some 141), .call 171 [(.tmp 139), (.tmp 140)], none⟩,
    ⟨none, .again 135 false 1 (.tmp 134), none⟩,
    ⟨none, .again 133 false 1 (.tmp 132), none⟩,
    ⟨none, .again 130 false 1 (.tmp 129), none⟩,
    ⟨none, .again 128 false 1 (.tmp 127), none⟩,
    ⟨none, .again 125 false 1 (.tmp 124), none⟩,
    ⟨(some 142), .indexAddr 1 (.tmp 135) (.tmp 141), none⟩,
    ⟨(some 143), .load false 1 (.tmp 142), none⟩,
    ⟨(some 144), .bin .add (.tmp 125) (.tmp 143) (some (.int .i64)), none⟩,
    ⟨(some 145), .indexAddr 1 (.tmp 122) (.tmp 123), none⟩,
    ⟨none, .store 1 (.tmp 145) (.tmp 144), none⟩])
  (.seq (.ops [⟨(some 147), .bin .eql (.tmp 41) (.const (.int .i64 19)) (some (.int .i64)), none⟩,
    ⟨(some 146), .mov (.tmp 147), none⟩])
  (.cond (.tmp 146)
  (.ops [⟨(some 148), .mov (.tmp 8), none⟩,
    ⟨(some 149), .mov (.tmp 10), none⟩,
    ⟨(some 150), .mov (.tmp 2), none⟩,
    ⟨(some 151), .indexAddr 1 (.tmp 150) (.const (.int .i64 0)), none⟩,
    ⟨(some 152), .load false 1 (.tmp 151), none⟩,
    ⟨(some 153), .load true 7 (.tmp 3), none⟩,
    ⟨(some 154), .load true 6 (.tmp 4), none⟩,
    ⟨(some 155), .mov (.tmp 11), none⟩,
    ⟨(some 156), .call 173 [(.tmp 153), (.tmp 154), (.tmp 155)], none⟩,
    ⟨none, .again 152 false 1 (.tmp 151), none⟩,
    ⟨(some 157), .indexAddr 1 (.tmp 152) (.tmp 156), none⟩,
    ⟨(some 158), .load false 1 (.tmp 157), none⟩,
    ⟨(some 159), .indexAddr 1 (.tmp 148) (.tmp 149), none⟩,
    ⟨none, .store 1 (.tmp 159) (.tmp 158), none⟩])
  (.seq (.ops [⟨(some 161), .bin .eql (.tmp 41) (.const (.int .i64 20)) (some (.int .i64)), none⟩,
    ⟨(some 160), .mov (.tmp 161), none⟩])
  (.cond (.tmp 160)
  (.seq (.ops [⟨(some 162), .fieldAddr 4 (.tmp 4), none⟩,
    ⟨(some 163), .load false 1 (.tmp 162), none⟩,
    ⟨(some 164), .indexAddr 6 (.tmp 163) (.const (.int .i64 0)), none⟩,
    ⟨(some 165), .load true 6 (.tmp 164), none⟩,
    ⟨(some 16), .alloc [(.int .i64 0), (.int .i64 0), (.int .i64 0), (.slice none 0 0), (.slice none 0 0), (.slice none 0 0)], none⟩,
    ⟨none, .store 6 (.tmp 16) (.tmp 165), none⟩])
  (.seq (.block 5 (.loop (.seq (.seq (.ops [⟨(some 166), .fieldAddr 3 (.tmp 16), none⟩,
    ⟨(some 167), .load false 1 (.tmp 166), none⟩,
    ⟨(some 168), .indexAddr 1 (.tmp 167) (.const (.int .i64 1)), none⟩,
    ⟨(some 169), .load false 1 (.tmp 168), none⟩,
    ⟨(some 170), .fieldAddr 1 (.tmp 16), none⟩,
    ⟨(some 171), .load false 1 (.tmp 170), none⟩,
    ⟨(some 172), .mov (.tmp 9), none⟩,
    ⟨(some 173), .bin .add (.tmp 171) (.tmp 172) (some (.int .i64)), none⟩,
    ⟨(some 175), .mov (.tmp 11), none⟩,
    ⟨(some 174), .call 171 [(.tmp 169), (.tmp 173)], none⟩,
    ⟨(some 176), .bin .leq (.tmp 174) (.tmp 175) (some (.int .i64)), none⟩])
  (.cond (.tmp 176)
  .skip
  (.exit 5)))
  (.block 6 (.ops [⟨(some 177), .mov (.tmp 9), none⟩,
    ⟨(some 178), .bin .add (.tmp 177) (.const (.int .i64 1)) (some (.int .i64)), none⟩,
    ⟨(some 9), .mov (.tmp 178), none⟩])))))
  (.ops [⟨(some 179), .mov (.tmp 8), none⟩,
    ⟨(some 180), .mov (.tmp 10), none⟩,
    ⟨(some 181), .mov (.tmp 2), none⟩,
    ⟨(some 182), .indexAddr 1 (.tmp 181) (.const (.int .i64 1)), none⟩,
    ⟨(some 183), .load false 1 (.tmp 182), none⟩,
    ⟨(some 184), .mov (.tmp 9), none⟩,
    ⟨(some 185), .indexAddr 1 (.tmp 183) (.tmp 184), none⟩,
    ⟨(some 186), .load false 1 (.tmp 185), none⟩,
    ⟨(some 187), .indexAddr 1 (.tmp 179) (.tmp 180), none⟩,
    ⟨none, .store 1 (.tmp 187) (.tmp 186), none⟩])))
  .skip))))))))))))))))))
  (.seq (.ops [⟨(some 188), .mov (.tmp 2), none⟩,
    ⟨(some 189), .mov (.tmp 12), none⟩,
    ⟨(some 190), .mov (.tmp 13), none⟩,
    ⟨(some 191), .call 174 [(.tmp 188), (.tmp 189), (.tmp 190)], none⟩,
    ⟨(some 192), .len 1 (.tmp 191), none⟩,
    ⟨(some 193), .mov (.const (.int .i64 0)), none⟩])
  (.block 7 (.loop (.seq (.ops [⟨(some 194), .bin .lss (.tmp 193) (.tmp 192) (some (.int .i64)), none⟩])
  (.seq (.cond (.tmp 194)
  .skip
  (.exit 7))
  (.seq (.block 8 (.seq (.ops [⟨(some 195), .indexAddr 1 (.tmp 191) (.tmp 193), none⟩,
    ⟨(some 196), .load false 1 (.tmp 195), none⟩,
    ⟨(some 18), .mov (.tmp 196), none⟩])
  (.ops [⟨(some 197), .mov (.tmp 8), none⟩,
    ⟨(some 198), .mov (.tmp 10), none⟩,
    ⟨(some 199), .indexAddr 1 (.tmp 197) (.tmp 198), none⟩,
    ⟨(some 200), .load false 1 (.tmp 199), none⟩,
    ⟨(some 201), .mov (.tmp 18), none⟩,
    ⟨(some 202), .bin .add (.tmp 200) (.tmp 201) (some (.int .i64)), none⟩,
    ⟨(some 203), .indexAddr 1 (.tmp 197) (.tmp 198), none⟩,
    ⟨none, .store 1 (.tmp 203) (.tmp 202), none⟩])))
  (.ops [⟨(some 204), .bin .add (.tmp 193) (.const (.int .i64 1)) (some (.int .i64)), none⟩,
    ⟨(some 193), .mov (.tmp 204), none⟩]))))))))))))))
  (.ops [⟨(some 205), .bin .add (.tmp 26) (.const (.int .i64 1)) (some (.int .i64)), none⟩,
    ⟨(some 26), .mov (.tmp 205), none⟩])))))))
  (.seq (.ops [⟨(some 206), .mov (.tmp 8), none⟩,
    ⟨(some 6), .mov (.tmp 206), none⟩])
  .ret))))))⟩
theorem F137_ok : compF Tryz.prog 137 = some F137 := by kernel_rfl

/-- (*colonnade/array.Array).own -/
def F139 : FC := ⟨16, [.cell 6 true 4],
  (.seq (.ops [⟨(some 6), .alloc [(.bool false), (.int .i64 0), (.string ⟨#[]⟩), (.slice none 0 0)], none⟩])
  (.seq (.ops [⟨(some 7), .mov (.tmp 0), none⟩,
    ⟨(some 8), .mov (.tmp 0), none⟩,
    ⟨(some 9), .nilCheck (.tmp 8), none⟩,
    ⟨(some 10), .fieldAddr 13 (.tmp 9), none⟩,
    ⟨(some 11), .load false 1 (.tmp 10), none⟩,
    ⟨(some 12), .mov (.tmp 1), none⟩,
    ⟨(some 13), .bin .add (.tmp 11) (.tmp 12) (some (.int .i64)), none⟩,
    ⟨(some 14), .mov (.tmp 2), none⟩,
    ⟨(some 15), .call 175 [(.tmp 7), (.tmp 13), (.tmp 14)], none⟩,
    ⟨none, .store 4 (.tmp 6) (.tmp 15), none⟩])
  .ret))⟩
theorem F139_ok : compF Tryz.prog 139 = some F139 := by kernel_rfl

/-- colonnade/value.Zero -/
def F140 : FC := ⟨16, [.cell 2 true 4, .tmp 3],
  (.seq (.ops [⟨(some 1), .box (.tmp 0), none⟩,
    ⟨(some 2), .alloc [(.bool false), (.int .i64 0), (.string ⟨#[]⟩), (.slice none 0 0)], none⟩,
    ⟨(some 3), .mov (.const (.int .i64 0)), none⟩])
  (.seq (.block 0 (.seq (.ops [⟨(some 5), .load true 7 (.tmp 1), none⟩,
    ⟨(some 6), .call 84 [(.tmp 5)], none⟩,
    ⟨(some 7), .un .not (.tmp 6), none⟩,
    ⟨(some 4), .mov (.tmp 7), none⟩])
  (.cond (.tmp 4)
  (.seq (.ops [⟨(some 8), .build [(.bool false), (.int .i64 0), (.string ⟨#[]⟩), (.slice none 0 0)] [], none⟩,
    ⟨none, .store 4 (.tmp 2) (.tmp 8), none⟩,
    ⟨(some 3), .mov (.const (.int .i64 5)), none⟩])
  .ret)
  (.seq (.ops [⟨(some 10), .load true 7 (.tmp 1), none⟩,
    ⟨(some 11), .call 176 [(.tmp 10)], none⟩,
    ⟨(some 12), .bin .gtr (.tmp 11) (.const (.int .i64 4194304)) (some (.int .i64)), none⟩,
    ⟨(some 9), .mov (.tmp 12), none⟩])
  (.cond (.tmp 9)
  (.seq (.ops [⟨(some 13), .build [(.bool false), (.int .i64 0), (.string ⟨#[]⟩), (.slice none 0 0)] [], none⟩,
    ⟨none, .store 4 (.tmp 2) (.tmp 13), none⟩,
    ⟨(some 3), .mov (.const (.int .i64 3)), none⟩])
  .ret)
  .skip)))))
  (.seq (.ops [⟨(some 14), .load true 7 (.tmp 1), none⟩,
    ⟨(some 15), .call 177 [(.tmp 14)], none⟩,
    ⟨none, .store 4 (.tmp 2) (.tmp 15), none⟩,
    ⟨(some 3), .mov (.const (.int .i64 0)), none⟩])
  .ret)))⟩
theorem F140_ok : compF Tryz.prog 140 = some F140 := by kernel_rfl

/-- colonnade/long.words -/
def F141 : FC := ⟨10, [.tmp 2],
  (.seq (.ops [⟨(some 2), .mov (.const (.slice none 0 0)), none⟩])
  (.seq (.ops [⟨(some 3), .mov (.tmp 0), none⟩,
    ⟨(some 4), .conv .u32 (.tmp 3), none⟩,
    ⟨(some 5), .mov (.tmp 0), none⟩,
    ⟨(some 6), .bin .shr (.tmp 5) (.const (.int .u64 32)) (some (.int .u64)), none⟩,
    ⟨(some 7), .conv .u32 (.tmp 6), none⟩,
    ⟨(some 8), .buildSlice 1 2 [(.int .u32 0), (.int .u32 0)] [(0, 1, (.tmp 4)), (1, 1, (.tmp 7))], none⟩,
    ⟨(some 9), .call 146 [(.tmp 8)], none⟩,
    ⟨(some 2), .mov (.tmp 9), none⟩])
  .ret))⟩
theorem F141_ok : compF Tryz.prog 141 = some F141 := by kernel_rfl

/-- (*colonnade/long.Int).SetInt64 -/
def F142 : FC := ⟨18, [.tmp 4],
  (.seq (.ops [⟨(some 4), .mov (.const (.pointer none)), none⟩])
  (.seq (.ops [⟨(some 6), .mov (.tmp 1), none⟩,
    ⟨(some 7), .conv .u64 (.tmp 6), none⟩,
    ⟨(some 5), .mov (.tmp 7), none⟩])
  (.seq (.seq (.ops [⟨(some 8), .mov (.tmp 1), none⟩,
    ⟨(some 9), .bin .lss (.tmp 8) (.const (.int .i64 0)) (some (.int .i64)), none⟩])
  (.cond (.tmp 9)
  (.ops [⟨(some 10), .mov (.tmp 5), none⟩,
    ⟨(some 11), .un .neg (.tmp 10), none⟩,
    ⟨(some 5), .mov (.tmp 11), none⟩])
  .skip))
  (.seq (.ops [⟨(some 12), .mov (.tmp 0), none⟩,
    ⟨(some 13), .mov (.tmp 1), none⟩,
    ⟨(some 14), .bin .lss (.tmp 13) (.const (.int .i64 0)) (some (.int .i64)), none⟩,
    ⟨(some 15), .mov (.tmp 5), none⟩,
    ⟨(some 16), .call 141 [(.tmp 15)], none⟩,
    ⟨(some 17), .call 103 [(.tmp 12), (.tmp 14), (.tmp 16)], none⟩,
    ⟨(some 4), .mov (.tmp 17), none⟩])
  .ret))))⟩
theorem F142_ok : compF Tryz.prog 142 = some F142 := by kernel_rfl

/-- colonnade/long.cmp -/
def F144 : FC := ⟨41, [.tmp 4],
  (.seq (.ops [⟨(some 4), .mov (.const (.int .i64 0)), none⟩])
  (.seq (.seq (.ops [⟨(some 6), .mov (.tmp 0), none⟩,
    ⟨(some 7), .len 1 (.tmp 6), none⟩,
    ⟨(some 8), .mov (.tmp 1), none⟩,
    ⟨(some 9), .len 1 (.tmp 8), none⟩,
    ⟨(some 10), .bin .neq (.tmp 7) (.tmp 9) (some (.int .i64)), none⟩])
  (.cond (.tmp 10)
  (.seq (.seq (.ops [⟨(some 11), .mov (.tmp 0), none⟩,
    ⟨(some 12), .len 1 (.tmp 11), none⟩,
    ⟨(some 13), .mov (.tmp 1), none⟩,
    ⟨(some 14), .len 1 (.tmp 13), none⟩,
    ⟨(some 15), .bin .lss (.tmp 12) (.tmp 14) (some (.int .i64)), none⟩])
  (.cond (.tmp 15)
  (.seq (.ops [⟨(some 4), .mov (.const (.int .i64 (-1))), none⟩])
  .ret)
  .skip))
  (.seq (.ops [⟨(some 4), .mov (.const (.int .i64 1)), none⟩])
  .ret))
  .skip))
  (.seq (.seq (.ops [⟨(some 16), .mov (.tmp 0), none⟩,
    ⟨(some 17), .len 1 (.tmp 16), none⟩,
    ⟨(some 18), .bin .sub (.tmp 17) (.const (.int .i64 1)) (some (.int .i64)), none⟩,
    ⟨(some 5), .mov (.tmp 18), none⟩])
  (.block 0 (.loop (.seq (.seq (.ops [⟨(some 19), .mov (.tmp 5), none⟩,
    ⟨(some 20), .bin .geq (.tmp 19) (.const (.int .i64 0)) (some (.int .i64)), none⟩])
  (.cond (.tmp 20)
  .skip
  (.exit 0)))
  (.seq (.block 1 (.seq (.ops [⟨(some 23), .mov (.tmp 0), none⟩,
    ⟨(some 24), .mov (.tmp 5), none⟩,
    ⟨(some 25), .indexAddr 1 (.tmp 23) (.tmp 24), none⟩,
    ⟨(some 26), .load false 1 (.tmp 25), none⟩,
    ⟨(some 27), .mov (.tmp 1), none⟩,
    ⟨(some 28), .mov (.tmp 5), none⟩,
    ⟨(some 29), .indexAddr 1 (.tmp 27) (.tmp 28), none⟩,
    ⟨(some 30), .load false 1 (.tmp 29), none⟩,
    ⟨(some 31), .bin .neq (.tmp 26) (.tmp 30) (some (.int .u32)), none⟩])
  (.cond (.tmp 31)
  (.seq (.seq (.ops [⟨(some 32), .mov (.tmp 0), none⟩,
    ⟨(some 33), .mov (.tmp 5), none⟩,
    ⟨(some 34), .indexAddr 1 (.tmp 32) (.tmp 33), none⟩,
    ⟨(some 35), .load false 1 (.tmp 34), none⟩,
    ⟨(some 36), .mov (.tmp 1), none⟩,
    ⟨(some 37), .mov (.tmp 5), none⟩,
    ⟨(some 38), .indexAddr 1 (.tmp 36) (.tmp 37), none⟩,
    ⟨(some 39), .load false 1 (.tmp 38), none⟩,
    ⟨(some 40), .bin .lss (.tmp 35) (.tmp 39) (some (.int .u32)), none⟩])
  (.cond (.tmp 40)
  (.seq (.ops [⟨(some 4), .mov (.const (.int .i64 (-1))), none⟩])
  .ret)
  .skip))
  (.seq (.ops [⟨(some 4), .mov (.const (.int .i64 1)), none⟩])
  .ret))
  .skip)))
  (.ops [⟨(some 21), .mov (.tmp 5), none⟩,
    ⟨(some 22), .bin .sub (.tmp 21) (.const (.int .i64 1)) (some (.int .i64)), none⟩,
    ⟨(some 5), .mov (.tmp 22), none⟩]))))))
  (.seq (.ops [⟨(some 4), .mov (.const (.int .i64 0)), none⟩])
  .ret))))⟩
theorem F144_ok : compF Tryz.prog 144 = some F144 := by kernel_rfl

/-- colonnade/long.trim -/
def F146 : FC := ⟨21, [.tmp 2],
  (.seq (.ops [⟨(some 2), .mov (.const (.slice none 0 0)), none⟩])
  (.seq (.ops [⟨(some 4), .mov (.tmp 0), none⟩,
    ⟨(some 5), .len 1 (.tmp 4), none⟩,
    ⟨(some 3), .mov (.tmp 5), none⟩])
  (.seq (.block 0 (.loop (.seq (.seq (.ops [⟨(some 6), .mov (.tmp 3), none⟩,
    ⟨(some 7), .bin .gtr (.tmp 6) (.const (.int .i64 0)) (some (.int .i64)), none⟩,
    ⟨(some 8), .mov (.tmp 7), none⟩,
    ⟨(some 9), .mov (.tmp 0), (some (8, true))⟩,
    ⟨(some 10), .mov (.tmp 3), (some (8, true))⟩,
    ⟨(some 11), .bin .sub (.tmp 10) (.const (.int .i64 1)) (some (.int .i64)), (some (8, true))⟩,
    ⟨(some 12), .indexAddr 1 (.tmp 9) (.tmp 11), (some (8, true))⟩,
    ⟨(some 13), .load false 1 (.tmp 12), (some (8, true))⟩,
    ⟨(some 14), .bin .eql (.tmp 13) (.const (.int .u32 0)) (some (.int .u32)), (some (8, true))⟩,
    ⟨(some 15), .pick (.tmp 8) (.tmp 14) (.const (.bool false)), none⟩])
  (.cond (.tmp 15)
  .skip
  (.exit 0)))
  (.block 1 (.ops [⟨(some 16), .mov (.tmp 3), none⟩,
    ⟨(some 17), .bin .sub (.tmp 16) (.const (.int .i64 1)) (some (.int .i64)), none⟩,
    ⟨(some 3), .mov (.tmp 17), none⟩])))))
  (.seq (.ops [⟨(some 18), .mov (.tmp 0), none⟩,
    ⟨(some 19), .mov (.tmp 3), none⟩,
    ⟨(some 20), .slice 1 (.tmp 18) none (some (.tmp 19)) none, none⟩,
    ⟨(some 2), .mov (.tmp 20), none⟩])
  .ret))))⟩
theorem F146_ok : compF Tryz.prog 146 = some F146 := by kernel_rfl

/-- colonnade/long.left -/
def F148 : FC := ⟨61, [.tmp 4],
  (.seq (.ops [⟨(some 4), .mov (.const (.slice none 0 0)), none⟩])
  (.seq (.seq (.ops [⟨(some 10), .mov (.tmp 0), none⟩,
    ⟨(some 11), .len 1 (.tmp 10), none⟩,
    ⟨(some 12), .bin .eql (.tmp 11) (.const (.int .i64 0)) (some (.int .i64)), none⟩])
  (.cond (.tmp 12)
  (.seq (.ops [⟨(some 4), .mov (.const (.slice none 0 0)), none⟩])
  .ret)
  .skip))
  (.seq (.ops [⟨(some 13), .mov (.tmp 1), none⟩,
    ⟨(some 14), .bin .quo (.tmp 13) (.const (.int .u64 32)) (some (.int .u64)), none⟩,
    ⟨(some 15), .conv .i64 (.tmp 14), none⟩,
    ⟨(some 16), .mov (.tmp 1), none⟩,
    ⟨(some 17), .bin .rem (.tmp 16) (.const (.int .u64 32)) (some (.int .u64)), none⟩,
    ⟨(some 5), .mov (.tmp 15), none⟩,
    ⟨(some 6), .mov (.tmp 17), none⟩])
  (.seq (.ops [⟨(some 18), .mov (.tmp 0), none⟩,
    ⟨(some 19), .len 1 (.tmp 18), none⟩,
    ⟨(some 20), .mov (.tmp 5), none⟩,
    ⟨(some 21), .bin .add (.tmp 19) (.tmp 20) (some (.int .i64)), none⟩,
    ⟨(some 22), .bin .add (.tmp 21) (.const (.int .i64 1)) (some (.int .i64)), none⟩,
    ⟨(some 23), .mkSlice 1 4 [(.int .u32 0)] (.tmp 22) (.tmp 22), none⟩,
    ⟨(some 7), .mov (.tmp 23), none⟩])
  (.seq (.seq (.ops [⟨(some 8), .mov (.const (.int .i64 0)), none⟩])
  (.block 0 (.loop (.seq (.seq (.ops [⟨(some 24), .mov (.tmp 8), none⟩,
    ⟨(some 25), .mov (.tmp 0), none⟩,
    ⟨(some 26), .len 1 (.tmp 25), none⟩,
    ⟨(some 27), .bin .lss (.tmp 24) (.tmp 26) (some (.int .i64)), none⟩])
  (.cond (.tmp 27)
  .skip
  (.exit 0)))
  (.seq (.block 1 (.seq (.ops [⟨(some 30), .mov (.tmp 0), none⟩,
    ⟨(some 31), .mov (.tmp 8), none⟩,
    ⟨(some 32), .indexAddr 1 (.tmp 30) (.tmp 31), none⟩,
    ⟨(some 33), .load false 1 (.tmp 32), none⟩,
    ⟨(some 34), .conv .u64 (.tmp 33), none⟩,
    ⟨(some 35), .mov (.tmp 6), none⟩,
    ⟨(some 36), .bin .shl (.tmp 34) (.tmp 35) (some (.int .u64)), none⟩,
    ⟨(some 9), .mov (.tmp 36), none⟩])
  (.seq (.ops [⟨(some 37), .mov (.tmp 7), none⟩,
    ⟨(some 38), .mov (.tmp 8), none⟩,
    ⟨(some 39), .mov (.tmp 5), none⟩,
    ⟨(some 40), .bin .add (.tmp 38) (.tmp 39) (some (.int .i64)), none⟩,
    ⟨(some 41), .indexAddr 1 (.tmp 37) (.tmp 40), none⟩,
    ⟨(some 42), .load false 1 (.tmp 41), none⟩,
    ⟨(some 43), .mov (.tmp 9), none⟩,
    ⟨(some 44), .conv .u32 (.tmp 43), none⟩,
    ⟨(some 45), .bin .or (.tmp 42) (.tmp 44) (some (.int .u32)), none⟩,
    ⟨(some 46), .indexAddr 1 (.tmp 37) (.tmp 40), none⟩,
    ⟨none, .store 1 (.tmp 46) (.tmp 45), none⟩])
  (.ops [⟨(some 47), .mov (.tmp 7), none⟩,
    ⟨(some 48), .mov (.tmp 8), none⟩,
    ⟨(some 49), .mov (.tmp 5), none⟩,
    ⟨(some 50), .bin .add (.tmp 48) (.tmp 49) (some (.int .i64)), none⟩,
    ⟨(some 51), .bin .add (.tmp 50) (.const (.int .i64 1)) (some (.int .i64)), none⟩,
    ⟨(some 52), .indexAddr 1 (.tmp 47) (.tmp 51), none⟩,
    ⟨(some 53), .load false 1 (.tmp 52), none⟩,
    ⟨(some 54), .mov (.tmp 9), none⟩,
    ⟨(some 55), .bin .shr (.tmp 54) (.const (.int .u64 32)) (some (.int .u64)), none⟩,
    ⟨(some 56), .conv .u32 (.tmp 55), none⟩,
    ⟨(some 57), .bin .or (.tmp 53) (.tmp 56) (some (.int .u32)), none⟩,
    ⟨(some 58), .indexAddr 1 (.tmp 47) (.tmp 51), none⟩,
    ⟨none, .store 1 (.tmp 58) (.tmp 57), none⟩]))))
  (.ops [⟨(some 28), .mov (.tmp 8), none⟩,
    ⟨(some 29), .bin .add (.tmp 28) (.const (.int .i64 1)) (some (.int .i64)), none⟩,
    ⟨(some 8), .mov (.tmp 29), none⟩]))))))
  (.seq (.ops [⟨(some 59), .mov (.tmp 7), none⟩,
    ⟨(some 60), .call 146 [(.tmp 59)], none⟩,
    ⟨(some 4), .mov (.tmp 60), none⟩])
  .ret))))))⟩
theorem F148_ok : compF Tryz.prog 148 = some F148 := by kernel_rfl

/-- colonnade/long.right -/
def F149 : FC := ⟨64, [.tmp 4],
  (.seq (.ops [⟨(some 4), .mov (.const (.slice none 0 0)), none⟩])
  (.seq (.ops [⟨(some 10), .mov (.tmp 1), none⟩,
    ⟨(some 11), .bin .quo (.tmp 10) (.const (.int .u64 32)) (some (.int .u64)), none⟩,
    ⟨(some 12), .conv .i64 (.tmp 11), none⟩,
    ⟨(some 13), .mov (.tmp 1), none⟩,
    ⟨(some 14), .bin .rem (.tmp 13) (.const (.int .u64 32)) (some (.int .u64)), none⟩,
    ⟨(some 5), .mov (.tmp 12), none⟩,
    ⟨(some 6), .mov (.tmp 14), none⟩])
  (.seq (.seq (.ops [⟨(some 15), .mov (.tmp 5), none⟩,
    ⟨(some 16), .mov (.tmp 0), none⟩,
    ⟨(some 17), .len 1 (.tmp 16), none⟩,
    ⟨(some 18), .bin .geq (.tmp 15) (.tmp 17) (some (.int .i64)), none⟩])
  (.cond (.tmp 18)
  (.seq (.ops [⟨(some 4), .mov (.const (.slice none 0 0)), none⟩])
  .ret)
  .skip))
  (.seq (.ops [⟨(some 19), .mov (.tmp 0), none⟩,
    ⟨(some 20), .len 1 (.tmp 19), none⟩,
    ⟨(some 21), .mov (.tmp 5), none⟩,
    ⟨(some 22), .bin .sub (.tmp 20) (.tmp 21) (some (.int .i64)), none⟩,
    ⟨(some 23), .mkSlice 1 4 [(.int .u32 0)] (.tmp 22) (.tmp 22), none⟩,
    ⟨(some 7), .mov (.tmp 23), none⟩])
  (.seq (.seq (.ops [⟨(some 8), .mov (.const (.int .i64 0)), none⟩])
  (.block 0 (.loop (.seq (.seq (.ops [⟨(some 24), .mov (.tmp 8), none⟩,
    ⟨(some 25), .mov (.tmp 7), none⟩,
    ⟨(some 26), .len 1 (.tmp 25), none⟩,
    ⟨(some 27), .bin .lss (.tmp 24) (.tmp 26) (some (.int .i64)), none⟩])
  (.cond (.tmp 27)
  .skip
  (.exit 0)))
  (.seq (.block 1 (.seq (.ops [⟨(some 30), .mov (.tmp 0), none⟩,
    ⟨(some 31), .mov (.tmp 8), none⟩,
    ⟨(some 32), .mov (.tmp 5), none⟩,
    ⟨(some 33), .bin .add (.tmp 31) (.tmp 32) (some (.int .i64)), none⟩,
    ⟨(some 34), .indexAddr 1 (.tmp 30) (.tmp 33), none⟩,
    ⟨(some 35), .load false 1 (.tmp 34), none⟩,
    ⟨(some 36), .conv .u64 (.tmp 35), none⟩,
    ⟨(some 9), .mov (.tmp 36), none⟩])
  (.seq (.seq (.ops [⟨(some 37), .mov (.tmp 8), none⟩,
    ⟨(some 38), .mov (.tmp 5), none⟩,
    ⟨(some 39), .bin .add (.tmp 37) (.tmp 38) (some (.int .i64)), none⟩,
    ⟨(some 40), .bin .add (.tmp 39) (.const (.int .i64 1)) (some (.int .i64)), none⟩,
    ⟨(some 41), .mov (.tmp 0), none⟩,
    ⟨(some 42), .len 1 (.tmp 41), none⟩,
    ⟨(some 43), .bin .lss (.tmp 40) (.tmp 42) (some (.int .i64)), none⟩])
  (.cond (.tmp 43)
  (.ops [⟨(some 44), .mov (.tmp 9), none⟩,
    ⟨(some 45), .mov (.tmp 0), none⟩,
    ⟨(some 46), .mov (.tmp 8), none⟩,
    ⟨(some 47), .mov (.tmp 5), none⟩,
    ⟨(some 48), .bin .add (.tmp 46) (.tmp 47) (some (.int .i64)), none⟩,
    ⟨(some 49), .bin .add (.tmp 48) (.const (.int .i64 1)) (some (.int .i64)), none⟩,
    ⟨(some 50), .indexAddr 1 (.tmp 45) (.tmp 49), none⟩,
    ⟨(some 51), .load false 1 (.tmp 50), none⟩,
    ⟨(some 52), .conv .u64 (.tmp 51), none⟩,
    ⟨(some 53), .bin .shl (.tmp 52) (.const (.int .u64 32)) (some (.int .u64)), none⟩,
    ⟨(some 54), .bin .or (.tmp 44) (.tmp 53) (some (.int .u64)), none⟩,
    ⟨(some 9), .mov (.tmp 54), none⟩])
  .skip))
  (.ops [⟨(some 55), .mov (.tmp 7), none⟩,
    ⟨(some 56), .mov (.tmp 8), none⟩,
    ⟨(some 57), .mov (.tmp 9), none⟩,
    ⟨(some 58), .mov (.tmp 6), none⟩,
    ⟨(some 59), .bin .shr (.tmp 57) (.tmp 58) (some (.int .u64)), none⟩,
    ⟨(some 60), .conv .u32 (.tmp 59), none⟩,
    ⟨(some 61), .indexAddr 1 (.tmp 55) (.tmp 56), none⟩,
    ⟨none, .store 1 (.tmp 61) (.tmp 60), none⟩]))))
  (.ops [⟨(some 28), .mov (.tmp 8), none⟩,
    ⟨(some 29), .bin .add (.tmp 28) (.const (.int .i64 1)) (some (.int .i64)), none⟩,
    ⟨(some 8), .mov (.tmp 29), none⟩]))))))
  (.seq (.ops [⟨(some 62), .mov (.tmp 7), none⟩,
    ⟨(some 63), .call 146 [(.tmp 62)], none⟩,
    ⟨(some 4), .mov (.tmp 63), none⟩])
  .ret))))))⟩
theorem F149_ok : compF Tryz.prog 149 = some F149 := by kernel_rfl

/-- colonnade/long.twin -/
def F150 : FC := ⟨5, [.tmp 2],
  (.seq (.ops [⟨(some 2), .mov (.const (.slice none 0 0)), none⟩])
  (.seq (.ops [⟨(some 3), .mov (.tmp 0), none⟩,
    ⟨(some 4), .append 1 4 (.const (.slice none 0 0)) (.tmp 3), none⟩,
    ⟨(some 2), .mov (.tmp 4), none⟩])
  .ret))⟩
theorem F150_ok : compF Tryz.prog 150 = some F150 := by kernel_rfl

/-- colonnade/value.lets -/
def F151 : FC := ⟨27, [.tmp 2],
  (.seq (.ops [⟨(some 1), .box (.tmp 0), none⟩,
    ⟨(some 2), .mov (.const (.bool false)), none⟩])
  (.seq (.block 0 (.loop (.seq (.seq (.ops [⟨(some 3), .fieldAddr 2 (.tmp 1), none⟩,
    ⟨(some 4), .fieldAddr 0 (.tmp 3), none⟩,
    ⟨(some 5), .load false 1 (.tmp 4), none⟩,
    ⟨(some 6), .bin .eql (.tmp 5) (.const (.int .i64 20)) (some (.int .i64)), none⟩,
    ⟨(some 7), .mov (.tmp 6), none⟩,
    ⟨(some 8), .fieldAddr 2 (.tmp 1), (some (7, true))⟩,
    ⟨(some 9), .fieldAddr 4 (.tmp 8), (some (7, true))⟩,
    ⟨(some 10), .load false 1 (.tmp 9), (some (7, true))⟩,
    ⟨(some 11), .len 1 (.tmp 10), (some (7, true))⟩,
    ⟨(some 12), .bin .eql (.tmp 11) (.const (.int .i64 1)) (some (.int .i64)), (some (7, true))⟩,
    ⟨(some 13), .pick (.tmp 7) (.tmp 12) (.const (.bool false)), none⟩])
  (.cond (.tmp 13)
  .skip
  (.exit 0)))
  (.block 1 (.ops [⟨(some 14), .fieldAddr 2 (.tmp 1), none⟩,
    ⟨(some 15), .fieldAddr 4 (.tmp 14), none⟩,
    ⟨(some 16), .load false 1 (.tmp 15), none⟩,
    ⟨(some 17), .indexAddr 7 (.tmp 16) (.const (.int .i64 0)), none⟩,
    ⟨(some 18), .load true 7 (.tmp 17), none⟩,
    ⟨none, .store 7 (.tmp 1) (.tmp 18), none⟩])))))
  (.seq (.ops [⟨(some 19), .fieldAddr 1 (.tmp 1), none⟩,
    ⟨(some 20), .load false 1 (.tmp 19), none⟩,
    ⟨(some 21), .mov (.tmp 20), none⟩,
    ⟨(some 22), .fieldAddr 2 (.tmp 1), (some (21, true))⟩,
    ⟨(some 23), .fieldAddr 0 (.tmp 22), (some (21, true))⟩,
    ⟨(some 24), .load false 1 (.tmp 23), (some (21, true))⟩,
    ⟨(some 25), .bin .neq (.tmp 24) (.const (.int .i64 18)) (some (.int .i64)), (some (21, true))⟩,
    ⟨(some 26), .pick (.tmp 21) (.tmp 25) (.const (.bool false)), none⟩,
    ⟨(some 2), .mov (.tmp 26), none⟩])
  .ret)))⟩
theorem F151_ok : compF Tryz.prog 151 = some F151 := by kernel_rfl

/-- colonnade/value.whole -/
def F154 : FC := ⟨9, [.tmp 2],
  (.seq (.ops [⟨(some 2), .mov (.const (.bool false)), none⟩])
  (.seq (.ops [⟨(some 3), .mov (.tmp 0), none⟩,
    ⟨(some 4), .bin .geq (.tmp 3) (.const (.int .i64 3)) (some (.int .i64)), none⟩,
    ⟨(some 5), .mov (.tmp 4), none⟩,
    ⟨(some 6), .mov (.tmp 0), (some (5, true))⟩,
    ⟨(some 7), .bin .leq (.tmp 6) (.const (.int .i64 10)) (some (.int .i64)), (some (5, true))⟩,
    ⟨(some 8), .pick (.tmp 5) (.tmp 7) (.const (.bool false)), none⟩,
    ⟨(some 2), .mov (.tmp 8), none⟩])
  .ret))⟩
theorem F154_ok : compF Tryz.prog 154 = some F154 := by kernel_rfl

/-- colonnade/value.ranged -/
def F155 : FC := ⟨37, [.tmp 4],
  (.seq (.ops [⟨(some 4), .mov (.const (.bool false)), none⟩])
  (.seq (.ops [⟨(some 8), .mov (.tmp 0), none⟩,
    ⟨(some 9), .call 182 [(.tmp 8)], none⟩,
    ⟨(some 7), .mov (.tmp 9), none⟩,
    ⟨(some 10), .extract (.tmp 7) 0, none⟩,
    ⟨(some 11), .extract (.tmp 7) 1, none⟩,
    ⟨(some 5), .mov (.tmp 10), none⟩,
    ⟨(some 6), .mov (.tmp 11), none⟩])
  (.seq (.block 0 (.seq (.ops [⟨(some 13), .mov (.tmp 5), none⟩,
    ⟨(some 14), .bin .eql (.tmp 13) (.const (.int .i64 64)) (some (.int .i64)), none⟩,
    ⟨(some 12), .mov (.tmp 14), none⟩])
  (.cond (.tmp 12)
  (.seq (.ops [⟨(some 4), .mov (.const (.bool true)), none⟩])
  .ret)
  (.seq (.ops [⟨(some 16), .mov (.tmp 6), none⟩,
    ⟨(some 15), .mov (.tmp 16), none⟩])
  (.cond (.tmp 15)
  (.seq (.ops [⟨(some 17), .mov (.tmp 1), none⟩,
    ⟨(some 18), .mov (.tmp 5), none⟩,
    ⟨(some 19), .bin .sub (.tmp 18) (.const (.int .i64 1)) (some (.int .i64)), none⟩,
    ⟨(some 20), .bin .shl (.const (.int .i64 (-1))) (.tmp 19) (some (.int .i64)), none⟩,
    ⟨(some 21), .bin .geq (.tmp 17) (.tmp 20) (some (.int .i64)), none⟩,
    ⟨(some 22), .mov (.tmp 21), none⟩,
    ⟨(some 23), .mov (.tmp 1), (some (22, true))⟩,
    ⟨(some 24), .mov (.tmp 5), (some (22, true))⟩,
    ⟨(some 25), .bin .sub (.tmp 24) (.const (.int .i64 1)) (some (.int .i64)), (some (22, true))⟩,
    ⟨(some 26), .bin .shl (.const (.int .i64 1)) (.tmp 25) (some (.int .i64)), (some (22, true))⟩,
    ⟨(some 27), .bin .lss (.tmp 23) (.tmp 26) (some (.int .i64)), (some (22, true))⟩,
    ⟨(some 28), .pick (.tmp 22) (.tmp 27) (.const (.bool false)), none⟩,
    ⟨(some 4), .mov (.tmp 28), none⟩])
  .ret)
  .skip)))))
  (.seq (.ops [⟨(some 29), .mov (.tmp 1), none⟩,
    ⟨(some 30), .bin .geq (.tmp 29) (.const (.int .i64 0)) (some (.int .i64)), none⟩,
    ⟨(some 31), .mov (.tmp 30), none⟩,
    ⟨(some 32), .mov (.tmp 1), (some (31, true))⟩,
    ⟨(some 33), .mov (.tmp 5), (some (31, true))⟩,
    ⟨(some 34), .bin .shl (.const (.int .i64 1)) (.tmp 33) (some (.int .i64)), (some (31, true))⟩,
    ⟨(some 35), .bin .lss (.tmp 32) (.tmp 34) (some (.int .i64)), (some (31, true))⟩,
    ⟨(some 36), .pick (.tmp 31) (.tmp 35) (.const (.bool false)), none⟩,
    ⟨(some 4), .mov (.tmp 36), none⟩])
  .ret))))⟩
theorem F155_ok : compF Tryz.prog 155 = some F155 := by kernel_rfl

/-- colonnade/kind.letter -/
def F164 : FC := ⟨29, [.tmp 2],
  (.seq (.ops [⟨(some 2), .mov (.const (.bool false)), none⟩])
  (.seq (.ops [⟨(some 3), .mov (.tmp 0), none⟩,
    ⟨(some 4), .bin .geq (.tmp 3) (.const (.int .u8 97)) (some (.int .u8)), none⟩,
    ⟨(some 5), .mov (.tmp 4), none⟩,
    ⟨(some 6), .mov (.tmp 0), (some (5, true))⟩,
    ⟨(some 7), .bin .leq (.tmp 6) (.const (.int .u8 122)) (some (.int .u8)), (some (5, true))⟩,
    ⟨(some 8), .pick (.tmp 5) (.tmp 7) (.const (.bool false)), none⟩,
    ⟨(some 9), .mov (.tmp 8), none⟩,
    ⟨(some 10), .mov (.tmp 0), (some (9, false))⟩,
    ⟨(some 11), .bin .geq (.tmp 10) (.const (.int .u8 65)) (some (.int .u8)), (some (9, false))⟩,
    ⟨(some 12), .mov (.tmp 11), (some (9, false))⟩,
    ⟨(some 13), .mov (.tmp 0), (some (12, true))⟩,
    ⟨(some 14), .bin .leq (.tmp 13) (.const (.int .u8 90)) (some (.int .u8)), (some (12, true))⟩,
    ⟨(some 15), .pick (.tmp 12) (.tmp 14) (.const (.bool false)), (some (9, false))⟩,
    ⟨(some 16), .pick (.tmp 9) (.const (.bool true)) (.tmp 15), none⟩,
    ⟨(some 17), .mov (.tmp 16), none⟩,
    ⟨(some 18), .mov (.tmp 0), (some (17, false))⟩,
    ⟨(some 19), .bin .geq (.tmp 18) (.const (.int .u8 48)) (some (.int .u8)), (some (17, false))⟩,
    ⟨(some 20), .mov (.tmp 19), (some (17, false))⟩,
    ⟨(some 21), .mov (.tmp 0), (some (20, true))⟩,
    ⟨(some 22), .bin .leq (.tmp 21) (.const (.int .u8 57)) (some (.int .u8)), (some (20, true))⟩,
    ⟨(some 23), .pick (.tmp 20) (.tmp 22) (.const (.bool false)), (some (17, false))⟩,
    ⟨(some 24), .pick (.tmp 17) (.const (.bool true)) (.tmp 23), none⟩,
    ⟨(some 25), .mov (.tmp 24), none⟩,
    ⟨(some 26), .mov (.tmp 0), (some (25, false))⟩,
    ⟨(some 27), .bin .eql (.tmp 26) (.const (.int .u8 95)) (some (.int .u8)), (some (25, false))⟩,
    ⟨(some 28), .pick (.tmp 25) (.const (.bool true)) (.tmp 27), none⟩,
    ⟨(some 2), .mov (.tmp 28), none⟩])
  .ret))⟩
theorem F164_ok : compF Tryz.prog 164 = some F164 := by kernel_rfl

/-- slices.IndexFunc[[]colonnade/api.Field,colonnade/api.Field] -/
def F165 : FC := ⟨19, [.tmp 4],
  (.seq (.ops [⟨(some 4), .mov (.const (.int .i64 0)), none⟩])
  (.seq (.seq (.ops [⟨(some 6), .mov (.tmp 0), none⟩,
    ⟨(some 7), .len 1 (.tmp 6), none⟩,
    ⟨(some 8), .mov (.const (.int .i64 0)), none⟩])
  (.block 0 (.loop (.seq (.ops [⟨(some 9), .bin .lss (.tmp 8) (.tmp 7) (some (.int .i64)), none⟩])
  (.seq (.cond (.tmp 9)
  .skip
  (.exit 0))
  (.seq (.block 1 (.seq (.ops [⟨(some 10), .mov (.tmp 8), none⟩,
    ⟨(some 5), .mov (.tmp 10), none⟩])
  (.seq (.ops [⟨(some 11), .mov (.tmp 1), none⟩,
    ⟨(some 12), .mov (.tmp 0), none⟩,
    ⟨(some 13), .mov (.tmp 5), none⟩,
    ⟨(some 14), .indexAddr 7 (.tmp 12) (.tmp 13), none⟩,
    ⟨(some 15), .load true 7 (.tmp 14), none⟩,
    ⟨(some 16), .callv (.tmp 11) [(.tmp 15)], none⟩])
  (.cond (.tmp 16)
  (.seq (.ops [⟨(some 17), .mov (.tmp 5), none⟩,
    ⟨(some 4), .mov (.tmp 17), none⟩])
  .ret)
  .skip))))
  (.ops [⟨(some 18), .bin .add (.tmp 8) (.const (.int .i64 1)) (some (.int .i64)), none⟩,
    ⟨(some 8), .mov (.tmp 18), none⟩])))))))
  (.seq (.ops [⟨(some 4), .mov (.const (.int .i64 (-1))), none⟩])
  .ret)))⟩
theorem F165_ok : compF Tryz.prog 165 = some F165 := by kernel_rfl

/-- colonnade/kind.known -/
def F166 : FC := ⟨9, [.tmp 2],
  (.seq (.ops [⟨(some 2), .mov (.const (.bool false)), none⟩])
  (.seq (.ops [⟨(some 3), .mov (.tmp 0), none⟩,
    ⟨(some 4), .bin .geq (.tmp 3) (.const (.int .i64 1)) (some (.int .i64)), none⟩,
    ⟨(some 5), .mov (.tmp 4), none⟩,
    ⟨(some 6), .mov (.tmp 0), (some (5, true))⟩,
    ⟨(some 7), .bin .leq (.tmp 6) (.const (.int .i64 20)) (some (.int .i64)), (some (5, true))⟩,
    ⟨(some 8), .pick (.tmp 5) (.tmp 7) (.const (.bool false)), none⟩,
    ⟨(some 2), .mov (.tmp 8), none⟩])
  .ret))⟩
theorem F166_ok : compF Tryz.prog 166 = some F166 := by kernel_rfl

/-- colonnade/kind.Shape -/
def F167 : FC := ⟨20, [.tmp 2, .tmp 3, .tmp 4],
  (.seq (.ops [⟨(some 1), .box (.tmp 0), none⟩,
    ⟨(some 2), .mov (.const (.int .i64 0)), none⟩,
    ⟨(some 3), .mov (.const (.int .i64 0)), none⟩,
    ⟨(some 4), .mov (.const (.int .i64 0)), none⟩])
  (.seq (.seq (.ops [⟨(some 5), .load true 5 (.tmp 1), none⟩,
    ⟨(some 6), .call 82 [(.tmp 5)], none⟩,
    ⟨(some 7), .un .not (.tmp 6), none⟩])
  (.cond (.tmp 7)
  (.seq (.ops [⟨(some 2), .mov (.const (.int .i64 (-1))), none⟩,
    ⟨(some 3), .mov (.const (.int .i64 (-1))), none⟩,
    ⟨(some 4), .mov (.const (.int .i64 (-1))), none⟩])
  .ret)
  .skip))
  (.seq (.seq (.ops [⟨(some 8), .fieldAddr 0 (.tmp 1), none⟩,
    ⟨(some 9), .load false 1 (.tmp 8), none⟩,
    ⟨(some 10), .bin .eql (.tmp 9) (.const (.int .i64 19)) (some (.int .i64)), none⟩])
  (.cond (.tmp 10)
  (.ops [⟨(some 4), .mov (.const (.int .i64 1)), none⟩])
  .skip))
  (.seq (.ops [⟨(some 11), .fieldAddr 0 (.tmp 1), none⟩,
    ⟨(some 12), .load false 1 (.tmp 11), none⟩,
    ⟨(some 13), .indexAddrArr 4 21 (.global 2) (.tmp 12), none⟩,
    ⟨(some 14), .fieldAddr 2 (.tmp 13), none⟩,
    ⟨(some 15), .load false 1 (.tmp 14), none⟩,
    ⟨(some 16), .load true 5 (.tmp 1), none⟩,
    ⟨(some 19), .mov (.tmp 4), none⟩,
    ⟨(some 17), .call 186 [(.tmp 16)], none⟩,
    ⟨none, .again 15 false 1 (.tmp 14), none⟩,
    ⟨none, .again 12 false 1 (.tmp 11), none⟩,
    ⟨(some 18), .len 1 (.tmp 17), none⟩,
    ⟨(some 2), .mov (.tmp 15), none⟩,
    ⟨(some 3), .mov (.tmp 18), none⟩,
    ⟨(some 4), .mov (.tmp 19), none⟩])
  .ret))))⟩
theorem F167_ok : compF Tryz.prog 167 = some F167 := by kernel_rfl

/-- colonnade/array.needs -/
def F168 : FC := ⟨58, [.tmp 8],
  (.seq (.ops [⟨(some 4), .box (.tmp 0), none⟩,
    ⟨(some 8), .mov (.const (.int .i64 0)), none⟩])
  (.seq (.block 0 (.seq (.ops [⟨(some 10), .fieldAddr 0 (.tmp 4), none⟩,
    ⟨(some 11), .load false 1 (.tmp 10), none⟩,
    ⟨(some 12), .bin .eql (.tmp 11) (.const (.int .i64 18)) (some (.int .i64)), none⟩,
    ⟨(some 9), .mov (.tmp 12), none⟩])
  (.cond (.tmp 9)
  (.seq (.ops [⟨(some 13), .mov (.tmp 2), none⟩,
    ⟨(some 14), .mov (.tmp 1), none⟩,
    ⟨(some 15), .bin .mul (.const (.int .i64 3)) (.tmp 14) (some (.int .i64)), none⟩,
    ⟨(some 16), .bin .add (.const (.int .i64 1)) (.tmp 15) (some (.int .i64)), none⟩,
    ⟨(some 17), .bin .mul (.tmp 13) (.tmp 16) (some (.int .i64)), none⟩,
    ⟨(some 8), .mov (.tmp 17), none⟩])
  .ret)
  (.seq (.seq (.ops [⟨(some 19), .mov (.tmp 1), none⟩,
    ⟨(some 20), .bin .eql (.tmp 19) (.const (.int .i64 0)) (some (.int .i64)), none⟩,
    ⟨(some 21), .mov (.tmp 20), none⟩,
    ⟨(some 22), .mov (.tmp 3), (some (21, true))⟩,
    ⟨(some 23), .bin .eql (.tmp 22) (.const (.int .i64 0)) (some (.int .i64)), (some (21, true))⟩,
    ⟨(some 24), .pick (.tmp 21) (.tmp 23) (.const (.bool false)), none⟩,
    ⟨(some 18), .mov (.tmp 24), none⟩])
  (.cond (.tmp 18)
  .skip
  (.ops [⟨(some 25), .mov (.tmp 1), none⟩,
    ⟨(some 26), .bin .eql (.tmp 25) (.const (.int .i64 2)) (some (.int .i64)), none⟩,
    ⟨(some 18), .mov (.tmp 26), none⟩])))
  (.cond (.tmp 18)
  (.seq (.ops [⟨(some 8), .mov (.const (.int .i64 0)), none⟩])
  .ret)
  (.seq (.ops [⟨(some 28), .mov (.tmp 1), none⟩,
    ⟨(some 29), .bin .eql (.tmp 28) (.const (.int .i64 0)) (some (.int .i64)), none⟩,
    ⟨(some 30), .mov (.tmp 29), none⟩,
    ⟨(some 31), .fieldAddr 0 (.tmp 4), (some (30, false))⟩,
    ⟨(some 32), .load false 1 (.tmp 31), (some (30, false))⟩,
    ⟨(some 33), .bin .eql (.tmp 32) (.const (.int .i64 2)) (some (.int .i64)), (some (30, false))⟩,
    ⟨(some 34), .pick (.tmp 30) (.const (.bool true)) (.tmp 33), none⟩,
    ⟨(some 27), .mov (.tmp 34), none⟩])
  (.cond (.tmp 27)
  (.seq (.ops [⟨(some 35), .mov (.tmp 2), none⟩,
    ⟨(some 36), .call 187 [(.tmp 35)], none⟩,
    ⟨(some 8), .mov (.tmp 36), none⟩])
  .ret)
  (.seq (.ops [⟨(some 38), .fieldAddr 0 (.tmp 4), none⟩,
    ⟨(some 39), .load false 1 (.tmp 38), none⟩,
    ⟨(some 40), .bin .eql (.tmp 39) (.const (.int .i64 12)) (some (.int .i64)), none⟩,
    ⟨(some 41), .mov (.tmp 40), none⟩,
    ⟨(some 42), .fieldAddr 0 (.tmp 4), (some (41, false))⟩,
    ⟨(some 43), .load false 1 (.tmp 42), (some (41, false))⟩,
    ⟨(some 44), .bin .eql (.tmp 43) (.const (.int .i64 13)) (some (.int .i64)), (some (41, false))⟩,
    ⟨(some 45), .pick (.tmp 41) (.const (.bool true)) (.tmp 44), none⟩,
    ⟨(some 46), .mov (.tmp 45), none⟩,
    ⟨(some 47), .fieldAddr 0 (.tmp 4), (some (46, false))⟩,
    ⟨(some 48), .load false 1 (.tmp 47), (some (46, false))⟩,
    ⟨(some 49), .bin .eql (.tmp 48) (.const (.int .i64 15)) (some (.int .i64)), (some (46, false))⟩,
    ⟨(some 50), .pick (.tmp 46) (.const (.bool true)) (.tmp 49), none⟩,
    ⟨(some 37), .mov (.tmp 50), none⟩])
  (.cond (.tmp 37)
  (.seq (.ops [⟨(some 51), .mov (.tmp 2), none⟩,
    ⟨(some 52), .bin .add (.tmp 51) (.const (.int .i64 1)) (some (.int .i64)), none⟩,
    ⟨(some 53), .bin .mul (.const (.int .i64 4)) (.tmp 52) (some (.int .i64)), none⟩,
    ⟨(some 8), .mov (.tmp 53), none⟩])
  .ret)
  .skip)))))))))
  (.seq (.ops [⟨(some 54), .mov (.tmp 2), none⟩,
    ⟨(some 55), .load true 5 (.tmp 4), none⟩,
    ⟨(some 56), .call 188 [(.tmp 55)], none⟩,
    ⟨(some 57), .bin .mul (.tmp 54) (.tmp 56) (some (.int .i64)), none⟩,
    ⟨(some 8), .mov (.tmp 57), none⟩])
  .ret)))⟩
theorem F168_ok : compF Tryz.prog 168 = some F168 := by kernel_rfl

/-- colonnade/array.nulls -/
def F169 : FC := ⟨24, [.cell 4 true 3],
  (.seq (.ops [⟨(some 2), .box (.tmp 0), none⟩,
    ⟨(some 3), .box (.tmp 1), none⟩,
    ⟨(some 4), .alloc [(.int .i64 0), (.slice none 0 0), (.int .i64 0)], none⟩])
  (.seq (.seq (.ops [⟨(some 6), .load true 7 (.tmp 2), none⟩,
    ⟨(some 7), .load true 6 (.tmp 3), none⟩,
    ⟨(some 8), .call 189 [(.tmp 6), (.tmp 7)], none⟩,
    ⟨(some 5), .mov (.tmp 8), none⟩])
  (.seq (.ops [⟨(some 9), .fieldAddr 2 (.tmp 3), none⟩,
    ⟨(some 10), .load false 1 (.tmp 9), none⟩,
    ⟨(some 11), .mov (.tmp 5), none⟩,
    ⟨(some 12), .bin .neq (.tmp 10) (.tmp 11) (some (.int .i64)), none⟩,
    ⟨(some 13), .mov (.tmp 12), none⟩,
    ⟨(some 14), .mov (.tmp 5), (some (13, false))⟩,
    ⟨(some 15), .bin .gtr (.tmp 14) (.const (.int .i64 0)) (some (.int .i64)), (some (13, false))⟩,
    ⟨(some 16), .mov (.tmp 15), (some (13, false))⟩,
    ⟨(some 17), .fieldAddr 1 (.tmp 2), (some (16, true))⟩,
    ⟨(some 18), .load false 1 (.tmp 17), (some (16, true))⟩,
    ⟨(some 19), .un .not (.tmp 18), (some (16, true))⟩,
    ⟨(some 20), .pick (.tmp 16) (.tmp 19) (.const (.bool false)), (some (13, false))⟩,
    ⟨(some 21), .pick (.tmp 13) (.const (.bool true)) (.tmp 20), none⟩])
  (.cond (.tmp 21)
  (.seq (.ops [⟨(some 22), .call 91 [(.const (.int .i64 81)), (.const (.int .i64 1))], none⟩,
    ⟨none, .store 3 (.tmp 4) (.tmp 22), none⟩])
  .ret)
  .skip)))
  (.seq (.ops [⟨(some 23), .build [(.int .i64 0), (.slice none 0 0), (.int .i64 0)] [], none⟩,
    ⟨none, .store 3 (.tmp 4) (.tmp 23), none⟩])
  .ret)))⟩
theorem F169_ok : compF Tryz.prog 169 = some F169 := by kernel_rfl

/-- colonnade/array.null -/
def F172 : FC := ⟨37, [.tmp 6],
  (.seq (.ops [⟨(some 3), .box (.tmp 0), none⟩,
    ⟨(some 4), .box (.tmp 1), none⟩,
    ⟨(some 6), .mov (.const (.bool false)), none⟩])
  (.seq (.seq (.ops [⟨(some 9), .fieldAddr 2 (.tmp 3), none⟩,
    ⟨(some 10), .fieldAddr 0 (.tmp 9), none⟩,
    ⟨(some 11), .load false 1 (.tmp 10), none⟩,
    ⟨(some 12), .bin .eql (.tmp 11) (.const (.int .i64 1)) (some (.int .i64)), none⟩])
  (.cond (.tmp 12)
  (.seq (.ops [⟨(some 6), .mov (.const (.bool true)), none⟩])
  .ret)
  .skip))
  (.seq (.seq (.ops [⟨(some 13), .fieldAddr 2 (.tmp 3), none⟩,
    ⟨(some 14), .fieldAddr 0 (.tmp 13), none⟩,
    ⟨(some 15), .load false 1 (.tmp 14), none⟩,
    ⟨(some 16), .call 191 [(.tmp 15)], none⟩,
    ⟨(some 17), .un .not (.tmp 16), none⟩,
    ⟨(some 18), .mov (.tmp 17), none⟩,
    ⟨(some 19), .fieldAddr 3 (.tmp 4), (some (18, false))⟩,
    ⟨(some 20), .load false 1 (.tmp 19), (some (18, false))⟩,
    ⟨(some 21), .indexAddr 1 (.tmp 20) (.const (.int .i64 0)), (some (18, false))⟩,
    ⟨(some 22), .load false 1 (.tmp 21), (some (18, false))⟩,
    ⟨(some 23), .len 1 (.tmp 22), (some (18, false))⟩,
    ⟨(some 24), .bin .eql (.tmp 23) (.const (.int .i64 0)) (some (.int .i64)), (some (18, false))⟩,
    ⟨(some 25), .pick (.tmp 18) (.const (.bool true)) (.tmp 24), none⟩])
  (.cond (.tmp 25)
  (.seq (.ops [⟨(some 6), .mov (.const (.bool false)), none⟩])
  .ret)
  .skip))
  (.seq (.ops [⟨(some 27), .fieldAddr 3 (.tmp 4), none⟩,
    ⟨(some 28), .load false 1 (.tmp 27), none⟩,
    ⟨(some 29), .indexAddr 1 (.tmp 28) (.const (.int .i64 0)), none⟩,
    ⟨(some 30), .load false 1 (.tmp 29), none⟩,
    ⟨(some 31), .mov (.tmp 2), none⟩,
    ⟨(some 32), .call 192 [(.tmp 30), (.tmp 31)], none⟩,
    ⟨(some 26), .mov (.tmp 32), none⟩,
    ⟨(some 33), .extract (.tmp 26) 0, none⟩,
    ⟨(some 34), .extract (.tmp 26) 1, none⟩,
    ⟨(some 7), .mov (.tmp 33), none⟩,
    ⟨(some 8), .mov (.tmp 34), none⟩])
  (.seq (.ops [⟨(some 35), .mov (.tmp 7), none⟩,
    ⟨(some 36), .un .not (.tmp 35), none⟩,
    ⟨(some 6), .mov (.tmp 36), none⟩])
  .ret)))))⟩
theorem F172_ok : compF Tryz.prog 172 = some F172 := by kernel_rfl


end Go.Proofs.YtdgfcgadefodfaaGreatDoor.Calc
