/- The code that the call meets, as instructions. No conditions. -/
import Derived.Test.YtdgfcgadefodfaaGreatDoorEm22
import Derived.Test.YtdgfcgadefodfaaGreatDoorProg
import Derived.KernelRfl
set_option linter.unusedVariables false
namespace Go.Proofs.YtdgfcgadefodfaaGreatDoor.Calc
open Go Go.Proofs.YtdgfcgadefodfaaGreatDoor Go.Proofs.YtdgfcgadefodfaaGreatDoor.Em

/-- colonnade/array.slice -/
def F174 : FC := ⟨16, [.tmp 6],
  (.seq (.ops [⟨(some 6), .mov (.const (.slice none 0 0)), none⟩])
  (.seq (.seq (.ops [⟨(some 7), .mov (.tmp 1), none⟩,
    ⟨(some 8), .mov (.tmp 2), none⟩,
    ⟨(some 9), .bin .eql (.tmp 7) (.tmp 8) (some (.int .i64)), none⟩])
  (.cond (.tmp 9)
  (.seq (.ops [⟨(some 6), .mov (.const (.slice none 0 0)), none⟩])
  .ret)
  .skip))
  (.seq (.ops [⟨(some 10), .mov (.tmp 0), none⟩,
    ⟨(some 11), .indexAddr 1 (.tmp 10) (.const (.int .i64 0)), none⟩,
    ⟨(some 12), .load false 1 (.tmp 11), none⟩,
    ⟨(some 13), .mov (.tmp 1), none⟩,
    ⟨(some 14), .mov (.tmp 2), none⟩,
    ⟨(some 15), .slice 1 (.tmp 12) (some (.tmp 13)) (some (.tmp 14)) none, none⟩,
    ⟨(some 6), .mov (.tmp 15), none⟩])
  .ret)))⟩
theorem F174_ok : compF Tryz.prog 174 = some F174 := by kernel_rfl

/-- (*colonnade/array.Array).value -/
def F175 : FC := ⟨21, [.cell 6 true 4],
  (.seq (.ops [⟨(some 6), .alloc [(.bool false), (.int .i64 0), (.string ⟨#[]⟩), (.slice none 0 0)], none⟩])
  (.seq (.seq (.ops [⟨(some 7), .mov (.tmp 0), none⟩,
    ⟨(some 8), .mov (.tmp 1), none⟩,
    ⟨(some 9), .call 194 [(.tmp 7), (.tmp 8)], none⟩])
  (.cond (.tmp 9)
  (.seq (.ops [⟨(some 10), .mov (.tmp 2), none⟩,
    ⟨(some 11), .call 195 [(.tmp 10), (.const (.int .i64 16))], none⟩])
  (.seq (.ops [⟨(some 12), .build [(.bool false), (.int .i64 0), (.string ⟨#[]⟩), (.slice none 0 0)] [(0, 1, (.const (.bool true)))], none⟩,
    ⟨none, .store 4 (.tmp 6) (.tmp 12), none⟩])
  .ret))
  .skip))
  (.seq (.ops [⟨(some 13), .mov (.tmp 0), none⟩,
    ⟨(some 14), .nilCheck (.tmp 13), none⟩,
    ⟨(some 15), .fieldAddr 16 (.tmp 14), none⟩,
    ⟨(some 16), .load false 1 (.tmp 15), none⟩,
    ⟨(some 17), .mov (.tmp 0), none⟩,
    ⟨(some 18), .mov (.tmp 1), none⟩,
    ⟨(some 19), .mov (.tmp 2), none⟩,
    ⟨(some 20), .invoke (.tmp 16) "colonnade/array.read" [(211, 310), (212, 317), (213, 320), (214, 321), (215, 322), (216, 324), (217, 326)] [(.tmp 17), (.tmp 18), (.tmp 19)], none⟩,
    ⟨none, .store 4 (.tmp 6) (.tmp 20), none⟩])
  .ret)))⟩
theorem F175_ok : compF Tryz.prog 175 = some F175 := by kernel_rfl

/-- colonnade/value.weight -/
def F176 : FC := ⟨64, [.tmp 2],
  (.seq (.ops [⟨(some 1), .box (.tmp 0), none⟩,
    ⟨(some 2), .mov (.const (.int .i64 0)), none⟩])
  (.seq (.seq (.ops [⟨(some 7), .load true 7 (.tmp 1), none⟩,
    ⟨(some 8), .call 151 [(.tmp 7)], none⟩])
  (.cond (.tmp 8)
  (.seq (.ops [⟨(some 2), .mov (.const (.int .i64 16)), none⟩])
  .ret)
  .skip))
  (.seq (.ops [⟨(some 9), .fieldAddr 2 (.tmp 1), none⟩,
    ⟨(some 10), .load true 5 (.tmp 9), none⟩,
    ⟨(some 3), .alloc [(.int .i64 0), (.int .i64 0), (.int .i64 0), (.int .i64 0), (.slice none 0 0)], none⟩,
    ⟨none, .store 5 (.tmp 3) (.tmp 10), none⟩])
  (.seq (.ops [⟨(some 4), .mov (.const (.int .i64 16)), none⟩])
  (.seq (.seq (.ops [⟨(some 11), .fieldAddr 0 (.tmp 3), none⟩,
    ⟨(some 12), .load false 1 (.tmp 11), none⟩])
  (.block 0 (.seq (.ops [⟨(some 14), .bin .eql (.tmp 12) (.const (.int .i64 14)) (some (.int .i64)), none⟩,
    ⟨(some 13), .mov (.tmp 14), none⟩])
  (.cond (.tmp 13)
  (.ops [⟨(some 15), .mov (.tmp 4), none⟩,
    ⟨(some 16), .fieldAddr 1 (.tmp 3), none⟩,
    ⟨(some 17), .load false 1 (.tmp 16), none⟩,
    ⟨(some 18), .bin .add (.tmp 15) (.tmp 17) (some (.int .i64)), none⟩,
    ⟨(some 4), .mov (.tmp 18), none⟩])
  (.seq (.ops [⟨(some 20), .bin .eql (.tmp 12) (.const (.int .i64 16)) (some (.int .i64)), none⟩,
    ⟨(some 19), .mov (.tmp 20), none⟩])
  (.cond (.tmp 19)
  (.ops [⟨(some 21), .mov (.tmp 4), none⟩,
    ⟨(some 22), .fieldAddr 1 (.tmp 3), none⟩,
    ⟨(some 23), .load false 1 (.tmp 22), none⟩,
    ⟨(some 24), .fieldAddr 4 (.tmp 3), none⟩,
    ⟨(some 25), .load false 1 (.tmp 24), none⟩,
    ⟨(some 26), .indexAddr 7 (.tmp 25) (.const (.int .i64 0)), none⟩,
    ⟨(some 27), .load true 7 (.tmp 26), none⟩,
    ⟨(some 28), .call 176 [(.tmp 27)], none⟩,
    ⟨none, .again 23 false 1 (.tmp 22), none⟩,
    ⟨(some 29), .bin .mul (.tmp 23) (.tmp 28) (some (.int .i64)), none⟩,
    ⟨(some 30), .bin .add (.tmp 21) (.tmp 29) (some (.int .i64)), none⟩,
    ⟨(some 4), .mov (.tmp 30), none⟩])
  (.seq (.ops [⟨(some 32), .bin .eql (.tmp 12) (.const (.int .i64 17)) (some (.int .i64)), none⟩,
    ⟨(some 31), .mov (.tmp 32), none⟩])
  (.cond (.tmp 31)
  (.seq (.ops [⟨(some 33), .fieldAddr 4 (.tmp 3), none⟩,
    ⟨(some 34), .load false 1 (.tmp 33), none⟩,
    ⟨(some 35), .len 1 (.tmp 34), none⟩,
    ⟨(some 36), .mov (.const (.int .i64 0)), none⟩])
  (.block 1 (.loop (.seq (.ops [⟨(some 37), .bin .lss (.tmp 36) (.tmp 35) (some (.int .i64)), none⟩])
  (.seq (.cond (.tmp 37)
  .skip
  (.exit 1))
  (.seq (.block 2 (.seq (.ops [⟨(some 38), .indexAddr 7 (.tmp 34) (.tmp 36), none⟩,
    ⟨(some 39), .load true 7 (.tmp 38), none⟩,
    ⟨(some 6), .alloc [(.string ⟨#[]⟩), (.bool false), (.int .i64 0), (.int .i64 0), (.int .i64 0), (.int .i64 0), (.slice none 0 0)], none⟩,
    ⟨none, .store 7 (.tmp 6) (.tmp 39), none⟩])
  (.ops [⟨(some 40), .mov (.tmp 4), none⟩,
    ⟨(some 41), .load true 7 (.tmp 6), none⟩,
    ⟨(some 42), .call 176 [(.tmp 41)], none⟩,
    ⟨(some 43), .bin .add (.tmp 40) (.tmp 42) (some (.int .i64)), none⟩,
    ⟨(some 4), .mov (.tmp 43), none⟩])))
  (.ops [⟨(some 44), .bin .add (.tmp 36) (.const (.int .i64 1)) (some (.int .i64)), none⟩,
    ⟨(some 36), .mov (.tmp 44), none⟩])))))))
  (.seq (.ops [⟨(some 46), .bin .eql (.tmp 12) (.const (.int .i64 18)) (some (.int .i64)), none⟩,
    ⟨(some 45), .mov (.tmp 46), none⟩])
  (.cond (.tmp 45)
  (.ops [⟨(some 47), .mov (.tmp 4), none⟩,
    ⟨(some 48), .fieldAddr 4 (.tmp 3), none⟩,
    ⟨(some 49), .load false 1 (.tmp 48), none⟩,
    ⟨(some 50), .indexAddr 7 (.tmp 49) (.const (.int .i64 0)), none⟩,
    ⟨(some 51), .load true 7 (.tmp 50), none⟩,
    ⟨(some 52), .call 176 [(.tmp 51)], none⟩,
    ⟨(some 53), .bin .add (.tmp 47) (.tmp 52) (some (.int .i64)), none⟩,
    ⟨(some 4), .mov (.tmp 53), none⟩])
  (.seq (.seq (.ops [⟨(some 55), .bin .eql (.tmp 12) (.const (.int .i64 19)) (some (.int .i64)), none⟩,
    ⟨(some 54), .mov (.tmp 55), none⟩])
  (.cond (.tmp 54)
  .skip
  (.ops [⟨(some 56), .bin .eql (.tmp 12) (.const (.int .i64 20)) (some (.int .i64)), none⟩,
    ⟨(some 54), .mov (.tmp 56), none⟩])))
  (.cond (.tmp 54)
  (.ops [⟨(some 57), .fieldAddr 4 (.tmp 3), none⟩,
    ⟨(some 58), .load false 1 (.tmp 57), none⟩,
    ⟨(some 59), .indexAddr 7 (.tmp 58) (.const (.int .i64 0)), none⟩,
    ⟨(some 60), .load true 7 (.tmp 59), none⟩,
    ⟨(some 61), .call 176 [(.tmp 60)], none⟩,
    ⟨(some 4), .mov (.tmp 61), none⟩])
  .skip))))))))))))
  (.seq (.ops [⟨(some 62), .mov (.tmp 4), none⟩,
    ⟨(some 63), .minmax false (.tmp 62) [(.const (.int .i64 4194305))], none⟩,
    ⟨(some 2), .mov (.tmp 63), none⟩])
  .ret))))))⟩
theorem F176_ok : compF Tryz.prog 176 = some F176 := by kernel_rfl

/-- colonnade/value.zero -/
def F177 : FC := ⟨72, [.cell 2 true 4],
  (.seq (.ops [⟨(some 1), .box (.tmp 0), none⟩,
    ⟨(some 2), .alloc [(.bool false), (.int .i64 0), (.string ⟨#[]⟩), (.slice none 0 0)], none⟩])
  (.seq (.seq (.ops [⟨(some 7), .load true 7 (.tmp 1), none⟩,
    ⟨(some 8), .call 151 [(.tmp 7)], none⟩])
  (.cond (.tmp 8)
  (.seq (.ops [⟨(some 9), .build [(.bool false), (.int .i64 0), (.string ⟨#[]⟩), (.slice none 0 0)] [(0, 1, (.const (.bool true)))], none⟩,
    ⟨none, .store 4 (.tmp 2) (.tmp 9), none⟩])
  .ret)
  .skip))
  (.seq (.ops [⟨(some 3), .alloc [(.bool false), (.int .i64 0), (.string ⟨#[]⟩), (.slice none 0 0)], none⟩])
  (.seq (.ops [⟨(some 10), .fieldAddr 2 (.tmp 1), none⟩,
    ⟨(some 11), .load true 5 (.tmp 10), none⟩,
    ⟨(some 4), .alloc [(.int .i64 0), (.int .i64 0), (.int .i64 0), (.int .i64 0), (.slice none 0 0)], none⟩,
    ⟨none, .store 5 (.tmp 4) (.tmp 11), none⟩])
  (.seq (.seq (.ops [⟨(some 12), .fieldAddr 0 (.tmp 4), none⟩,
    ⟨(some 13), .load false 1 (.tmp 12), none⟩])
  (.block 0 (.seq (.ops [⟨(some 15), .bin .eql (.tmp 13) (.const (.int .i64 14)) (some (.int .i64)), none⟩,
    ⟨(some 14), .mov (.tmp 15), none⟩])
  (.cond (.tmp 14)
  (.ops [⟨(some 16), .fieldAddr 1 (.tmp 4), none⟩,
    ⟨(some 17), .load false 1 (.tmp 16), none⟩,
    ⟨(some 18), .call 196 [(.const (.string ⟨#[0]⟩)), (.tmp 17)], none⟩,
    ⟨(some 19), .fieldAddr 2 (.tmp 3), none⟩,
    ⟨none, .store 1 (.tmp 19) (.tmp 18), none⟩])
  (.seq (.ops [⟨(some 21), .bin .eql (.tmp 13) (.const (.int .i64 16)) (some (.int .i64)), none⟩,
    ⟨(some 20), .mov (.tmp 21), none⟩])
  (.cond (.tmp 20)
  (.seq (.ops [⟨(some 22), .fieldAddr 1 (.tmp 4), none⟩,
    ⟨(some 23), .load false 1 (.tmp 22), none⟩,
    ⟨(some 24), .mov (.const (.int .i64 0)), none⟩])
  (.block 1 (.loop (.seq (.ops [⟨(some 25), .bin .lss (.tmp 24) (.tmp 23) (some (.int .i64)), none⟩])
  (.seq (.cond (.tmp 25)
  .skip
  (.exit 1))
  (.seq (.block 2 (.ops [⟨(some 26), .fieldAddr 3 (.tmp 3), none⟩,
    ⟨(some 27), .load false 1 (.tmp 26), none⟩,
    ⟨(some 28), .fieldAddr 4 (.tmp 4), none⟩,
    ⟨(some 29), .load false 1 (.tmp 28), none⟩,
    ⟨(some 30), .indexAddr 7 (.tmp 29) (.const (.int .i64 0)), none⟩,
    ⟨(some 31), .load true 7 (.tmp 30), none⟩,
    ⟨(some 32), .call 177 [(.tmp 31)], none⟩,
    ⟨none, .again 27 false 1 (.tmp 26), none⟩,
    ⟨(some 33), .buildSlice 4 1 [(.bool false), (.int .i64 0), (.string ⟨#[]⟩), (.slice none 0 0)] [(0, 4, (.tmp 32))], none⟩,
    ⟨none, .again 27 false 1 (.tmp 26), none⟩,
    ⟨(some 34), .append 4 56 (.tmp 27) (.tmp 33), none⟩,
    ⟨(some 35), .fieldAddr 3 (.tmp 3), none⟩,
    ⟨none, .store 1 (.tmp 35) (.tmp 34), none⟩]))
  (.ops [⟨(some 36), .bin .add (.tmp 24) (.const (.int .i64 1)) (some (.int .i64)), none⟩,
    ⟨(some 24), .mov (.tmp 36), none⟩])))))))
  (.seq (.ops [⟨(some 38), .bin .eql (.tmp 13) (.const (.int .i64 17)) (some (.int .i64)), none⟩,
    ⟨(some 37), .mov (.tmp 38), none⟩])
  (.cond (.tmp 37)
  (.seq (.ops [⟨(some 39), .fieldAddr 4 (.tmp 4), none⟩,
    ⟨(some 40), .load false 1 (.tmp 39), none⟩,
    ⟨(some 41), .len 1 (.tmp 40), none⟩,
    ⟨(some 42), .mov (.const (.int .i64 0)), none⟩])
  (.block 3 (.loop (.seq (.ops [⟨(some 43), .bin .lss (.tmp 42) (.tmp 41) (some (.int .i64)), none⟩])
  (.seq (.cond (.tmp 43)
  .skip
  (.exit 3))
  (.seq (.block 4 (.seq (.ops [⟨(some 44), .indexAddr 7 (.tmp 40) (.tmp 42), none⟩,
    ⟨(some 45), .load true 7 (.tmp 44), none⟩,
    ⟨(some 6), .alloc [(.string ⟨#[]⟩), (.bool false), (.int .i64 0), (.int .i64 0), (.int .i64 0), (.int .i64 0), (.slice none 0 0)], none⟩,
    ⟨none, .store 7 (.tmp 6) (.tmp 45), none⟩])
  (.ops [⟨(some 46), .fieldAddr 3 (.tmp 3), none⟩,
    ⟨(some 47), .load false 1 (.tmp 46), none⟩,
    ⟨(some 48), .load true 7 (.tmp 6), none⟩,
    ⟨(some 49), .call 177 [(.tmp 48)], none⟩,
    ⟨none, .again 47 false 1 (.tmp 46), none⟩,
    ⟨(some 50), .buildSlice 4 1 [(.bool false), (.int .i64 0), (.string ⟨#[]⟩), (.slice none 0 0)] [(0, 4, (.tmp 49))], none⟩,
    ⟨none, .again 47 false 1 (.tmp 46), none⟩,
    ⟨(some 51), .append 4 56 (.tmp 47) (.tmp 50), none⟩,
    ⟨(some 52), .fieldAddr 3 (.tmp 3), none⟩,
    ⟨none, .store 1 (.tmp 52) (.tmp 51), none⟩])))
  (.ops [⟨(some 53), .bin .add (.tmp 42) (.const (.int .i64 1)) (some (.int .i64)), none⟩,
    ⟨(some 42), .mov (.tmp 53), none⟩])))))))
  (.seq (.ops [⟨(some 55), .bin .eql (.tmp 13) (.const (.int .i64 18)) (some (.int .i64)), none⟩,
    ⟨(some 54), .mov (.tmp 55), none⟩])
  (.cond (.tmp 54)
  (.ops [⟨(some 56), .fieldAddr 4 (.tmp 4), none⟩,
    ⟨(some 57), .load false 1 (.tmp 56), none⟩,
    ⟨(some 58), .indexAddr 7 (.tmp 57) (.const (.int .i64 0)), none⟩,
    ⟨(some 59), .load true 7 (.tmp 58), none⟩,
    ⟨(some 60), .call 177 [(.tmp 59)], none⟩,
    ⟨(some 61), .buildSlice 4 1 [(.bool false), (.int .i64 0), (.string ⟨#[]⟩), (.slice none 0 0)] [(0, 4, (.tmp 60))], none⟩,
    ⟨(some 62), .fieldAddr 3 (.tmp 3), none⟩,
    ⟨none, .store 1 (.tmp 62) (.tmp 61), none⟩])
  (.seq (.seq (.ops [⟨(some 64), .bin .eql (.tmp 13) (.const (.int .i64 19)) (some (.int .i64)), none⟩,
    ⟨(some 63), .mov (.tmp 64), none⟩])
  (.cond (.tmp 63)
  .skip
  (.ops [⟨(some 65), .bin .eql (.tmp 13) (.const (.int .i64 20)) (some (.int .i64)), none⟩,
    ⟨(some 63), .mov (.tmp 65), none⟩])))
  (.cond (.tmp 63)
  (.seq (.ops [⟨(some 66), .fieldAddr 4 (.tmp 4), none⟩,
    ⟨(some 67), .load false 1 (.tmp 66), none⟩,
    ⟨(some 68), .indexAddr 7 (.tmp 67) (.const (.int .i64 0)), none⟩,
    ⟨(some 69), .load true 7 (.tmp 68), none⟩,
    ⟨(some 70), .call 177 [(.tmp 69)], none⟩,
    ⟨none, .store 4 (.tmp 2) (.tmp 70), none⟩])
  .ret)
  .skip))))))))))))
  (.seq (.ops [⟨(some 71), .load true 4 (.tmp 3), none⟩,
    ⟨none, .store 4 (.tmp 2) (.tmp 71), none⟩])
  .ret))))))⟩
theorem F177_ok : compF Tryz.prog 177 = some F177 := by kernel_rfl

/-- colonnade/value.sized -/
def F182 : FC := ⟨16, [.tmp 2, .tmp 3],
  (.seq (.ops [⟨(some 2), .mov (.const (.int .i64 0)), none⟩,
    ⟨(some 3), .mov (.const (.bool false)), none⟩])
  (.seq (.seq (.ops [⟨(some 4), .mov (.tmp 0), none⟩,
    ⟨(some 5), .bin .geq (.tmp 4) (.const (.int .i64 3)) (some (.int .i64)), none⟩,
    ⟨(some 6), .mov (.tmp 5), none⟩,
    ⟨(some 7), .mov (.tmp 0), (some (6, true))⟩,
    ⟨(some 8), .bin .leq (.tmp 7) (.const (.int .i64 6)) (some (.int .i64)), (some (6, true))⟩,
    ⟨(some 9), .pick (.tmp 6) (.tmp 8) (.const (.bool false)), none⟩])
  (.cond (.tmp 9)
  (.seq (.ops [⟨(some 10), .mov (.tmp 0), none⟩,
    ⟨(some 11), .bin .sub (.tmp 10) (.const (.int .i64 3)) (some (.int .i64)), none⟩,
    ⟨(some 12), .bin .shl (.const (.int .i64 8)) (.tmp 11) (some (.int .i64)), none⟩,
    ⟨(some 2), .mov (.tmp 12), none⟩,
    ⟨(some 3), .mov (.const (.bool true)), none⟩])
  .ret)
  .skip))
  (.seq (.ops [⟨(some 13), .mov (.tmp 0), none⟩,
    ⟨(some 14), .bin .sub (.tmp 13) (.const (.int .i64 7)) (some (.int .i64)), none⟩,
    ⟨(some 15), .bin .shl (.const (.int .i64 8)) (.tmp 14) (some (.int .i64)), none⟩,
    ⟨(some 2), .mov (.tmp 15), none⟩,
    ⟨(some 3), .mov (.const (.bool false)), none⟩])
  .ret)))⟩
theorem F182_ok : compF Tryz.prog 182 = some F182 := by kernel_rfl

/-- colonnade/kind.Parts -/
def F186 : FC := ⟨24, [.tmp 2],
  (.seq (.ops [⟨(some 1), .box (.tmp 0), none⟩,
    ⟨(some 2), .mov (.const (.slice none 0 0)), none⟩])
  (.seq (.seq (.ops [⟨(some 4), .load true 5 (.tmp 1), none⟩,
    ⟨(some 5), .call 82 [(.tmp 4)], none⟩,
    ⟨(some 6), .un .not (.tmp 5), none⟩,
    ⟨(some 7), .mov (.tmp 6), none⟩,
    ⟨(some 8), .fieldAddr 0 (.tmp 1), (some (7, false))⟩,
    ⟨(some 9), .load false 1 (.tmp 8), (some (7, false))⟩,
    ⟨(some 10), .bin .eql (.tmp 9) (.const (.int .i64 19)) (some (.int .i64)), (some (7, false))⟩,
    ⟨(some 11), .pick (.tmp 7) (.const (.bool true)) (.tmp 10), none⟩])
  (.cond (.tmp 11)
  (.seq (.ops [⟨(some 2), .mov (.const (.slice none 0 0)), none⟩])
  .ret)
  .skip))
  (.seq (.ops [⟨(some 12), .fieldAddr 4 (.tmp 1), none⟩,
    ⟨(some 13), .load false 1 (.tmp 12), none⟩,
    ⟨(some 14), .call 197 [(.tmp 13)], none⟩,
    ⟨(some 3), .mov (.tmp 14), none⟩])
  (.seq (.seq (.ops [⟨(some 15), .fieldAddr 0 (.tmp 1), none⟩,
    ⟨(some 16), .load false 1 (.tmp 15), none⟩,
    ⟨(some 17), .bin .eql (.tmp 16) (.const (.int .i64 20)) (some (.int .i64)), none⟩])
  (.cond (.tmp 17)
  (.ops [⟨(some 18), .build [(.int .i64 0), (.int .i64 0), (.int .i64 0), (.int .i64 0), (.slice none 0 0)] [(0, 1, (.const (.int .i64 5)))], none⟩,
    ⟨(some 19), .build [(.string ⟨#[]⟩), (.bool false), (.int .i64 0), (.int .i64 0), (.int .i64 0), (.int .i64 0), (.slice none 0 0)] [(0, 1, (.const (.string ⟨#[101, 110, 100, 115]⟩))), (2, 5, (.tmp 18))], none⟩,
    ⟨(some 20), .buildSlice 7 1 [(.string ⟨#[]⟩), (.bool false), (.int .i64 0), (.int .i64 0), (.int .i64 0), (.int .i64 0), (.slice none 0 0)] [(0, 7, (.tmp 19))], none⟩,
    ⟨(some 21), .mov (.tmp 3), none⟩,
    ⟨(some 22), .append 7 80 (.tmp 20) (.tmp 21), none⟩,
    ⟨(some 3), .mov (.tmp 22), none⟩])
  .skip))
  (.seq (.ops [⟨(some 23), .mov (.tmp 3), none⟩,
    ⟨(some 2), .mov (.tmp 23), none⟩])
  .ret)))))⟩
theorem F186_ok : compF Tryz.prog 186 = some F186 := by kernel_rfl

/-- colonnade/kind.Width -/
def F188 : FC := ⟨24, [.tmp 2],
  (.seq (.ops [⟨(some 1), .box (.tmp 0), none⟩,
    ⟨(some 2), .mov (.const (.int .i64 0)), none⟩])
  (.seq (.seq (.ops [⟨(some 3), .load true 5 (.tmp 1), none⟩,
    ⟨(some 4), .call 82 [(.tmp 3)], none⟩,
    ⟨(some 5), .un .not (.tmp 4), none⟩])
  (.cond (.tmp 5)
  (.seq (.ops [⟨(some 2), .mov (.const (.int .i64 0)), none⟩])
  .ret)
  .skip))
  (.seq (.seq (.ops [⟨(some 6), .fieldAddr 0 (.tmp 1), none⟩,
    ⟨(some 7), .load false 1 (.tmp 6), none⟩])
  (.block 0 (.seq (.ops [⟨(some 9), .bin .eql (.tmp 7) (.const (.int .i64 14)) (some (.int .i64)), none⟩,
    ⟨(some 8), .mov (.tmp 9), none⟩])
  (.cond (.tmp 8)
  (.seq (.ops [⟨(some 10), .fieldAddr 1 (.tmp 1), none⟩,
    ⟨(some 11), .load false 1 (.tmp 10), none⟩,
    ⟨(some 2), .mov (.tmp 11), none⟩])
  .ret)
  (.seq (.ops [⟨(some 13), .bin .eql (.tmp 7) (.const (.int .i64 19)) (some (.int .i64)), none⟩,
    ⟨(some 12), .mov (.tmp 13), none⟩])
  (.cond (.tmp 12)
  (.seq (.ops [⟨(some 14), .fieldAddr 3 (.tmp 1), none⟩,
    ⟨(some 15), .load false 1 (.tmp 14), none⟩,
    ⟨(some 16), .indexAddrArr 4 21 (.global 2) (.tmp 15), none⟩,
    ⟨(some 17), .fieldAddr 1 (.tmp 16), none⟩,
    ⟨(some 18), .load false 1 (.tmp 17), none⟩,
    ⟨(some 2), .mov (.tmp 18), none⟩])
  .ret)
  .skip))))))
  (.seq (.ops [⟨(some 19), .fieldAddr 0 (.tmp 1), none⟩,
    ⟨(some 20), .load false 1 (.tmp 19), none⟩,
    ⟨(some 21), .indexAddrArr 4 21 (.global 2) (.tmp 20), none⟩,
    ⟨(some 22), .fieldAddr 1 (.tmp 21), none⟩,
    ⟨(some 23), .load false 1 (.tmp 22), none⟩,
    ⟨(some 2), .mov (.tmp 23), none⟩])
  .ret))))⟩
theorem F188_ok : compF Tryz.prog 188 = some F188 := by kernel_rfl

/-- colonnade/array.countNulls -/
def F189 : FC := ⟨23, [.tmp 4],
  (.seq (.ops [⟨(some 2), .box (.tmp 0), none⟩,
    ⟨(some 3), .box (.tmp 1), none⟩,
    ⟨(some 4), .mov (.const (.int .i64 0)), none⟩])
  (.seq (.ops [⟨(some 5), .mov (.const (.int .i64 0)), none⟩])
  (.seq (.seq (.ops [⟨(some 7), .fieldAddr 0 (.tmp 3), none⟩,
    ⟨(some 8), .load false 1 (.tmp 7), none⟩,
    ⟨(some 9), .mov (.const (.int .i64 0)), none⟩])
  (.block 0 (.loop (.seq (.ops [⟨(some 10), .bin .lss (.tmp 9) (.tmp 8) (some (.int .i64)), none⟩])
  (.seq (.cond (.tmp 10)
  .skip
  (.exit 0))
  (.seq (.block 1 (.seq (.ops [⟨(some 11), .mov (.tmp 9), none⟩,
    ⟨(some 6), .mov (.tmp 11), none⟩])
  (.seq (.ops [⟨(some 12), .load true 7 (.tmp 2), none⟩,
    ⟨(some 13), .load true 6 (.tmp 3), none⟩,
    ⟨(some 14), .fieldAddr 1 (.tmp 3), none⟩,
    ⟨(some 15), .load false 1 (.tmp 14), none⟩,
    ⟨(some 16), .mov (.tmp 6), none⟩,
    ⟨(some 17), .bin .add (.tmp 15) (.tmp 16) (some (.int .i64)), none⟩,
    ⟨(some 18), .call 172 [(.tmp 12), (.tmp 13), (.tmp 17)], none⟩])
  (.cond (.tmp 18)
  (.ops [⟨(some 19), .mov (.tmp 5), none⟩,
    ⟨(some 20), .bin .add (.tmp 19) (.const (.int .i64 1)) (some (.int .i64)), none⟩,
    ⟨(some 5), .mov (.tmp 20), none⟩])
  .skip))))
  (.ops [⟨(some 21), .bin .add (.tmp 9) (.const (.int .i64 1)) (some (.int .i64)), none⟩,
    ⟨(some 9), .mov (.tmp 21), none⟩])))))))
  (.seq (.ops [⟨(some 22), .mov (.tmp 5), none⟩,
    ⟨(some 4), .mov (.tmp 22), none⟩])
  .ret))))⟩
theorem F189_ok : compF Tryz.prog 189 = some F189 := by kernel_rfl

/-- colonnade/array.hasValidity -/
def F191 : FC := ⟨13, [.tmp 2],
  (.seq (.ops [⟨(some 2), .mov (.const (.bool false)), none⟩])
  (.seq (.ops [⟨(some 3), .mov (.tmp 0), none⟩,
    ⟨(some 4), .bin .neq (.tmp 3) (.const (.int .i64 1)) (some (.int .i64)), none⟩,
    ⟨(some 5), .mov (.tmp 4), none⟩,
    ⟨(some 6), .mov (.tmp 0), (some (5, true))⟩,
    ⟨(some 7), .bin .neq (.tmp 6) (.const (.int .i64 18)) (some (.int .i64)), (some (5, true))⟩,
    ⟨(some 8), .pick (.tmp 5) (.tmp 7) (.const (.bool false)), none⟩,
    ⟨(some 9), .mov (.tmp 8), none⟩,
    ⟨(some 10), .mov (.tmp 0), (some (9, true))⟩,
    ⟨(some 11), .bin .neq (.tmp 10) (.const (.int .i64 20)) (some (.int .i64)), (some (9, true))⟩,
    ⟨(some 12), .pick (.tmp 9) (.tmp 11) (.const (.bool false)), none⟩,
    ⟨(some 2), .mov (.tmp 12), none⟩])
  .ret))⟩
theorem F191_ok : compF Tryz.prog 191 = some F191 := by kernel_rfl

/-- colonnade/array.width -/
def F193 : FC := ⟨17, [.tmp 2],
  (.seq (.ops [⟨(some 2), .mov (.const (.int .i64 0)), none⟩])
  (.seq (.seq (.ops [⟨(some 3), .mov (.tmp 0), none⟩])
  (.block 0 (.seq (.seq (.ops [⟨(some 5), .bin .eql (.tmp 3) (.const (.int .i64 3)) (some (.int .i64)), none⟩,
    ⟨(some 4), .mov (.tmp 5), none⟩])
  (.cond (.tmp 4)
  .skip
  (.ops [⟨(some 6), .bin .eql (.tmp 3) (.const (.int .i64 7)) (some (.int .i64)), none⟩,
    ⟨(some 4), .mov (.tmp 6), none⟩])))
  (.cond (.tmp 4)
  (.seq (.ops [⟨(some 2), .mov (.const (.int .i64 1)), none⟩])
  .ret)
  (.seq (.seq (.ops [⟨(some 8), .bin .eql (.tmp 3) (.const (.int .i64 4)) (some (.int .i64)), none⟩,
    ⟨(some 7), .mov (.tmp 8), none⟩])
  (.cond (.tmp 7)
  .skip
  (.ops [⟨(some 9), .bin .eql (.tmp 3) (.const (.int .i64 8)) (some (.int .i64)), none⟩,
    ⟨(some 7), .mov (.tmp 9), none⟩])))
  (.cond (.tmp 7)
  (.seq (.ops [⟨(some 2), .mov (.const (.int .i64 2)), none⟩])
  .ret)
  (.seq (.seq (.ops [⟨(some 11), .bin .eql (.tmp 3) (.const (.int .i64 5)) (some (.int .i64)), none⟩,
    ⟨(some 10), .mov (.tmp 11), none⟩])
  (.cond (.tmp 10)
  .skip
  (.ops [⟨(some 12), .bin .eql (.tmp 3) (.const (.int .i64 9)) (some (.int .i64)), none⟩,
    ⟨(some 10), .mov (.tmp 12), none⟩])))
  (.cond (.tmp 10)
  (.seq (.ops [⟨(some 2), .mov (.const (.int .i64 4)), none⟩])
  .ret)
  (.seq (.seq (.ops [⟨(some 14), .bin .eql (.tmp 3) (.const (.int .i64 6)) (some (.int .i64)), none⟩,
    ⟨(some 13), .mov (.tmp 14), none⟩])
  (.cond (.tmp 13)
  .skip
  (.seq (.ops [⟨(some 15), .bin .eql (.tmp 3) (.const (.int .i64 10)) (some (.int .i64)), none⟩,
    ⟨(some 13), .mov (.tmp 15), none⟩])
  (.cond (.tmp 13)
  .skip
  (.ops [⟨(some 16), .bin .eql (.tmp 3) (.const (.int .i64 11)) (some (.int .i64)), none⟩,
    ⟨(some 13), .mov (.tmp 16), none⟩])))))
  (.cond (.tmp 13)
  (.seq (.ops [⟨(some 2), .mov (.const (.int .i64 8)), none⟩])
  .ret)
  .skip))))))))))
  (.seq (.ops [⟨(some 2), .mov (.const (.int .i64 0)), none⟩])
  .ret)))⟩
theorem F193_ok : compF Tryz.prog 193 = some F193 := by kernel_rfl

/-- (*colonnade/array.Array).nullAt -/
def F194 : FC := ⟨47, [.tmp 4],
  (.seq (.ops [⟨(some 4), .mov (.const (.bool false)), none⟩])
  (.seq (.seq (.ops [⟨(some 7), .mov (.tmp 0), none⟩,
    ⟨(some 8), .nilCheck (.tmp 7), none⟩,
    ⟨(some 9), .fieldAddr 0 (.tmp 8), none⟩,
    ⟨(some 10), .fieldAddr 2 (.tmp 9), none⟩,
    ⟨(some 11), .fieldAddr 0 (.tmp 10), none⟩,
    ⟨(some 12), .load false 1 (.tmp 11), none⟩,
    ⟨(some 13), .bin .eql (.tmp 12) (.const (.int .i64 1)) (some (.int .i64)), none⟩])
  (.cond (.tmp 13)
  (.seq (.ops [⟨(some 4), .mov (.const (.bool true)), none⟩])
  .ret)
  .skip))
  (.seq (.seq (.ops [⟨(some 14), .mov (.tmp 0), none⟩,
    ⟨(some 15), .nilCheck (.tmp 14), none⟩,
    ⟨(some 16), .fieldAddr 0 (.tmp 15), none⟩,
    ⟨(some 17), .fieldAddr 2 (.tmp 16), none⟩,
    ⟨(some 18), .fieldAddr 0 (.tmp 17), none⟩,
    ⟨(some 19), .load false 1 (.tmp 18), none⟩,
    ⟨(some 20), .call 191 [(.tmp 19)], none⟩,
    ⟨(some 21), .un .not (.tmp 20), none⟩,
    ⟨(some 22), .mov (.tmp 21), none⟩,
    ⟨(some 23), .mov (.tmp 0), (some (22, false))⟩,
    ⟨(some 24), .nilCheck (.tmp 23), (some (22, false))⟩,
    ⟨(some 25), .fieldAddr 7 (.tmp 24), (some (22, false))⟩,
    ⟨(some 26), .fieldAddr 3 (.tmp 25), (some (22, false))⟩,
    ⟨(some 27), .load false 1 (.tmp 26), (some (22, false))⟩,
    ⟨(some 28), .indexAddr 1 (.tmp 27) (.const (.int .i64 0)), (some (22, false))⟩,
    ⟨(some 29), .load false 1 (.tmp 28), (some (22, false))⟩,
    ⟨(some 30), .len 1 (.tmp 29), (some (22, false))⟩,
    ⟨(some 31), .bin .eql (.tmp 30) (.const (.int .i64 0)) (some (.int .i64)), (some (22, false))⟩,
    ⟨(some 32), .pick (.tmp 22) (.const (.bool true)) (.tmp 31), none⟩])
  (.cond (.tmp 32)
  (.seq (.ops [⟨(some 4), .mov (.const (.bool false)), none⟩])
  .ret)
  .skip))
  (.seq (.ops [⟨(some 34), .mov (.tmp 0), none⟩,
    ⟨(some 35), .call 200 [(.tmp 34), (.const (.int .i64 0))], none⟩,
    ⟨(some 36), .mov (.tmp 1), none⟩,
    ⟨(some 37), .bin .quo (.tmp 36) (.const (.int .i64 8)) (some (.int .i64)), none⟩,
    ⟨(some 38), .call 201 [(.tmp 35), (.tmp 37)], none⟩,
    ⟨(some 33), .mov (.tmp 38), none⟩,
    ⟨(some 39), .extract (.tmp 33) 0, none⟩,
    ⟨(some 40), .extract (.tmp 33) 1, none⟩,
    ⟨(some 5), .mov (.tmp 39), none⟩,
    ⟨(some 6), .mov (.tmp 40), none⟩])
  (.seq (.ops [⟨(some 41), .mov (.tmp 5), none⟩,
    ⟨(some 42), .mov (.tmp 1), none⟩,
    ⟨(some 43), .bin .rem (.tmp 42) (.const (.int .i64 8)) (some (.int .i64)), none⟩,
    ⟨(some 44), .bin .shr (.tmp 41) (.tmp 43) (some (.int .u8)), none⟩,
    ⟨(some 45), .bin .and (.tmp 44) (.const (.int .u8 1)) (some (.int .u8)), none⟩,
    ⟨(some 46), .bin .eql (.tmp 45) (.const (.int .u8 0)) (some (.int .u8)), none⟩,
    ⟨(some 4), .mov (.tmp 46), none⟩])
  .ret)))))⟩
theorem F194_ok : compF Tryz.prog 194 = some F194 := by kernel_rfl

/-- colonnade/array.weigh -/
def F195 : FC := ⟨16, [],
  (.seq (.ops [⟨(some 4), .mov (.tmp 0), none⟩,
    ⟨(some 5), .nilCheck (.tmp 4), none⟩,
    ⟨(some 6), .load false 1 (.tmp 5), none⟩,
    ⟨(some 7), .mov (.tmp 1), none⟩,
    ⟨(some 8), .bin .sub (.tmp 6) (.tmp 7) (some (.int .i64)), none⟩,
    ⟨(some 9), .nilCheck (.tmp 4), none⟩,
    ⟨none, .store 1 (.tmp 9) (.tmp 8), none⟩])
  (.seq (.ops [⟨(some 10), .mov (.tmp 0), none⟩,
    ⟨(some 11), .nilCheck (.tmp 10), none⟩,
    ⟨(some 12), .load false 1 (.tmp 11), none⟩,
    ⟨(some 13), .bin .lss (.tmp 12) (.const (.int .i64 0)) (some (.int .i64)), none⟩])
  (.cond (.tmp 13)
  (.ops [⟨(some 14), .build [] [], none⟩,
    ⟨(some 15), .mkIface 248 (.tmp 14), none⟩,
    ⟨none, .bad, none⟩])
  .skip)))⟩
theorem F195_ok : compF Tryz.prog 195 = some F195 := by kernel_rfl

/-- colonnade/kind.copied -/
def F197 : FC := ⟨25, [.tmp 2],
  (.seq (.ops [⟨(some 2), .mov (.const (.slice none 0 0)), none⟩])
  (.seq (.ops [⟨(some 3), .mov (.const (.slice none 0 0)), none⟩])
  (.seq (.seq (.ops [⟨(some 6), .mov (.tmp 0), none⟩,
    ⟨(some 7), .len 1 (.tmp 6), none⟩,
    ⟨(some 8), .mov (.const (.int .i64 0)), none⟩])
  (.block 0 (.loop (.seq (.ops [⟨(some 9), .bin .lss (.tmp 8) (.tmp 7) (some (.int .i64)), none⟩])
  (.seq (.cond (.tmp 9)
  .skip
  (.exit 0))
  (.seq (.block 1 (.seq (.ops [⟨(some 10), .indexAddr 7 (.tmp 6) (.tmp 8), none⟩,
    ⟨(some 11), .load true 7 (.tmp 10), none⟩,
    ⟨(some 5), .alloc [(.string ⟨#[]⟩), (.bool false), (.int .i64 0), (.int .i64 0), (.int .i64 0), (.int .i64 0), (.slice none 0 0)], none⟩,
    ⟨none, .store 7 (.tmp 5) (.tmp 11), none⟩])
  (.seq (.ops [⟨(some 12), .fieldAddr 2 (.tmp 5), none⟩,
    ⟨(some 13), .fieldAddr 4 (.tmp 12), none⟩,
    ⟨(some 14), .load false 1 (.tmp 13), none⟩,
    ⟨(some 15), .call 197 [(.tmp 14)], none⟩,
    ⟨(some 16), .fieldAddr 2 (.tmp 5), none⟩,
    ⟨(some 17), .fieldAddr 4 (.tmp 16), none⟩,
    ⟨none, .store 1 (.tmp 17) (.tmp 15), none⟩])
  (.ops [⟨(some 18), .mov (.tmp 3), none⟩,
    ⟨(some 19), .load true 7 (.tmp 5), none⟩,
    ⟨(some 20), .buildSlice 7 1 [(.string ⟨#[]⟩), (.bool false), (.int .i64 0), (.int .i64 0), (.int .i64 0), (.int .i64 0), (.slice none 0 0)] [(0, 7, (.tmp 19))], none⟩,
    ⟨(some 21), .append 7 80 (.tmp 18) (.tmp 20), none⟩,
    ⟨(some 3), .mov (.tmp 21), none⟩]))))
  (.ops [⟨(some 22), .bin .add (.tmp 8) (.const (.int .i64 1)) (some (.int .i64)), none⟩,
    ⟨(some 8), .mov (.tmp 22), none⟩])))))))
  (.seq (.ops [⟨(some 23), .mov (.tmp 3), none⟩,
    ⟨(some 24), .call 207 [(.tmp 23)], none⟩,
    ⟨(some 2), .mov (.tmp 24), none⟩])
  .ret))))⟩
theorem F197_ok : compF Tryz.prog 197 = some F197 := by kernel_rfl

/-- (*colonnade/array.Array).bytes -/
def F200 : FC := ⟨19, [.cell 4 true 3],
  (.seq (.ops [⟨(some 4), .alloc [(.slice none 0 0), (.int .i64 0), (.pointer none)], none⟩])
  (.seq (.ops [⟨(some 5), .mov (.tmp 0), none⟩,
    ⟨(some 6), .nilCheck (.tmp 5), none⟩,
    ⟨(some 7), .fieldAddr 7 (.tmp 6), none⟩,
    ⟨(some 8), .fieldAddr 3 (.tmp 7), none⟩,
    ⟨(some 9), .load false 1 (.tmp 8), none⟩,
    ⟨(some 10), .mov (.tmp 1), none⟩,
    ⟨(some 11), .indexAddr 1 (.tmp 9) (.tmp 10), none⟩,
    ⟨(some 12), .load false 1 (.tmp 11), none⟩,
    ⟨(some 14), .mov (.tmp 0), none⟩,
    ⟨(some 15), .nilCheck (.tmp 14), none⟩,
    ⟨(some 16), .fieldAddr 15 (.tmp 15), none⟩,
    ⟨(some 17), .load false 1 (.tmp 16), none⟩,
    ⟨(some 13), .call 208 [(.tmp 12)], none⟩,
    ⟨none, .again 17 false 1 (.tmp 16), none⟩,
    ⟨(some 18), .call 209 [(.tmp 13), (.tmp 17)], none⟩,
    ⟨none, .store 3 (.tmp 4) (.tmp 18), none⟩])
  .ret))⟩
theorem F200_ok : compF Tryz.prog 200 = some F200 := by kernel_rfl

/-- slices.Clip[[]colonnade/api.Field,colonnade/api.Field] -/
def F207 : FC := ⟨9, [.tmp 2],
  (.seq (.ops [⟨(some 2), .mov (.const (.slice none 0 0)), none⟩])
  (.seq (.ops [⟨(some 3), .mov (.tmp 0), none⟩,
    ⟨(some 4), .mov (.tmp 0), none⟩,
    ⟨(some 5), .len 1 (.tmp 4), none⟩,
    ⟨(some 6), .mov (.tmp 0), none⟩,
    ⟨(some 7), .len 1 (.tmp 6), none⟩,
    ⟨(some 8), .slice 7 (.tmp 3) none (some (.tmp 5)) (some (.tmp 7)), none⟩,
    ⟨(some 2), .mov (.tmp 8), none⟩])
  .ret))⟩
theorem F207_ok : compF Tryz.prog 207 = some F207 := by kernel_rfl

/-- colonnade/view.Of -/
def F208 : FC := ⟨10, [.cell 2 true 3],
  (.seq (.ops [⟨(some 2), .alloc [(.slice none 0 0), (.int .i64 0), (.pointer none)], none⟩])
  (.seq (.ops [⟨(some 3), .mov (.tmp 0), none⟩,
    ⟨(some 4), .mov (.tmp 0), none⟩,
    ⟨(some 5), .len 1 (.tmp 4), none⟩,
    ⟨(some 6), .mov (.tmp 0), none⟩,
    ⟨(some 7), .len 1 (.tmp 6), none⟩,
    ⟨(some 8), .slice 1 (.tmp 3) none (some (.tmp 5)) (some (.tmp 7)), none⟩,
    ⟨(some 9), .build [(.slice none 0 0), (.int .i64 0), (.pointer none)] [(0, 1, (.tmp 8))], none⟩,
    ⟨none, .store 3 (.tmp 2) (.tmp 9), none⟩])
  .ret))⟩
theorem F208_ok : compF Tryz.prog 208 = some F208 := by kernel_rfl

/-- (colonnade/view.View).Watched -/
def F209 : FC := ⟨8, [.cell 4 true 3],
  (.seq (.ops [⟨(some 2), .box (.tmp 0), none⟩,
    ⟨(some 4), .alloc [(.slice none 0 0), (.int .i64 0), (.pointer none)], none⟩])
  (.seq (.ops [⟨(some 5), .mov (.tmp 1), none⟩,
    ⟨(some 6), .fieldAddr 2 (.tmp 2), none⟩,
    ⟨none, .store 1 (.tmp 6) (.tmp 5), none⟩])
  (.seq (.ops [⟨(some 7), .load true 3 (.tmp 2), none⟩,
    ⟨none, .store 3 (.tmp 4) (.tmp 7), none⟩])
  .ret)))⟩
theorem F209_ok : compF Tryz.prog 209 = some F209 := by kernel_rfl

/-- (colonnade/view.View).there -/
def F210 : FC := ⟨29, [.tmp 6],
  (.seq (.ops [⟨(some 3), .box (.tmp 0), none⟩,
    ⟨(some 6), .mov (.const (.bool false)), none⟩])
  (.seq (.ops [⟨(some 7), .mov (.tmp 1), none⟩,
    ⟨(some 8), .bin .geq (.tmp 7) (.const (.int .i64 0)) (some (.int .i64)), none⟩,
    ⟨(some 9), .mov (.tmp 8), none⟩,
    ⟨(some 10), .mov (.tmp 2), (some (9, true))⟩,
    ⟨(some 11), .bin .geq (.tmp 10) (.const (.int .i64 0)) (some (.int .i64)), (some (9, true))⟩,
    ⟨(some 12), .pick (.tmp 9) (.tmp 11) (.const (.bool false)), none⟩,
    ⟨(some 13), .mov (.tmp 12), none⟩,
    ⟨(some 14), .mov (.tmp 1), (some (13, true))⟩,
    ⟨(some 15), .fieldAddr 0 (.tmp 3), (some (13, true))⟩,
    ⟨(some 16), .load false 1 (.tmp 15), (some (13, true))⟩,
    ⟨(some 17), .len 1 (.tmp 16), (some (13, true))⟩,
    ⟨(some 18), .bin .leq (.tmp 14) (.tmp 17) (some (.int .i64)), (some (13, true))⟩,
    ⟨(some 19), .pick (.tmp 13) (.tmp 18) (.const (.bool false)), none⟩,
    ⟨(some 20), .mov (.tmp 19), none⟩,
    ⟨(some 21), .mov (.tmp 2), (some (20, true))⟩,
    ⟨(some 22), .fieldAddr 0 (.tmp 3), (some (20, true))⟩,
    ⟨(some 23), .load false 1 (.tmp 22), (some (20, true))⟩,
    ⟨(some 24), .len 1 (.tmp 23), (some (20, true))⟩,
    ⟨(some 25), .mov (.tmp 1), (some (20, true))⟩,
    ⟨(some 26), .bin .sub (.tmp 24) (.tmp 25) (some (.int .i64)), (some (20, true))⟩,
    ⟨(some 27), .bin .leq (.tmp 21) (.tmp 26) (some (.int .i64)), (some (20, true))⟩,
    ⟨(some 28), .pick (.tmp 20) (.tmp 27) (.const (.bool false)), none⟩,
    ⟨(some 6), .mov (.tmp 28), none⟩])
  .ret))⟩
theorem F210_ok : compF Tryz.prog 210 = some F210 := by kernel_rfl

/-- (colonnade/view.View).read -/
def F211 : FC := ⟨46, [.tmp 6],
  (.seq (.ops [⟨(some 3), .box (.tmp 0), none⟩,
    ⟨(some 6), .mov (.const (.slice none 0 0)), none⟩])
  (.seq (.seq (.ops [⟨(some 7), .fieldAddr 2 (.tmp 3), none⟩,
    ⟨(some 8), .load false 1 (.tmp 7), none⟩,
    ⟨(some 9), .bin .neq (.tmp 8) (.const (.pointer none)) (some (.pointer 301)), none⟩,
    ⟨(some 10), .mov (.tmp 9), none⟩,
    ⟨(some 11), .mov (.tmp 2), (some (10, true))⟩,
    ⟨(some 12), .bin .gtr (.tmp 11) (.const (.int .i64 0)) (some (.int .i64)), (some (10, true))⟩,
    ⟨(some 13), .pick (.tmp 10) (.tmp 12) (.const (.bool false)), none⟩])
  (.cond (.tmp 13)
  (.ops [⟨(some 14), .fieldAddr 2 (.tmp 3), none⟩,
    ⟨(some 15), .load false 1 (.tmp 14), none⟩,
    ⟨(some 16), .fieldAddr 2 (.tmp 3), none⟩,
    ⟨(some 17), .load false 1 (.tmp 16), none⟩,
    ⟨(some 18), .nilCheck (.tmp 17), none⟩,
    ⟨(some 19), .fieldAddr 0 (.tmp 18), none⟩,
    ⟨(some 20), .load false 1 (.tmp 19), none⟩,
    ⟨(some 21), .fieldAddr 1 (.tmp 3), none⟩,
    ⟨(some 22), .load false 1 (.tmp 21), none⟩,
    ⟨(some 23), .mov (.tmp 1), none⟩,
    ⟨(some 24), .bin .add (.tmp 22) (.tmp 23) (some (.int .i64)), none⟩,
    ⟨(some 25), .fieldAddr 1 (.tmp 3), none⟩,
    ⟨(some 26), .load false 1 (.tmp 25), none⟩,
    ⟨(some 27), .mov (.tmp 1), none⟩,
    ⟨(some 28), .bin .add (.tmp 26) (.tmp 27) (some (.int .i64)), none⟩,
    ⟨(some 29), .mov (.tmp 2), none⟩,
    ⟨(some 30), .bin .add (.tmp 28) (.tmp 29) (some (.int .i64)), none⟩,
    ⟨(some 31), .build [(.int .i64 0), (.int .i64 0)] [(0, 1, (.tmp 24)), (1, 1, (.tmp 30))], none⟩,
    ⟨(some 32), .buildSlice 2 1 [(.int .i64 0), (.int .i64 0)] [(0, 2, (.tmp 31))], none⟩,
    ⟨none, .again 20 false 1 (.tmp 19), none⟩,
    ⟨none, .again 17 false 1 (.tmp 16), none⟩,
    ⟨none, .again 15 false 1 (.tmp 14), none⟩,
    ⟨(some 33), .append 2 16 (.tmp 20) (.tmp 32), none⟩,
    ⟨none, .again 15 false 1 (.tmp 14), none⟩,
    ⟨(some 34), .nilCheck (.tmp 15), none⟩,
    ⟨(some 35), .fieldAddr 0 (.tmp 34), none⟩,
    ⟨none, .store 1 (.tmp 35) (.tmp 33), none⟩])
  .skip))
  (.seq (.ops [⟨(some 36), .fieldAddr 0 (.tmp 3), none⟩,
    ⟨(some 37), .load false 1 (.tmp 36), none⟩,
    ⟨(some 38), .mov (.tmp 1), none⟩,
    ⟨(some 39), .mov (.tmp 1), none⟩,
    ⟨(some 40), .mov (.tmp 2), none⟩,
    ⟨(some 41), .bin .add (.tmp 39) (.tmp 40) (some (.int .i64)), none⟩,
    ⟨(some 42), .mov (.tmp 1), none⟩,
    ⟨(some 43), .mov (.tmp 2), none⟩,
    ⟨(some 44), .bin .add (.tmp 42) (.tmp 43) (some (.int .i64)), none⟩,
    ⟨(some 45), .slice 1 (.tmp 37) (some (.tmp 38)) (some (.tmp 41)) (some (.tmp 44)), none⟩,
    ⟨(some 6), .mov (.tmp 45), none⟩])
  .ret)))⟩
theorem F211_ok : compF Tryz.prog 211 = some F211 := by kernel_rfl

/-- (*colonnade/build.base).data -/
def F245 : FC := ⟨15, [.cell 4 true 6],
  (.seq (.ops [⟨(some 4), .alloc [(.int .i64 0), (.int .i64 0), (.int .i64 0), (.slice none 0 0), (.slice none 0 0), (.slice none 0 0)], none⟩])
  (.seq (.ops [⟨(some 5), .mov (.tmp 0), none⟩,
    ⟨(some 6), .nilCheck (.tmp 5), none⟩,
    ⟨(some 7), .fieldAddr 7 (.tmp 6), none⟩,
    ⟨(some 8), .load false 1 (.tmp 7), none⟩,
    ⟨(some 9), .mov (.tmp 0), none⟩,
    ⟨(some 10), .nilCheck (.tmp 9), none⟩,
    ⟨(some 11), .fieldAddr 8 (.tmp 10), none⟩,
    ⟨(some 12), .load false 1 (.tmp 11), none⟩,
    ⟨(some 13), .mov (.tmp 1), none⟩,
    ⟨(some 14), .build [(.int .i64 0), (.int .i64 0), (.int .i64 0), (.slice none 0 0), (.slice none 0 0), (.slice none 0 0)] [(0, 1, (.tmp 8)), (2, 1, (.tmp 12)), (3, 1, (.tmp 13))], none⟩,
    ⟨none, .store 6 (.tmp 4) (.tmp 14), none⟩])
  .ret))⟩
theorem F245_ok : compF Tryz.prog 245 = some F245 := by kernel_rfl

/-- (*colonnade/build.base).marked -/
def F246 : FC := ⟨27, [.tmp 2],
  (.seq (.ops [⟨(some 1), .box (.tmp 0), none⟩,
    ⟨(some 2), .mov (.const .nilFunc), none⟩])
  (.seq (.ops [⟨(some 5), .load false 1 (.tmp 1), none⟩,
    ⟨(some 6), .nilCheck (.tmp 5), none⟩,
    ⟨(some 7), .load true 16 (.tmp 6), none⟩,
    ⟨(some 3), .alloc [(.string ⟨#[]⟩), (.bool false), (.int .i64 0), (.int .i64 0), (.int .i64 0), (.int .i64 0), (.slice none 0 0), (.int .i64 0), (.int .i64 0), (.slice none 0 0), (.int .i64 0), (.bool false), (.int .i64 0), (.string ⟨#[]⟩), (.slice none 0 0), (.bool false)], none⟩,
    ⟨none, .store 16 (.tmp 3) (.tmp 7), none⟩])
  (.seq (.ops [⟨(some 4), .alloc [(.int .u8 0)], none⟩,
    ⟨none, .store 1 (.tmp 4) (.const (.int .u8 0)), none⟩])
  (.seq (.seq (.ops [⟨(some 8), .load false 1 (.tmp 1), none⟩,
    ⟨(some 9), .nilCheck (.tmp 8), none⟩,
    ⟨(some 10), .fieldAddr 9 (.tmp 9), none⟩,
    ⟨(some 11), .load false 1 (.tmp 10), none⟩,
    ⟨(some 12), .len 1 (.tmp 11), none⟩,
    ⟨(some 13), .bin .gtr (.tmp 12) (.const (.int .i64 0)) (some (.int .i64)), none⟩])
  (.cond (.tmp 13)
  (.ops [⟨(some 14), .load false 1 (.tmp 1), none⟩,
    ⟨(some 15), .nilCheck (.tmp 14), none⟩,
    ⟨(some 16), .fieldAddr 9 (.tmp 15), none⟩,
    ⟨(some 17), .load false 1 (.tmp 16), none⟩,
    ⟨(some 18), .load false 1 (.tmp 1), none⟩,
    ⟨(some 19), .nilCheck (.tmp 18), none⟩,
    ⟨(some 20), .fieldAddr 9 (.tmp 19), none⟩,
    ⟨(some 21), .load false 1 (.tmp 20), none⟩,
    ⟨(some 22), .len 1 (.tmp 21), none⟩,
    ⟨(some 23), .bin .sub (.tmp 22) (.const (.int .i64 1)) (some (.int .i64)), none⟩,
    ⟨(some 24), .indexAddr 1 (.tmp 17) (.tmp 23), none⟩,
    ⟨(some 25), .load false 1 (.tmp 24), none⟩,
    ⟨none, .store 1 (.tmp 4) (.tmp 25), none⟩])
  .skip))
  (.seq (.ops [⟨(some 26), .mkFunc (.func 249) [] [(.tmp 3), (.tmp 1), (.tmp 4)], none⟩,
    ⟨(some 2), .mov (.tmp 26), none⟩])
  .ret)))))⟩
theorem F246_ok : compF Tryz.prog 246 = some F246 := by kernel_rfl

/-- (*colonnade/build.base).row -/
def F247 : FC := ⟨59, [.tmp 4],
  (.seq (.ops [⟨(some 4), .mov (.const (.int .i64 0)), none⟩])
  (.seq (.seq (.ops [⟨(some 5), .mov (.tmp 0), none⟩,
    ⟨(some 6), .nilCheck (.tmp 5), none⟩,
    ⟨(some 7), .fieldAddr 7 (.tmp 6), none⟩,
    ⟨(some 8), .load false 1 (.tmp 7), none⟩,
    ⟨(some 9), .bin .geq (.tmp 8) (.const (.int .i64 4096)) (some (.int .i64)), none⟩])
  (.cond (.tmp 9)
  (.seq (.ops [⟨(some 4), .mov (.const (.int .i64 3)), none⟩])
  .ret)
  .skip))
  (.seq (.seq (.ops [⟨(some 10), .mov (.tmp 0), none⟩,
    ⟨(some 11), .nilCheck (.tmp 10), none⟩,
    ⟨(some 12), .fieldAddr 7 (.tmp 11), none⟩,
    ⟨(some 13), .load false 1 (.tmp 12), none⟩,
    ⟨(some 14), .bin .rem (.tmp 13) (.const (.int .i64 8)) (some (.int .i64)), none⟩,
    ⟨(some 15), .bin .eql (.tmp 14) (.const (.int .i64 0)) (some (.int .i64)), none⟩])
  (.cond (.tmp 15)
  (.ops [⟨(some 16), .mov (.tmp 0), none⟩,
    ⟨(some 17), .mov (.tmp 0), none⟩,
    ⟨(some 18), .nilCheck (.tmp 17), none⟩,
    ⟨(some 19), .fieldAddr 9 (.tmp 18), none⟩,
    ⟨(some 20), .load false 1 (.tmp 19), none⟩,
    ⟨(some 21), .buildSlice 1 1 [(.int .u8 0)] [(0, 1, (.const (.int .u8 0)))], none⟩,
    ⟨(some 22), .append 1 1 (.tmp 20) (.tmp 21), none⟩,
    ⟨(some 23), .nilCheck (.tmp 16), none⟩,
    ⟨(some 24), .fieldAddr 9 (.tmp 23), none⟩,
    ⟨none, .store 1 (.tmp 24) (.tmp 22), none⟩])
  .skip))
  (.seq (.seq (.ops [⟨(some 25), .mov (.tmp 1), none⟩])
  (.cond (.tmp 25)
  (.ops [⟨(some 26), .mov (.tmp 0), none⟩,
    ⟨(some 27), .nilCheck (.tmp 26), none⟩,
    ⟨(some 28), .fieldAddr 8 (.tmp 27), none⟩,
    ⟨(some 29), .load false 1 (.tmp 28), none⟩,
    ⟨(some 30), .bin .add (.tmp 29) (.const (.int .i64 1)) (some (.int .i64)), none⟩,
    ⟨(some 31), .nilCheck (.tmp 26), none⟩,
    ⟨(some 32), .fieldAddr 8 (.tmp 31), none⟩,
    ⟨none, .store 1 (.tmp 32) (.tmp 30), none⟩])
  (.ops [⟨(some 33), .mov (.tmp 0), none⟩,
    ⟨(some 34), .nilCheck (.tmp 33), none⟩,
    ⟨(some 35), .fieldAddr 9 (.tmp 34), none⟩,
    ⟨(some 36), .load false 1 (.tmp 35), none⟩,
    ⟨(some 37), .mov (.tmp 0), none⟩,
    ⟨(some 38), .nilCheck (.tmp 37), none⟩,
    ⟨(some 39), .fieldAddr 7 (.tmp 38), none⟩,
    ⟨(some 40), .load false 1 (.tmp 39), none⟩,
    ⟨(some 41), .bin .quo (.tmp 40) (.const (.int .i64 8)) (some (.int .i64)), none⟩,
    ⟨(some 42), .indexAddr 1 (.tmp 36) (.tmp 41), none⟩,
    ⟨(some 43), .load false 1 (.tmp 42), none⟩,
    ⟨(some 44), .mov (.tmp 0), none⟩,
    ⟨(some 45), .nilCheck (.tmp 44), none⟩,
    ⟨(some 46), .fieldAddr 7 (.tmp 45), none⟩,
    ⟨(some 47), .load false 1 (.tmp 46), none⟩,
    ⟨(some 48), .bin .rem (.tmp 47) (.const (.int .i64 8)) (some (.int .i64)), none⟩,
    ⟨(some 49), .bin .shl (.const (.int .u8 1)) (.tmp 48) (some (.int .u8)), none⟩,
    ⟨(some 50), .bin .or (.tmp 43) (.tmp 49) (some (.int .u8)), none⟩,
    ⟨(some 51), .indexAddr 1 (.tmp 36) (.tmp 41), none⟩,
    ⟨none, .store 1 (.tmp 51) (.tmp 50), none⟩])))
  (.seq (.ops [⟨(some 52), .mov (.tmp 0), none⟩,
    ⟨(some 53), .nilCheck (.tmp 52), none⟩,
    ⟨(some 54), .fieldAddr 7 (.tmp 53), none⟩,
    ⟨(some 55), .load false 1 (.tmp 54), none⟩,
    ⟨(some 56), .bin .add (.tmp 55) (.const (.int .i64 1)) (some (.int .i64)), none⟩,
    ⟨(some 57), .nilCheck (.tmp 52), none⟩,
    ⟨(some 58), .fieldAddr 7 (.tmp 57), none⟩,
    ⟨none, .store 1 (.tmp 58) (.tmp 56), none⟩])
  (.seq (.ops [⟨(some 4), .mov (.const (.int .i64 0)), none⟩])
  .ret))))))⟩
theorem F247_ok : compF Tryz.prog 247 = some F247 := by kernel_rfl

/-- (*colonnade/build.base).weighs -/
def F248 : FC := ⟨18, [.tmp 4],
  (.seq (.ops [⟨(some 4), .mov (.const (.int .i64 0)), none⟩])
  (.seq (.seq (.ops [⟨(some 5), .mov (.tmp 0), none⟩,
    ⟨(some 6), .nilCheck (.tmp 5), none⟩,
    ⟨(some 7), .fieldAddr 10 (.tmp 6), none⟩,
    ⟨(some 8), .load false 1 (.tmp 7), none⟩,
    ⟨(some 9), .mov (.tmp 1), none⟩,
    ⟨(some 10), .bin .add (.tmp 8) (.tmp 9) (some (.int .i64)), none⟩,
    ⟨(some 11), .nilCheck (.tmp 5), none⟩,
    ⟨(some 12), .fieldAddr 10 (.tmp 11), none⟩,
    ⟨none, .store 1 (.tmp 12) (.tmp 10), none⟩])
  (.seq (.ops [⟨(some 13), .mov (.tmp 0), none⟩,
    ⟨(some 14), .nilCheck (.tmp 13), none⟩,
    ⟨(some 15), .fieldAddr 10 (.tmp 14), none⟩,
    ⟨(some 16), .load false 1 (.tmp 15), none⟩,
    ⟨(some 17), .bin .gtr (.tmp 16) (.const (.int .i64 4194304)) (some (.int .i64)), none⟩])
  (.cond (.tmp 17)
  (.seq (.ops [⟨(some 4), .mov (.const (.int .i64 3)), none⟩])
  .ret)
  .skip)))
  (.seq (.ops [⟨(some 4), .mov (.const (.int .i64 0)), none⟩])
  .ret)))⟩
theorem F248_ok : compF Tryz.prog 248 = some F248 := by kernel_rfl

/-- (*colonnade/build.base).validity -/
def F254 : FC := ⟨13, [.tmp 2],
  (.seq (.ops [⟨(some 2), .mov (.const (.slice none 0 0)), none⟩])
  (.seq (.seq (.ops [⟨(some 3), .mov (.tmp 0), none⟩,
    ⟨(some 4), .nilCheck (.tmp 3), none⟩,
    ⟨(some 5), .fieldAddr 8 (.tmp 4), none⟩,
    ⟨(some 6), .load false 1 (.tmp 5), none⟩,
    ⟨(some 7), .bin .eql (.tmp 6) (.const (.int .i64 0)) (some (.int .i64)), none⟩])
  (.cond (.tmp 7)
  (.seq (.ops [⟨(some 2), .mov (.const (.slice none 0 0)), none⟩])
  .ret)
  .skip))
  (.seq (.ops [⟨(some 8), .mov (.tmp 0), none⟩,
    ⟨(some 9), .nilCheck (.tmp 8), none⟩,
    ⟨(some 10), .fieldAddr 9 (.tmp 9), none⟩,
    ⟨(some 11), .load false 1 (.tmp 10), none⟩,
    ⟨(some 12), .call 256 [(.tmp 11)], none⟩,
    ⟨(some 2), .mov (.tmp 12), none⟩])
  .ret)))⟩
theorem F254_ok : compF Tryz.prog 254 = some F254 := by kernel_rfl

/-- colonnade/build.width -/
def F288 : FC := ⟨13, [.tmp 2],
  (.seq (.ops [⟨(some 2), .mov (.const (.int .i64 0)), none⟩])
  (.seq (.seq (.ops [⟨(some 3), .mov (.tmp 0), none⟩])
  (.block 0 (.seq (.seq (.ops [⟨(some 5), .bin .eql (.tmp 3) (.const (.int .i64 3)) (some (.int .i64)), none⟩,
    ⟨(some 4), .mov (.tmp 5), none⟩])
  (.cond (.tmp 4)
  .skip
  (.ops [⟨(some 6), .bin .eql (.tmp 3) (.const (.int .i64 7)) (some (.int .i64)), none⟩,
    ⟨(some 4), .mov (.tmp 6), none⟩])))
  (.cond (.tmp 4)
  (.seq (.ops [⟨(some 2), .mov (.const (.int .i64 1)), none⟩])
  .ret)
  (.seq (.seq (.ops [⟨(some 8), .bin .eql (.tmp 3) (.const (.int .i64 4)) (some (.int .i64)), none⟩,
    ⟨(some 7), .mov (.tmp 8), none⟩])
  (.cond (.tmp 7)
  .skip
  (.ops [⟨(some 9), .bin .eql (.tmp 3) (.const (.int .i64 8)) (some (.int .i64)), none⟩,
    ⟨(some 7), .mov (.tmp 9), none⟩])))
  (.cond (.tmp 7)
  (.seq (.ops [⟨(some 2), .mov (.const (.int .i64 2)), none⟩])
  .ret)
  (.seq (.seq (.ops [⟨(some 11), .bin .eql (.tmp 3) (.const (.int .i64 5)) (some (.int .i64)), none⟩,
    ⟨(some 10), .mov (.tmp 11), none⟩])
  (.cond (.tmp 10)
  .skip
  (.ops [⟨(some 12), .bin .eql (.tmp 3) (.const (.int .i64 9)) (some (.int .i64)), none⟩,
    ⟨(some 10), .mov (.tmp 12), none⟩])))
  (.cond (.tmp 10)
  (.seq (.ops [⟨(some 2), .mov (.const (.int .i64 4)), none⟩])
  .ret)
  .skip))))))))
  (.seq (.ops [⟨(some 2), .mov (.const (.int .i64 8)), none⟩])
  .ret)))⟩
theorem F288_ok : compF Tryz.prog 288 = some F288 := by kernel_rfl

/-- (*colonnade/build.plains).done -/
def F304 : FC := ⟨98, [.cell 2 true 6],
  (.seq (.ops [⟨(some 2), .alloc [(.int .i64 0), (.int .i64 0), (.int .i64 0), (.slice none 0 0), (.slice none 0 0), (.slice none 0 0)], none⟩])
  (.seq (.ops [⟨(some 3), .mov (.const (.slice none 0 0)), none⟩])
  (.seq (.seq (.ops [⟨(some 9), .mov (.tmp 0), none⟩,
    ⟨(some 10), .nilCheck (.tmp 9), none⟩,
    ⟨(some 11), .fieldAddr 0 (.tmp 10), none⟩,
    ⟨(some 12), .fieldAddr 0 (.tmp 11), none⟩,
    ⟨(some 13), .fieldAddr 2 (.tmp 12), none⟩,
    ⟨(some 14), .load true 5 (.tmp 13), none⟩,
    ⟨(some 4), .alloc [(.int .i64 0), (.int .i64 0), (.int .i64 0), (.int .i64 0), (.slice none 0 0)], none⟩,
    ⟨none, .store 5 (.tmp 4) (.tmp 14), none⟩])
  (.seq (.ops [⟨(some 15), .fieldAddr 0 (.tmp 4), none⟩,
    ⟨(some 16), .load false 1 (.tmp 15), none⟩])
  (.block 0 (.seq (.ops [⟨(some 26), .bin .eql (.tmp 16) (.const (.int .i64 2)) (some (.int .i64)), none⟩,
    ⟨(some 25), .mov (.tmp 26), none⟩])
  (.cond (.tmp 25)
  (.seq (.ops [⟨(some 27), .mov (.tmp 0), none⟩,
    ⟨(some 28), .nilCheck (.tmp 27), none⟩,
    ⟨(some 29), .fieldAddr 16 (.tmp 28), none⟩,
    ⟨(some 30), .load false 1 (.tmp 29), none⟩,
    ⟨(some 31), .len 1 (.tmp 30), none⟩,
    ⟨(some 32), .bin .add (.tmp 31) (.const (.int .i64 7)) (some (.int .i64)), none⟩,
    ⟨(some 33), .bin .quo (.tmp 32) (.const (.int .i64 8)) (some (.int .i64)), none⟩,
    ⟨(some 34), .mkSlice 1 1 [(.int .u8 0)] (.tmp 33) (.tmp 33), none⟩,
    ⟨(some 3), .mov (.tmp 34), none⟩])
  (.seq (.ops [⟨(some 35), .mov (.tmp 0), none⟩,
    ⟨(some 36), .nilCheck (.tmp 35), none⟩,
    ⟨(some 37), .fieldAddr 16 (.tmp 36), none⟩,
    ⟨(some 38), .load false 1 (.tmp 37), none⟩,
    ⟨(some 39), .len 1 (.tmp 38), none⟩,
    ⟨(some 40), .mov (.const (.int .i64 0)), none⟩])
  (.block 1 (.loop (.seq (.ops [⟨(some 41), .bin .lss (.tmp 40) (.tmp 39) (some (.int .i64)), none⟩])
  (.seq (.cond (.tmp 41)
  .skip
  (.exit 1))
  (.seq (.block 2 (.seq (.ops [⟨(some 42), .mov (.tmp 40), none⟩,
    ⟨(some 43), .indexAddr 1 (.tmp 38) (.tmp 40), none⟩,
    ⟨(some 44), .load false 1 (.tmp 43), none⟩,
    ⟨(some 5), .mov (.tmp 42), none⟩,
    ⟨(some 6), .mov (.tmp 44), none⟩])
  (.ops [⟨(some 45), .mov (.tmp 3), none⟩,
    ⟨(some 46), .mov (.tmp 5), none⟩,
    ⟨(some 47), .bin .quo (.tmp 46) (.const (.int .i64 8)) (some (.int .i64)), none⟩,
    ⟨(some 48), .indexAddr 1 (.tmp 45) (.tmp 47), none⟩,
    ⟨(some 49), .load false 1 (.tmp 48), none⟩,
    ⟨(some 50), .mov (.tmp 6), none⟩,
    ⟨(some 51), .conv .u8 (.tmp 50), none⟩,
    ⟨(some 52), .mov (.tmp 5), none⟩,
    ⟨(some 53), .bin .rem (.tmp 52) (.const (.int .i64 8)) (some (.int .i64)), none⟩,
    ⟨(some 54), .bin .shl (.tmp 51) (.tmp 53) (some (.int .u8)), none⟩,
    ⟨(some 55), .bin .or (.tmp 49) (.tmp 54) (some (.int .u8)), none⟩,
    ⟨(some 56), .indexAddr 1 (.tmp 45) (.tmp 47), none⟩,
    ⟨none, .store 1 (.tmp 56) (.tmp 55), none⟩])))
  (.ops [⟨(some 57), .bin .add (.tmp 40) (.const (.int .i64 1)) (some (.int .i64)), none⟩,
    ⟨(some 40), .mov (.tmp 57), none⟩]))))))))
  (.seq (.ops [⟨(some 59), .bin .eql (.tmp 16) (.const (.int .i64 14)) (some (.int .i64)), none⟩,
    ⟨(some 58), .mov (.tmp 59), none⟩])
  (.cond (.tmp 58)
  (.seq (.ops [⟨(some 60), .mov (.tmp 0), none⟩,
    ⟨(some 61), .nilCheck (.tmp 60), none⟩,
    ⟨(some 62), .fieldAddr 17 (.tmp 61), none⟩,
    ⟨(some 63), .load false 1 (.tmp 62), none⟩,
    ⟨(some 64), .len 1 (.tmp 63), none⟩,
    ⟨(some 65), .fieldAddr 1 (.tmp 4), none⟩,
    ⟨(some 66), .load false 1 (.tmp 65), none⟩,
    ⟨(some 67), .bin .mul (.tmp 64) (.tmp 66) (some (.int .i64)), none⟩,
    ⟨(some 68), .mkSlice 1 1 [(.int .u8 0)] (.tmp 67) (.tmp 67), none⟩,
    ⟨(some 3), .mov (.tmp 68), none⟩])
  (.seq (.ops [⟨(some 69), .mov (.tmp 0), none⟩,
    ⟨(some 70), .nilCheck (.tmp 69), none⟩,
    ⟨(some 71), .fieldAddr 17 (.tmp 70), none⟩,
    ⟨(some 72), .load false 1 (.tmp 71), none⟩,
    ⟨(some 73), .len 1 (.tmp 72), none⟩,
    ⟨(some 74), .mov (.const (.int .i64 0)), none⟩])
  (.block 3 (.loop (.seq (.ops [⟨(some 75), .bin .lss (.tmp 74) (.tmp 73) (some (.int .i64)), none⟩])
  (.seq (.cond (.tmp 75)
  .skip
  (.exit 3))
  (.seq (.block 4 (.seq (.ops [⟨(some 76), .mov (.tmp 74), none⟩,
    ⟨(some 77), .indexAddr 1 (.tmp 72) (.tmp 74), none⟩,
    ⟨(some 78), .load false 1 (.tmp 77), none⟩,
    ⟨(some 7), .mov (.tmp 76), none⟩,
    ⟨(some 8), .mov (.tmp 78), none⟩])
  (.ops [⟨(some 79), .mov (.tmp 3), none⟩,
    ⟨(some 80), .mov (.tmp 7), none⟩,
    ⟨(some 81), .fieldAddr 1 (.tmp 4), none⟩,
    ⟨(some 82), .load false 1 (.tmp 81), none⟩,
    ⟨(some 83), .bin .mul (.tmp 80) (.tmp 82) (some (.int .i64)), none⟩,
    ⟨(some 84), .slice 1 (.tmp 79) (some (.tmp 83)) none none, none⟩,
    ⟨(some 85), .mov (.tmp 8), none⟩,
    ⟨(some 86), .copy 1 (.tmp 84) (.tmp 85), none⟩])))
  (.ops [⟨(some 87), .bin .add (.tmp 74) (.const (.int .i64 1)) (some (.int .i64)), none⟩,
    ⟨(some 74), .mov (.tmp 87), none⟩]))))))))
  (.ops [⟨(some 17), .mov (.tmp 0), none⟩,
    ⟨(some 18), .nilCheck (.tmp 17), none⟩,
    ⟨(some 19), .fieldAddr 16 (.tmp 18), none⟩,
    ⟨(some 20), .load false 1 (.tmp 19), none⟩,
    ⟨(some 21), .fieldAddr 0 (.tmp 4), none⟩,
    ⟨(some 22), .load false 1 (.tmp 21), none⟩,
    ⟨(some 23), .call 288 [(.tmp 22)], none⟩,
    ⟨none, .again 20 false 1 (.tmp 19), none⟩,
    ⟨(some 24), .call 308 [(.tmp 20), (.tmp 23)], none⟩,
    ⟨(some 3), .mov (.tmp 24), none⟩]))))))))
  (.seq (.ops [⟨(some 88), .mov (.tmp 0), none⟩,
    ⟨(some 89), .nilCheck (.tmp 88), none⟩,
    ⟨(some 90), .fieldAddr 0 (.tmp 89), none⟩,
    ⟨(some 91), .mov (.tmp 0), none⟩,
    ⟨(some 92), .nilCheck (.tmp 91), none⟩,
    ⟨(some 93), .fieldAddr 0 (.tmp 92), none⟩,
    ⟨(some 95), .mov (.tmp 3), none⟩,
    ⟨(some 94), .call 254 [(.tmp 93)], none⟩,
    ⟨(some 96), .buildSlice 1 2 [(.slice none 0 0), (.slice none 0 0)] [(0, 1, (.tmp 94)), (1, 1, (.tmp 95))], none⟩,
    ⟨(some 97), .call 245 [(.tmp 90), (.tmp 96)], none⟩,
    ⟨none, .store 6 (.tmp 2) (.tmp 97), none⟩])
  .ret))))⟩
theorem F304_ok : compF Tryz.prog 304 = some F304 := by kernel_rfl

/-- (*colonnade/build.plains).mark -/
def F305 : FC := ⟨15, [.tmp 2],
  (.seq (.ops [⟨(some 1), .box (.tmp 0), none⟩,
    ⟨(some 2), .mov (.const .nilFunc), none⟩])
  (.seq (.ops [⟨(some 5), .load false 1 (.tmp 1), none⟩,
    ⟨(some 6), .nilCheck (.tmp 5), none⟩,
    ⟨(some 7), .fieldAddr 0 (.tmp 6), none⟩,
    ⟨(some 9), .load false 1 (.tmp 1), none⟩,
    ⟨(some 10), .nilCheck (.tmp 9), none⟩,
    ⟨(some 11), .fieldAddr 16 (.tmp 10), none⟩,
    ⟨(some 12), .load false 1 (.tmp 11), none⟩,
    ⟨(some 13), .len 1 (.tmp 12), none⟩,
    ⟨(some 8), .call 246 [(.tmp 7)], none⟩,
    ⟨none, .again 12 false 1 (.tmp 11), none⟩,
    ⟨none, .again 9 false 1 (.tmp 1), none⟩,
    ⟨(some 3), .alloc [.nilFunc], none⟩,
    ⟨none, .store 1 (.tmp 3) (.tmp 8), none⟩,
    ⟨none, .again 12 false 1 (.tmp 11), none⟩,
    ⟨none, .again 9 false 1 (.tmp 1), none⟩,
    ⟨(some 4), .alloc [(.int .i64 0)], none⟩,
    ⟨none, .store 1 (.tmp 4) (.tmp 13), none⟩])
  (.seq (.ops [⟨(some 14), .mkFunc (.func 309) [] [(.tmp 3), (.tmp 1), (.tmp 4)], none⟩,
    ⟨(some 2), .mov (.tmp 14), none⟩])
  .ret)))⟩
theorem F305_ok : compF Tryz.prog 305 = some F305 := by kernel_rfl

/-- (*colonnade/build.plains).take -/
def F306 : FC := ⟨46, [.tmp 4],
  (.seq (.ops [⟨(some 3), .box (.tmp 1), none⟩,
    ⟨(some 4), .mov (.const (.int .i64 0)), none⟩])
  (.seq (.seq (.ops [⟨(some 6), .mov (.tmp 0), none⟩,
    ⟨(some 7), .nilCheck (.tmp 6), none⟩,
    ⟨(some 8), .fieldAddr 0 (.tmp 7), none⟩,
    ⟨(some 9), .fieldAddr 0 (.tmp 3), none⟩,
    ⟨(some 10), .load false 1 (.tmp 9), none⟩,
    ⟨(some 11), .call 247 [(.tmp 8), (.tmp 10)], none⟩,
    ⟨(some 5), .mov (.tmp 11), none⟩])
  (.seq (.ops [⟨(some 12), .mov (.tmp 5), none⟩,
    ⟨(some 13), .bin .neq (.tmp 12) (.const (.int .i64 0)) (some (.int .i64)), none⟩])
  (.cond (.tmp 13)
  (.seq (.ops [⟨(some 14), .mov (.tmp 5), none⟩,
    ⟨(some 4), .mov (.tmp 14), none⟩])
  .ret)
  .skip)))
  (.seq (.ops [⟨(some 15), .mov (.tmp 0), none⟩,
    ⟨(some 16), .mov (.tmp 0), none⟩,
    ⟨(some 17), .nilCheck (.tmp 16), none⟩,
    ⟨(some 18), .fieldAddr 16 (.tmp 17), none⟩,
    ⟨(some 19), .load false 1 (.tmp 18), none⟩,
    ⟨(some 20), .fieldAddr 1 (.tmp 3), none⟩,
    ⟨(some 21), .load false 1 (.tmp 20), none⟩,
    ⟨(some 22), .conv .u64 (.tmp 21), none⟩,
    ⟨(some 23), .buildSlice 1 1 [(.int .u64 0)] [(0, 1, (.tmp 22))], none⟩,
    ⟨none, .again 19 false 1 (.tmp 18), none⟩,
    ⟨(some 24), .append 1 8 (.tmp 19) (.tmp 23), none⟩,
    ⟨(some 25), .nilCheck (.tmp 15), none⟩,
    ⟨(some 26), .fieldAddr 16 (.tmp 25), none⟩,
    ⟨none, .store 1 (.tmp 26) (.tmp 24), none⟩])
  (.seq (.ops [⟨(some 27), .mov (.tmp 0), none⟩,
    ⟨(some 28), .mov (.tmp 0), none⟩,
    ⟨(some 29), .nilCheck (.tmp 28), none⟩,
    ⟨(some 30), .fieldAddr 17 (.tmp 29), none⟩,
    ⟨(some 31), .load false 1 (.tmp 30), none⟩,
    ⟨(some 32), .fieldAddr 2 (.tmp 3), none⟩,
    ⟨(some 33), .load false 1 (.tmp 32), none⟩,
    ⟨(some 34), .buildSlice 1 1 [(.string ⟨#[]⟩)] [(0, 1, (.tmp 33))], none⟩,
    ⟨none, .again 31 false 1 (.tmp 30), none⟩,
    ⟨(some 35), .append 1 16 (.tmp 31) (.tmp 34), none⟩,
    ⟨(some 36), .nilCheck (.tmp 27), none⟩,
    ⟨(some 37), .fieldAddr 17 (.tmp 36), none⟩,
    ⟨none, .store 1 (.tmp 37) (.tmp 35), none⟩])
  (.seq (.ops [⟨(some 38), .mov (.tmp 0), none⟩,
    ⟨(some 39), .nilCheck (.tmp 38), none⟩,
    ⟨(some 40), .fieldAddr 0 (.tmp 39), none⟩,
    ⟨(some 41), .fieldAddr 2 (.tmp 3), none⟩,
    ⟨(some 42), .load false 1 (.tmp 41), none⟩,
    ⟨(some 43), .len 0 (.tmp 42), none⟩,
    ⟨(some 44), .bin .add (.const (.int .i64 16)) (.tmp 43) (some (.int .i64)), none⟩,
    ⟨(some 45), .call 248 [(.tmp 40), (.tmp 44)], none⟩,
    ⟨(some 4), .mov (.tmp 45), none⟩])
  .ret)))))⟩
theorem F306_ok : compF Tryz.prog 306 = some F306 := by kernel_rfl

/-- colonnade/build.laid[uint64] -/
def F308 : FC := ⟨35, [.tmp 4],
  (.seq (.ops [⟨(some 4), .mov (.const (.slice none 0 0)), none⟩])
  (.seq (.ops [⟨(some 9), .mov (.tmp 1), none⟩,
    ⟨(some 10), .mov (.tmp 0), none⟩,
    ⟨(some 11), .len 1 (.tmp 10), none⟩,
    ⟨(some 12), .bin .mul (.tmp 9) (.tmp 11) (some (.int .i64)), none⟩,
    ⟨(some 13), .mkSlice 1 1 [(.int .u8 0)] (.const (.int .i64 0)) (.tmp 12), none⟩,
    ⟨(some 5), .mov (.tmp 13), none⟩])
  (.seq (.seq (.ops [⟨(some 14), .mov (.tmp 0), none⟩,
    ⟨(some 15), .len 1 (.tmp 14), none⟩,
    ⟨(some 16), .mov (.const (.int .i64 0)), none⟩])
  (.block 0 (.loop (.seq (.ops [⟨(some 17), .bin .lss (.tmp 16) (.tmp 15) (some (.int .i64)), none⟩])
  (.seq (.cond (.tmp 17)
  .skip
  (.exit 0))
  (.seq (.block 1 (.seq (.ops [⟨(some 18), .indexAddr 1 (.tmp 14) (.tmp 16), none⟩,
    ⟨(some 19), .load false 1 (.tmp 18), none⟩,
    ⟨(some 7), .mov (.tmp 19), none⟩])
  (.seq (.ops [⟨(some 20), .mov (.tmp 1), none⟩,
    ⟨(some 21), .mov (.const (.int .i64 0)), none⟩])
  (.block 2 (.loop (.seq (.ops [⟨(some 22), .bin .lss (.tmp 21) (.tmp 20) (some (.int .i64)), none⟩])
  (.seq (.cond (.tmp 22)
  .skip
  (.exit 2))
  (.seq (.block 3 (.seq (.ops [⟨(some 23), .mov (.tmp 21), none⟩,
    ⟨(some 8), .mov (.tmp 23), none⟩])
  (.ops [⟨(some 24), .mov (.tmp 5), none⟩,
    ⟨(some 25), .mov (.tmp 7), none⟩,
    ⟨(some 26), .mov (.tmp 8), none⟩,
    ⟨(some 27), .bin .mul (.const (.int .i64 8)) (.tmp 26) (some (.int .i64)), none⟩,
    ⟨(some 28), .bin .shr (.tmp 25) (.tmp 27) (some (.int .u64)), none⟩,
    ⟨(some 29), .conv .u8 (.tmp 28), none⟩,
    ⟨(some 30), .buildSlice 1 1 [(.int .u8 0)] [(0, 1, (.tmp 29))], none⟩,
    ⟨(some 31), .append 1 1 (.tmp 24) (.tmp 30), none⟩,
    ⟨(some 5), .mov (.tmp 31), none⟩])))
  (.ops [⟨(some 32), .bin .add (.tmp 21) (.const (.int .i64 1)) (some (.int .i64)), none⟩,
    ⟨(some 21), .mov (.tmp 32), none⟩])))))))))
  (.ops [⟨(some 33), .bin .add (.tmp 16) (.const (.int .i64 1)) (some (.int .i64)), none⟩,
    ⟨(some 16), .mov (.tmp 33), none⟩])))))))
  (.seq (.ops [⟨(some 34), .mov (.tmp 5), none⟩,
    ⟨(some 4), .mov (.tmp 34), none⟩])
  .ret))))⟩
theorem F308_ok : compF Tryz.prog 308 = some F308 := by kernel_rfl

/-- (colonnade/view.View).Signed -/
def F313 : FC := ⟨30, [.tmp 6, .tmp 7],
  (.seq (.ops [⟨(some 3), .box (.tmp 0), none⟩,
    ⟨(some 6), .mov (.const (.int .i64 0)), none⟩,
    ⟨(some 7), .mov (.const (.int .i64 0)), none⟩])
  (.seq (.ops [⟨(some 12), .load true 3 (.tmp 3), none⟩,
    ⟨(some 13), .mov (.tmp 1), none⟩,
    ⟨(some 14), .mov (.tmp 2), none⟩,
    ⟨(some 15), .call 314 [(.tmp 12), (.tmp 13), (.tmp 14)], none⟩,
    ⟨(some 11), .mov (.tmp 15), none⟩,
    ⟨(some 16), .extract (.tmp 11) 0, none⟩,
    ⟨(some 17), .extract (.tmp 11) 1, none⟩,
    ⟨(some 8), .mov (.tmp 16), none⟩,
    ⟨(some 9), .mov (.tmp 17), none⟩])
  (.seq (.seq (.ops [⟨(some 18), .mov (.tmp 9), none⟩,
    ⟨(some 19), .bin .neq (.tmp 18) (.const (.int .i64 0)) (some (.int .i64)), none⟩])
  (.cond (.tmp 19)
  (.seq (.ops [⟨(some 20), .mov (.tmp 9), none⟩,
    ⟨(some 6), .mov (.const (.int .i64 0)), none⟩,
    ⟨(some 7), .mov (.tmp 20), none⟩])
  .ret)
  .skip))
  (.seq (.ops [⟨(some 21), .mov (.tmp 2), none⟩,
    ⟨(some 22), .bin .mul (.const (.int .i64 8)) (.tmp 21) (some (.int .i64)), none⟩,
    ⟨(some 23), .bin .sub (.const (.int .i64 64)) (.tmp 22) (some (.int .i64)), none⟩,
    ⟨(some 10), .mov (.tmp 23), none⟩])
  (.seq (.ops [⟨(some 24), .mov (.tmp 8), none⟩,
    ⟨(some 25), .mov (.tmp 10), none⟩,
    ⟨(some 26), .bin .shl (.tmp 24) (.tmp 25) (some (.int .u64)), none⟩,
    ⟨(some 27), .conv .i64 (.tmp 26), none⟩,
    ⟨(some 28), .mov (.tmp 10), none⟩,
    ⟨(some 29), .bin .shr (.tmp 27) (.tmp 28) (some (.int .i64)), none⟩,
    ⟨(some 6), .mov (.tmp 29), none⟩,
    ⟨(some 7), .mov (.const (.int .i64 0)), none⟩])
  .ret)))))⟩
theorem F313_ok : compF Tryz.prog 313 = some F313 := by kernel_rfl

/-- (colonnade/view.View).Load -/
def F314 : FC := ⟨21, [.tmp 6, .tmp 7],
  (.seq (.ops [⟨(some 3), .box (.tmp 0), none⟩,
    ⟨(some 6), .mov (.const (.int .u64 0)), none⟩,
    ⟨(some 7), .mov (.const (.int .i64 0)), none⟩])
  (.seq (.seq (.ops [⟨(some 8), .mov (.tmp 2), none⟩,
    ⟨(some 9), .call 315 [(.tmp 8)], none⟩,
    ⟨(some 10), .un .not (.tmp 9), none⟩])
  (.cond (.tmp 10)
  (.seq (.ops [⟨(some 6), .mov (.const (.int .u64 0)), none⟩,
    ⟨(some 7), .mov (.const (.int .i64 1)), none⟩])
  .ret)
  .skip))
  (.seq (.seq (.ops [⟨(some 11), .load true 3 (.tmp 3), none⟩,
    ⟨(some 12), .mov (.tmp 1), none⟩,
    ⟨(some 13), .mov (.tmp 2), none⟩,
    ⟨(some 14), .call 210 [(.tmp 11), (.tmp 12), (.tmp 13)], none⟩,
    ⟨(some 15), .un .not (.tmp 14), none⟩])
  (.cond (.tmp 15)
  (.seq (.ops [⟨(some 6), .mov (.const (.int .u64 0)), none⟩,
    ⟨(some 7), .mov (.const (.int .i64 2)), none⟩])
  .ret)
  .skip))
  (.seq (.ops [⟨(some 16), .load true 3 (.tmp 3), none⟩,
    ⟨(some 17), .mov (.tmp 1), none⟩,
    ⟨(some 18), .mov (.tmp 2), none⟩,
    ⟨(some 19), .call 211 [(.tmp 16), (.tmp 17), (.tmp 18)], none⟩,
    ⟨(some 20), .call 316 [(.tmp 19)], none⟩,
    ⟨(some 6), .mov (.tmp 20), none⟩,
    ⟨(some 7), .mov (.const (.int .i64 0)), none⟩])
  .ret))))⟩
theorem F314_ok : compF Tryz.prog 314 = some F314 := by kernel_rfl

/-- colonnade/view.wide -/
def F315 : FC := ⟨17, [.tmp 2],
  (.seq (.ops [⟨(some 2), .mov (.const (.bool false)), none⟩])
  (.seq (.ops [⟨(some 3), .mov (.tmp 0), none⟩,
    ⟨(some 4), .bin .eql (.tmp 3) (.const (.int .i64 1)) (some (.int .i64)), none⟩,
    ⟨(some 5), .mov (.tmp 4), none⟩,
    ⟨(some 6), .mov (.tmp 0), (some (5, false))⟩,
    ⟨(some 7), .bin .eql (.tmp 6) (.const (.int .i64 2)) (some (.int .i64)), (some (5, false))⟩,
    ⟨(some 8), .pick (.tmp 5) (.const (.bool true)) (.tmp 7), none⟩,
    ⟨(some 9), .mov (.tmp 8), none⟩,
    ⟨(some 10), .mov (.tmp 0), (some (9, false))⟩,
    ⟨(some 11), .bin .eql (.tmp 10) (.const (.int .i64 4)) (some (.int .i64)), (some (9, false))⟩,
    ⟨(some 12), .pick (.tmp 9) (.const (.bool true)) (.tmp 11), none⟩,
    ⟨(some 13), .mov (.tmp 12), none⟩,
    ⟨(some 14), .mov (.tmp 0), (some (13, false))⟩,
    ⟨(some 15), .bin .eql (.tmp 14) (.const (.int .i64 8)) (some (.int .i64)), (some (13, false))⟩,
    ⟨(some 16), .pick (.tmp 13) (.const (.bool true)) (.tmp 15), none⟩,
    ⟨(some 2), .mov (.tmp 16), none⟩])
  .ret))⟩
theorem F315_ok : compF Tryz.prog 315 = some F315 := by kernel_rfl

/-- colonnade/view.number -/
def F316 : FC := ⟨22, [.tmp 2],
  (.seq (.ops [⟨(some 2), .mov (.const (.int .u64 0)), none⟩])
  (.seq (.ops [⟨(some 3), .mov (.const (.int .u64 0)), none⟩])
  (.seq (.seq (.ops [⟨(some 6), .mov (.tmp 0), none⟩,
    ⟨(some 7), .len 1 (.tmp 6), none⟩,
    ⟨(some 8), .mov (.const (.int .i64 0)), none⟩])
  (.block 0 (.loop (.seq (.ops [⟨(some 9), .bin .lss (.tmp 8) (.tmp 7) (some (.int .i64)), none⟩])
  (.seq (.cond (.tmp 9)
  .skip
  (.exit 0))
  (.seq (.block 1 (.seq (.ops [⟨(some 10), .mov (.tmp 8), none⟩,
    ⟨(some 11), .indexAddr 1 (.tmp 6) (.tmp 8), none⟩,
    ⟨(some 12), .load false 1 (.tmp 11), none⟩,
    ⟨(some 4), .mov (.tmp 10), none⟩,
    ⟨(some 5), .mov (.tmp 12), none⟩])
  (.ops [⟨(some 13), .mov (.tmp 3), none⟩,
    ⟨(some 14), .mov (.tmp 5), none⟩,
    ⟨(some 15), .conv .u64 (.tmp 14), none⟩,
    ⟨(some 16), .mov (.tmp 4), none⟩,
    ⟨(some 17), .bin .mul (.const (.int .i64 8)) (.tmp 16) (some (.int .i64)), none⟩,
    ⟨(some 18), .bin .shl (.tmp 15) (.tmp 17) (some (.int .u64)), none⟩,
    ⟨(some 19), .bin .or (.tmp 13) (.tmp 18) (some (.int .u64)), none⟩,
    ⟨(some 3), .mov (.tmp 19), none⟩])))
  (.ops [⟨(some 20), .bin .add (.tmp 8) (.const (.int .i64 1)) (some (.int .i64)), none⟩,
    ⟨(some 8), .mov (.tmp 20), none⟩])))))))
  (.seq (.ops [⟨(some 21), .mov (.tmp 3), none⟩,
    ⟨(some 2), .mov (.tmp 21), none⟩])
  .ret))))⟩
theorem F316_ok : compF Tryz.prog 316 = some F316 := by kernel_rfl

/-- (*colonnade/array.Array).number -/
def F323 : FC := ⟨43, [.tmp 6],
  (.seq (.ops [⟨(some 6), .mov (.const (.int .i64 0)), none⟩])
  (.seq (.ops [⟨(some 12), .mov (.tmp 1), none⟩,
    ⟨(some 13), .call 193 [(.tmp 12)], none⟩,
    ⟨(some 7), .mov (.tmp 13), none⟩])
  (.seq (.seq (.ops [⟨(some 14), .mov (.tmp 1), none⟩,
    ⟨(some 15), .bin .geq (.tmp 14) (.const (.int .i64 3)) (some (.int .i64)), none⟩,
    ⟨(some 16), .mov (.tmp 15), none⟩,
    ⟨(some 17), .mov (.tmp 1), (some (16, true))⟩,
    ⟨(some 18), .bin .leq (.tmp 17) (.const (.int .i64 6)) (some (.int .i64)), (some (16, true))⟩,
    ⟨(some 19), .pick (.tmp 16) (.tmp 18) (.const (.bool false)), none⟩])
  (.cond (.tmp 19)
  (.seq (.ops [⟨(some 21), .mov (.tmp 0), none⟩,
    ⟨(some 22), .call 200 [(.tmp 21), (.const (.int .i64 1))], none⟩,
    ⟨(some 23), .mov (.tmp 2), none⟩,
    ⟨(some 24), .mov (.tmp 7), none⟩,
    ⟨(some 25), .bin .mul (.tmp 23) (.tmp 24) (some (.int .i64)), none⟩,
    ⟨(some 26), .mov (.tmp 7), none⟩,
    ⟨(some 27), .call 313 [(.tmp 22), (.tmp 25), (.tmp 26)], none⟩,
    ⟨(some 20), .mov (.tmp 27), none⟩,
    ⟨(some 28), .extract (.tmp 20) 0, none⟩,
    ⟨(some 29), .extract (.tmp 20) 1, none⟩,
    ⟨(some 8), .mov (.tmp 28), none⟩,
    ⟨(some 9), .mov (.tmp 29), none⟩])
  (.seq (.ops [⟨(some 30), .mov (.tmp 8), none⟩,
    ⟨(some 6), .mov (.tmp 30), none⟩])
  .ret))
  .skip))
  (.seq (.ops [⟨(some 32), .mov (.tmp 0), none⟩,
    ⟨(some 33), .call 200 [(.tmp 32), (.const (.int .i64 1))], none⟩,
    ⟨(some 34), .mov (.tmp 2), none⟩,
    ⟨(some 35), .mov (.tmp 7), none⟩,
    ⟨(some 36), .bin .mul (.tmp 34) (.tmp 35) (some (.int .i64)), none⟩,
    ⟨(some 37), .mov (.tmp 7), none⟩,
    ⟨(some 38), .call 314 [(.tmp 33), (.tmp 36), (.tmp 37)], none⟩,
    ⟨(some 31), .mov (.tmp 38), none⟩,
    ⟨(some 39), .extract (.tmp 31) 0, none⟩,
    ⟨(some 40), .extract (.tmp 31) 1, none⟩,
    ⟨(some 10), .mov (.tmp 39), none⟩,
    ⟨(some 11), .mov (.tmp 40), none⟩])
  (.seq (.ops [⟨(some 41), .mov (.tmp 10), none⟩,
    ⟨(some 42), .conv .i64 (.tmp 41), none⟩,
    ⟨(some 6), .mov (.tmp 42), none⟩])
  .ret)))))⟩
theorem F323_ok : compF Tryz.prog 323 = some F323 := by kernel_rfl

/-- (colonnade/array.flats).read -/
def F326 : FC := ⟨67, [.cell 8 true 4],
  (.seq (.ops [⟨(some 4), .box (.tmp 0), none⟩,
    ⟨(some 8), .alloc [(.bool false), (.int .i64 0), (.string ⟨#[]⟩), (.slice none 0 0)], none⟩])
  (.seq (.ops [⟨(some 15), .mov (.tmp 1), none⟩,
    ⟨(some 16), .nilCheck (.tmp 15), none⟩,
    ⟨(some 17), .fieldAddr 0 (.tmp 16), none⟩,
    ⟨(some 18), .fieldAddr 2 (.tmp 17), none⟩,
    ⟨(some 19), .load true 5 (.tmp 18), none⟩,
    ⟨(some 9), .alloc [(.int .i64 0), (.int .i64 0), (.int .i64 0), (.int .i64 0), (.slice none 0 0)], none⟩,
    ⟨none, .store 5 (.tmp 9) (.tmp 19), none⟩])
  (.seq (.ops [⟨(some 20), .mov (.tmp 1), none⟩,
    ⟨(some 21), .call 200 [(.tmp 20), (.const (.int .i64 1))], none⟩,
    ⟨(some 10), .alloc [(.slice none 0 0), (.int .i64 0), (.pointer none)], none⟩,
    ⟨none, .store 3 (.tmp 10) (.tmp 21), none⟩])
  (.seq (.ops [⟨(some 22), .mov (.tmp 3), none⟩,
    ⟨(some 23), .call 195 [(.tmp 22), (.const (.int .i64 16))], none⟩])
  (.seq (.seq (.ops [⟨(some 24), .fieldAddr 0 (.tmp 9), none⟩,
    ⟨(some 25), .load false 1 (.tmp 24), none⟩])
  (.block 0 (.seq (.ops [⟨(some 27), .bin .eql (.tmp 25) (.const (.int .i64 2)) (some (.int .i64)), none⟩,
    ⟨(some 26), .mov (.tmp 27), none⟩])
  (.cond (.tmp 26)
  (.seq (.ops [⟨(some 29), .load true 3 (.tmp 10), none⟩,
    ⟨(some 30), .mov (.tmp 2), none⟩,
    ⟨(some 31), .bin .quo (.tmp 30) (.const (.int .i64 8)) (some (.int .i64)), none⟩,
    ⟨(some 32), .call 201 [(.tmp 29), (.tmp 31)], none⟩,
    ⟨(some 28), .mov (.tmp 32), none⟩,
    ⟨(some 33), .extract (.tmp 28) 0, none⟩,
    ⟨(some 34), .extract (.tmp 28) 1, none⟩,
    ⟨(some 11), .mov (.tmp 33), none⟩,
    ⟨(some 12), .mov (.tmp 34), none⟩])
  (.seq (.ops [⟨(some 35), .mov (.tmp 11), none⟩,
    ⟨(some 36), .mov (.tmp 2), none⟩,
    ⟨(some 37), .bin .rem (.tmp 36) (.const (.int .i64 8)) (some (.int .i64)), none⟩,
    ⟨(some 38), .bin .shr (.tmp 35) (.tmp 37) (some (.int .u8)), none⟩,
    ⟨(some 39), .bin .and (.tmp 38) (.const (.int .u8 1)) (some (.int .u8)), none⟩,
    ⟨(some 40), .conv .i64 (.tmp 39), none⟩,
    ⟨(some 41), .build [(.bool false), (.int .i64 0), (.string ⟨#[]⟩), (.slice none 0 0)] [(1, 1, (.tmp 40))], none⟩,
    ⟨none, .store 4 (.tmp 8) (.tmp 41), none⟩])
  .ret))
  (.seq (.ops [⟨(some 43), .bin .eql (.tmp 25) (.const (.int .i64 14)) (some (.int .i64)), none⟩,
    ⟨(some 42), .mov (.tmp 43), none⟩])
  (.cond (.tmp 42)
  (.seq (.ops [⟨(some 44), .mov (.tmp 3), none⟩,
    ⟨(some 45), .fieldAddr 1 (.tmp 9), none⟩,
    ⟨(some 46), .load false 1 (.tmp 45), none⟩,
    ⟨(some 47), .call 195 [(.tmp 44), (.tmp 46)], none⟩])
  (.seq (.ops [⟨(some 49), .load true 3 (.tmp 10), none⟩,
    ⟨(some 50), .mov (.tmp 2), none⟩,
    ⟨(some 51), .fieldAddr 1 (.tmp 9), none⟩,
    ⟨(some 52), .load false 1 (.tmp 51), none⟩,
    ⟨(some 53), .bin .mul (.tmp 50) (.tmp 52) (some (.int .i64)), none⟩,
    ⟨(some 54), .fieldAddr 1 (.tmp 9), none⟩,
    ⟨(some 55), .load false 1 (.tmp 54), none⟩,
    ⟨(some 56), .call 312 [(.tmp 49), (.tmp 53), (.tmp 55)], none⟩,
    ⟨(some 48), .mov (.tmp 56), none⟩,
    ⟨(some 57), .extract (.tmp 48) 0, none⟩,
    ⟨(some 58), .extract (.tmp 48) 1, none⟩,
    ⟨(some 13), .mov (.tmp 57), none⟩,
    ⟨(some 14), .mov (.tmp 58), none⟩])
  (.seq (.ops [⟨(some 59), .mov (.tmp 13), none⟩,
    ⟨(some 60), .build [(.bool false), (.int .i64 0), (.string ⟨#[]⟩), (.slice none 0 0)] [(2, 1, (.tmp 59))], none⟩,
    ⟨none, .store 4 (.tmp 8) (.tmp 60), none⟩])
  .ret)))
  .skip))))))
  (.seq (.ops [⟨(some 61), .mov (.tmp 1), none⟩,
    ⟨(some 62), .fieldAddr 0 (.tmp 9), none⟩,
    ⟨(some 63), .load false 1 (.tmp 62), none⟩,
    ⟨(some 64), .mov (.tmp 2), none⟩,
    ⟨(some 65), .call 323 [(.tmp 61), (.tmp 63), (.tmp 64)], none⟩,
    ⟨(some 66), .build [(.bool false), (.int .i64 0), (.string ⟨#[]⟩), (.slice none 0 0)] [(1, 1, (.tmp 65))], none⟩,
    ⟨none, .store 4 (.tmp 8) (.tmp 66), none⟩])
  .ret))))))⟩
theorem F326_ok : compF Tryz.prog 326 = some F326 := by kernel_rfl

/-- (*colonnade/build.Builder).lay -/
def D71 : DF := ⟨18, [.cell 4 false 1],
  [(.ops [⟨(some 3), .box (.tmp 1), none⟩,
    ⟨(some 4), .alloc [(.int .i64 0)], none⟩]), (.ops [⟨(some 6), .mov (.tmp 0), none⟩,
    ⟨(some 7), .nilCheck (.tmp 6), none⟩,
    ⟨(some 8), .fieldAddr 7 (.tmp 7), none⟩,
    ⟨(some 9), .load false 1 (.tmp 8), none⟩,
    ⟨(some 10), .invoke (.tmp 9) "colonnade/build.mark" [(143, 241), (146, 251), (149, 259), (152, 264), (155, 269), (158, 278), (161, 285), (165, 300), (168, 305)] [], none⟩,
    ⟨(some 5), .alloc [.nilFunc], none⟩,
    ⟨none, .store 1 (.tmp 5) (.tmp 10), none⟩])],
  [⟨(some 11), .mkFunc (.func 100) [] [(.tmp 4), (.tmp 5)], none⟩], (.tmp 11), [],
  [(.seq (.ops [⟨(some 12), .mov (.tmp 0), none⟩,
    ⟨(some 13), .nilCheck (.tmp 12), none⟩,
    ⟨(some 14), .fieldAddr 7 (.tmp 13), none⟩,
    ⟨(some 15), .load false 1 (.tmp 14), none⟩,
    ⟨(some 16), .load true 4 (.tmp 3), none⟩,
    ⟨(some 17), .invoke (.tmp 15) "colonnade/build.take" [(143, 242), (146, 252), (149, 260), (152, 265), (155, 270), (158, 279), (161, 286), (165, 301), (168, 306)] [(.tmp 16)], none⟩,
    ⟨none, .store 1 (.tmp 4) (.tmp 17), none⟩])
  .ret)]⟩
theorem D71_ok : compDF Tryz.prog 71 = some D71 := by kernel_rfl

/-- (*colonnade/array.Array).get -/
def D98 : DF := ⟨14, [.cell 4 true 4, .tmp 5, .cell 6 false 1],
  [(.ops [⟨(some 4), .alloc [(.bool false), (.int .i64 0), (.string ⟨#[]⟩), (.slice none 0 0)], none⟩,
    ⟨(some 5), .mov (.const (.int .i64 0)), none⟩,
    ⟨(some 6), .alloc [(.int .i64 0)], none⟩])],
  [], (.func 138), [(.tmp 6)],
  [(.seq (.ops [⟨(some 7), .alloc [(.int .i64 0)], none⟩,
    ⟨none, .store 1 (.tmp 7) (.const (.int .i64 4194304)), none⟩])
  (.seq (.ops [⟨(some 8), .mov (.tmp 0), none⟩,
    ⟨(some 9), .mov (.tmp 1), none⟩,
    ⟨(some 10), .call 139 [(.tmp 8), (.tmp 9), (.tmp 7)], none⟩,
    ⟨none, .store 4 (.tmp 4) (.tmp 10), none⟩])
  (.seq (.ops [⟨(some 11), .load true 4 (.tmp 4), none⟩,
    ⟨(some 12), .load false 1 (.tmp 7), none⟩,
    ⟨(some 13), .bin .sub (.const (.int .i64 4194304)) (.tmp 12) (some (.int .i64)), none⟩,
    ⟨none, .store 4 (.tmp 4) (.tmp 11), none⟩,
    ⟨none, .again 12 false 1 (.tmp 7), none⟩,
    ⟨(some 5), .mov (.tmp 13), none⟩,
    ⟨none, .store 1 (.tmp 6) (.const (.int .i64 0)), none⟩])
  .ret)))]⟩
theorem D98_ok : compDF Tryz.prog 98 = some D98 := by kernel_rfl

/-- (*colonnade/build.Builder).lay$1 -/
def R100 : RF := ⟨6, [], none,
  [],
  [(.seq (.ops [⟨(some 2), .load false 1 (.tmp 0), none⟩,
    ⟨(some 3), .bin .neq (.tmp 2) (.const (.int .i64 0)) (some (.int .i64)), none⟩])
  (.cond (.tmp 3)
  (.ops [⟨(some 4), .load false 1 (.tmp 1), none⟩,
    ⟨(some 5), .callv (.tmp 4) [], none⟩])
  .skip))]⟩
theorem R100_ok : compRF Tryz.prog 100 = some R100 := by kernel_rfl

/-- colonnade/array.caught -/
def R138 : RF := ⟨18, [], (some (some 5)),
  [⟨(some 2), .mov (.tmp 5), none⟩],
  [(.seq (.ops [⟨(some 6), .mov (.tmp 2), none⟩,
    ⟨(some 7), .bin .neq (.tmp 6) (.const .nilIface) (some (.interface #[])), none⟩])
  (.cond (.tmp 7)
  (.seq (.seq (.ops [⟨(some 9), .mov (.tmp 2), none⟩,
    ⟨(some 10), .bad, none⟩,
    ⟨(some 8), .mov (.tmp 10), none⟩,
    ⟨(some 11), .extract (.tmp 8) 0, none⟩,
    ⟨(some 12), .extract (.tmp 8) 1, none⟩,
    ⟨(some 3), .alloc [], none⟩,
    ⟨none, .store 0 (.tmp 3) (.tmp 11), none⟩,
    ⟨(some 4), .mov (.tmp 12), none⟩])
  (.seq (.ops [⟨(some 13), .mov (.tmp 4), none⟩,
    ⟨(some 14), .un .not (.tmp 13), none⟩])
  (.cond (.tmp 14)
  (.ops [⟨(some 15), .mov (.tmp 2), none⟩,
    ⟨none, .bad, none⟩])
  .skip)))
  (.ops [⟨(some 16), .mov (.tmp 0), none⟩,
    ⟨(some 17), .nilCheck (.tmp 16), none⟩,
    ⟨none, .store 1 (.tmp 17) (.const (.int .i64 7)), none⟩]))
  .skip))]⟩
theorem R138_ok : compRF Tryz.prog 138 = some R138 := by kernel_rfl


end Go.Proofs.YtdgfcgadefodfaaGreatDoor.Calc
