/- The code that the call meets, as instructions. No conditions. -/
import Derived.Test.YtdgfcgadefodfaaGreatDoorEm22
import Derived.Test.YtdgfcgadefodfaaGreatDoorProg
import Derived.KernelRfl
set_option linter.unusedVariables false
namespace Go.Proofs.YtdgfcgadefodfaaGreatDoor.Calc
open Go Go.Proofs.YtdgfcgadefodfaaGreatDoor Go.Proofs.YtdgfcgadefodfaaGreatDoor.Em

/-- colonnade/array.copied -/
def F65 : FC := ⟨16, [.cell 2 true 6],
  (.seq (.ops [⟨(some 1), .box (.tmp 0), none⟩,
    ⟨(some 2), .alloc [(.int .i64 0), (.int .i64 0), (.int .i64 0), (.slice none 0 0), (.slice none 0 0), (.slice none 0 0)], none⟩])
  (.seq (.ops [⟨(some 3), .fieldAddr 3 (.tmp 1), none⟩,
    ⟨(some 4), .load false 1 (.tmp 3), none⟩,
    ⟨(some 5), .call 95 [(.tmp 4)], none⟩,
    ⟨(some 6), .fieldAddr 3 (.tmp 1), none⟩,
    ⟨none, .store 1 (.tmp 6) (.tmp 5), none⟩])
  (.seq (.ops [⟨(some 7), .fieldAddr 4 (.tmp 1), none⟩,
    ⟨(some 8), .load false 1 (.tmp 7), none⟩,
    ⟨(some 9), .call 96 [(.tmp 8)], none⟩,
    ⟨(some 10), .fieldAddr 4 (.tmp 1), none⟩,
    ⟨none, .store 1 (.tmp 10) (.tmp 9), none⟩])
  (.seq (.ops [⟨(some 11), .fieldAddr 5 (.tmp 1), none⟩,
    ⟨(some 12), .load false 1 (.tmp 11), none⟩,
    ⟨(some 13), .call 96 [(.tmp 12)], none⟩,
    ⟨(some 14), .fieldAddr 5 (.tmp 1), none⟩,
    ⟨none, .store 1 (.tmp 14) (.tmp 13), none⟩])
  (.seq (.ops [⟨(some 15), .load true 6 (.tmp 1), none⟩,
    ⟨none, .store 6 (.tmp 2) (.tmp 15), none⟩])
  .ret)))))⟩
theorem F65_ok : compF Tryz.prog 65 = some F65 := by kernel_rfl

/-- (*colonnade/array.Array).All -/
def F66 : FC := ⟨4, [.tmp 2],
  (.seq (.ops [⟨(some 1), .box (.tmp 0), none⟩,
    ⟨(some 2), .mov (.const .nilFunc), none⟩])
  (.seq (.ops [⟨(some 3), .mkFunc (.func 97) [] [(.tmp 1)], none⟩,
    ⟨(some 2), .mov (.tmp 3), none⟩])
  .ret))⟩
theorem F66_ok : compF Tryz.prog 66 = some F66 := by kernel_rfl

/-- colonnade/build.right -/
def F67 : FC := ⟨7, [.tmp 2],
  (.seq (.ops [⟨(some 1), .box (.tmp 0), none⟩,
    ⟨(some 2), .mov (.const (.bool false)), none⟩])
  (.seq (.ops [⟨(some 3), .load true 7 (.tmp 1), none⟩,
    ⟨(some 4), .call 39 [(.tmp 3)], none⟩,
    ⟨(some 5), .field false 0 1 (.tmp 4), none⟩,
    ⟨(some 6), .bin .eql (.tmp 5) (.const (.int .i64 0)) (some (.int .i64)), none⟩,
    ⟨(some 2), .mov (.tmp 6), none⟩])
  .ret))⟩
theorem F67_ok : compF Tryz.prog 67 = some F67 := by kernel_rfl

/-- colonnade/build.ownField -/
def F68 : FC := ⟨24, [.cell 2 true 7],
  (.seq (.ops [⟨(some 1), .box (.tmp 0), none⟩,
    ⟨(some 2), .alloc [(.string ⟨#[]⟩), (.bool false), (.int .i64 0), (.int .i64 0), (.int .i64 0), (.int .i64 0), (.slice none 0 0)], none⟩])
  (.seq (.ops [⟨(some 3), .mov (.const (.slice none 0 0)), none⟩])
  (.seq (.seq (.ops [⟨(some 6), .fieldAddr 2 (.tmp 1), none⟩,
    ⟨(some 7), .fieldAddr 4 (.tmp 6), none⟩,
    ⟨(some 8), .load false 1 (.tmp 7), none⟩,
    ⟨(some 9), .len 1 (.tmp 8), none⟩,
    ⟨(some 10), .mov (.const (.int .i64 0)), none⟩])
  (.block 0 (.loop (.seq (.ops [⟨(some 11), .bin .lss (.tmp 10) (.tmp 9) (some (.int .i64)), none⟩])
  (.seq (.cond (.tmp 11)
  .skip
  (.exit 0))
  (.seq (.block 1 (.seq (.ops [⟨(some 12), .indexAddr 7 (.tmp 8) (.tmp 10), none⟩,
    ⟨(some 13), .load true 7 (.tmp 12), none⟩,
    ⟨(some 5), .alloc [(.string ⟨#[]⟩), (.bool false), (.int .i64 0), (.int .i64 0), (.int .i64 0), (.int .i64 0), (.slice none 0 0)], none⟩,
    ⟨none, .store 7 (.tmp 5) (.tmp 13), none⟩])
  (.ops [⟨(some 14), .mov (.tmp 3), none⟩,
    ⟨(some 15), .load true 7 (.tmp 5), none⟩,
    ⟨(some 16), .call 68 [(.tmp 15)], none⟩,
    ⟨(some 17), .buildSlice 7 1 [(.string ⟨#[]⟩), (.bool false), (.int .i64 0), (.int .i64 0), (.int .i64 0), (.int .i64 0), (.slice none 0 0)] [(0, 7, (.tmp 16))], none⟩,
    ⟨(some 18), .append 7 80 (.tmp 14) (.tmp 17), none⟩,
    ⟨(some 3), .mov (.tmp 18), none⟩])))
  (.ops [⟨(some 19), .bin .add (.tmp 10) (.const (.int .i64 1)) (some (.int .i64)), none⟩,
    ⟨(some 10), .mov (.tmp 19), none⟩])))))))
  (.seq (.ops [⟨(some 20), .mov (.tmp 3), none⟩,
    ⟨(some 21), .fieldAddr 2 (.tmp 1), none⟩,
    ⟨(some 22), .fieldAddr 4 (.tmp 21), none⟩,
    ⟨none, .store 1 (.tmp 22) (.tmp 20), none⟩])
  (.seq (.ops [⟨(some 23), .load true 7 (.tmp 1), none⟩,
    ⟨none, .store 7 (.tmp 2) (.tmp 23), none⟩])
  .ret)))))⟩
theorem F68_ok : compF Tryz.prog 68 = some F68 := by kernel_rfl

/-- colonnade/build.made -/
def F69 : FC := ⟨108, [.tmp 2],
  (.seq (.ops [⟨(some 1), .box (.tmp 0), none⟩,
    ⟨(some 2), .mov (.const .nilIface), none⟩])
  (.seq (.ops [⟨(some 8), .load true 7 (.tmp 1), none⟩,
    ⟨(some 9), .call 99 [(.tmp 8)], none⟩,
    ⟨(some 3), .alloc [(.string ⟨#[]⟩), (.bool false), (.int .i64 0), (.int .i64 0), (.int .i64 0), (.int .i64 0), (.slice none 0 0), (.int .i64 0), (.int .i64 0), (.slice none 0 0), (.int .i64 0), (.bool false), (.int .i64 0), (.string ⟨#[]⟩), (.slice none 0 0), (.bool false)], none⟩,
    ⟨none, .store 16 (.tmp 3) (.tmp 9), none⟩])
  (.seq (.ops [⟨(some 4), .mov (.const (.slice none 0 0)), none⟩])
  (.seq (.seq (.ops [⟨(some 10), .fieldAddr 2 (.tmp 1), none⟩,
    ⟨(some 11), .fieldAddr 4 (.tmp 10), none⟩,
    ⟨(some 12), .load false 1 (.tmp 11), none⟩,
    ⟨(some 13), .len 1 (.tmp 12), none⟩,
    ⟨(some 14), .mov (.const (.int .i64 0)), none⟩])
  (.block 0 (.loop (.seq (.ops [⟨(some 15), .bin .lss (.tmp 14) (.tmp 13) (some (.int .i64)), none⟩])
  (.seq (.cond (.tmp 15)
  .skip
  (.exit 0))
  (.seq (.block 1 (.seq (.ops [⟨(some 16), .indexAddr 7 (.tmp 12) (.tmp 14), none⟩,
    ⟨(some 17), .load true 7 (.tmp 16), none⟩,
    ⟨(some 6), .alloc [(.string ⟨#[]⟩), (.bool false), (.int .i64 0), (.int .i64 0), (.int .i64 0), (.int .i64 0), (.slice none 0 0)], none⟩,
    ⟨none, .store 7 (.tmp 6) (.tmp 17), none⟩])
  (.ops [⟨(some 18), .mov (.tmp 4), none⟩,
    ⟨(some 19), .load true 7 (.tmp 6), none⟩,
    ⟨(some 20), .call 69 [(.tmp 19)], none⟩,
    ⟨(some 21), .buildSlice 1 1 [.nilIface] [(0, 1, (.tmp 20))], none⟩,
    ⟨(some 22), .append 1 16 (.tmp 18) (.tmp 21), none⟩,
    ⟨(some 4), .mov (.tmp 22), none⟩])))
  (.ops [⟨(some 23), .bin .add (.tmp 14) (.const (.int .i64 1)) (some (.int .i64)), none⟩,
    ⟨(some 14), .mov (.tmp 23), none⟩])))))))
  (.seq (.seq (.ops [⟨(some 24), .fieldAddr 2 (.tmp 1), none⟩,
    ⟨(some 25), .fieldAddr 0 (.tmp 24), none⟩,
    ⟨(some 26), .load false 1 (.tmp 25), none⟩,
    ⟨(some 7), .mov (.tmp 26), none⟩])
  (.block 2 (.seq (.ops [⟨(some 28), .mov (.tmp 7), none⟩,
    ⟨(some 29), .bin .eql (.tmp 28) (.const (.int .i64 1)) (some (.int .i64)), none⟩,
    ⟨(some 27), .mov (.tmp 29), none⟩])
  (.cond (.tmp 27)
  (.seq (.ops [⟨(some 30), .load true 16 (.tmp 3), none⟩,
    ⟨(some 31), .build [(.string ⟨#[]⟩), (.bool false), (.int .i64 0), (.int .i64 0), (.int .i64 0), (.int .i64 0), (.slice none 0 0), (.int .i64 0), (.int .i64 0), (.slice none 0 0), (.int .i64 0), (.bool false), (.int .i64 0), (.string ⟨#[]⟩), (.slice none 0 0), (.bool false)] [(0, 16, (.tmp 30))], none⟩,
    ⟨(some 32), .box (.tmp 31), none⟩,
    ⟨(some 33), .mkIface 143 (.tmp 32), none⟩,
    ⟨(some 2), .mov (.tmp 33), none⟩])
  .ret)
  (.seq (.ops [⟨(some 35), .mov (.tmp 7), none⟩,
    ⟨(some 36), .bin .eql (.tmp 35) (.const (.int .i64 12)) (some (.int .i64)), none⟩,
    ⟨(some 37), .mov (.tmp 36), none⟩,
    ⟨(some 38), .mov (.tmp 7), (some (37, false))⟩,
    ⟨(some 39), .bin .eql (.tmp 38) (.const (.int .i64 13)) (some (.int .i64)), (some (37, false))⟩,
    ⟨(some 40), .pick (.tmp 37) (.const (.bool true)) (.tmp 39), none⟩,
    ⟨(some 34), .mov (.tmp 40), none⟩])
  (.cond (.tmp 34)
  (.seq (.ops [⟨(some 41), .load true 16 (.tmp 3), none⟩,
    ⟨(some 42), .buildSlice 1 1 [(.int .i64 0)] [(0, 1, (.const (.int .i64 0)))], none⟩,
    ⟨(some 43), .build [(.string ⟨#[]⟩), (.bool false), (.int .i64 0), (.int .i64 0), (.int .i64 0), (.int .i64 0), (.slice none 0 0), (.int .i64 0), (.int .i64 0), (.slice none 0 0), (.int .i64 0), (.bool false), (.int .i64 0), (.string ⟨#[]⟩), (.slice none 0 0), (.bool false), (.slice none 0 0), (.slice none 0 0)] [(0, 16, (.tmp 41)), (16, 1, (.tmp 42))], none⟩,
    ⟨(some 44), .box (.tmp 43), none⟩,
    ⟨(some 45), .mkIface 146 (.tmp 44), none⟩,
    ⟨(some 2), .mov (.tmp 45), none⟩])
  .ret)
  (.seq (.ops [⟨(some 47), .mov (.tmp 7), none⟩,
    ⟨(some 48), .bin .eql (.tmp 47) (.const (.int .i64 15)) (some (.int .i64)), none⟩,
    ⟨(some 46), .mov (.tmp 48), none⟩])
  (.cond (.tmp 46)
  (.seq (.ops [⟨(some 49), .load true 16 (.tmp 3), none⟩,
    ⟨(some 51), .mov (.tmp 4), none⟩,
    ⟨(some 52), .indexAddr 1 (.tmp 51) (.const (.int .i64 0)), none⟩,
    ⟨(some 53), .load false 1 (.tmp 52), none⟩,
    ⟨(some 50), .buildSlice 1 1 [(.int .i64 0)] [(0, 1, (.const (.int .i64 0)))], none⟩,
    ⟨none, .again 53 false 1 (.tmp 52), none⟩,
    ⟨none, .again 49 true 16 (.tmp 3), none⟩,
    ⟨(some 54), .build [(.string ⟨#[]⟩), (.bool false), (.int .i64 0), (.int .i64 0), (.int .i64 0), (.int .i64 0), (.slice none 0 0), (.int .i64 0), (.int .i64 0), (.slice none 0 0), (.int .i64 0), (.bool false), (.int .i64 0), (.string ⟨#[]⟩), (.slice none 0 0), (.bool false), (.slice none 0 0), .nilIface] [(0, 16, (.tmp 49)), (16, 1, (.tmp 50)), (17, 1, (.tmp 53))], none⟩,
    ⟨(some 55), .box (.tmp 54), none⟩,
    ⟨(some 56), .mkIface 149 (.tmp 55), none⟩,
    ⟨(some 2), .mov (.tmp 56), none⟩])
  .ret)
  (.seq (.ops [⟨(some 58), .mov (.tmp 7), none⟩,
    ⟨(some 59), .bin .eql (.tmp 58) (.const (.int .i64 16)) (some (.int .i64)), none⟩,
    ⟨(some 57), .mov (.tmp 59), none⟩])
  (.cond (.tmp 57)
  (.seq (.ops [⟨(some 60), .load true 16 (.tmp 3), none⟩,
    ⟨(some 61), .mov (.tmp 4), none⟩,
    ⟨(some 62), .indexAddr 1 (.tmp 61) (.const (.int .i64 0)), none⟩,
    ⟨(some 63), .load false 1 (.tmp 62), none⟩,
    ⟨(some 64), .build [(.string ⟨#[]⟩), (.bool false), (.int .i64 0), (.int .i64 0), (.int .i64 0), (.int .i64 0), (.slice none 0 0), (.int .i64 0), (.int .i64 0), (.slice none 0 0), (.int .i64 0), (.bool false), (.int .i64 0), (.string ⟨#[]⟩), (.slice none 0 0), (.bool false), .nilIface] [(0, 16, (.tmp 60)), (16, 1, (.tmp 63))], none⟩,
    ⟨(some 65), .box (.tmp 64), none⟩,
    ⟨(some 66), .mkIface 152 (.tmp 65), none⟩,
    ⟨(some 2), .mov (.tmp 66), none⟩])
  .ret)
  (.seq (.ops [⟨(some 68), .mov (.tmp 7), none⟩,
    ⟨(some 69), .bin .eql (.tmp 68) (.const (.int .i64 17)) (some (.int .i64)), none⟩,
    ⟨(some 67), .mov (.tmp 69), none⟩])
  (.cond (.tmp 67)
  (.seq (.ops [⟨(some 70), .load true 16 (.tmp 3), none⟩,
    ⟨(some 71), .mov (.tmp 4), none⟩,
    ⟨(some 72), .build [(.string ⟨#[]⟩), (.bool false), (.int .i64 0), (.int .i64 0), (.int .i64 0), (.int .i64 0), (.slice none 0 0), (.int .i64 0), (.int .i64 0), (.slice none 0 0), (.int .i64 0), (.bool false), (.int .i64 0), (.string ⟨#[]⟩), (.slice none 0 0), (.bool false), (.slice none 0 0)] [(0, 16, (.tmp 70)), (16, 1, (.tmp 71))], none⟩,
    ⟨(some 73), .box (.tmp 72), none⟩,
    ⟨(some 74), .mkIface 155 (.tmp 73), none⟩,
    ⟨(some 2), .mov (.tmp 74), none⟩])
  .ret)
  (.seq (.ops [⟨(some 76), .mov (.tmp 7), none⟩,
    ⟨(some 77), .bin .eql (.tmp 76) (.const (.int .i64 18)) (some (.int .i64)), none⟩,
    ⟨(some 75), .mov (.tmp 77), none⟩])
  (.cond (.tmp 75)
  (.seq (.ops [⟨(some 78), .load true 16 (.tmp 3), none⟩,
    ⟨(some 79), .mov (.tmp 4), none⟩,
    ⟨(some 80), .build [(.string ⟨#[]⟩), (.bool false), (.int .i64 0), (.int .i64 0), (.int .i64 0), (.int .i64 0), (.slice none 0 0), (.int .i64 0), (.int .i64 0), (.slice none 0 0), (.int .i64 0), (.bool false), (.int .i64 0), (.string ⟨#[]⟩), (.slice none 0 0), (.bool false), (.slice none 0 0), (.slice none 0 0), (.slice none 0 0)] [(0, 16, (.tmp 78)), (18, 1, (.tmp 79))], none⟩,
    ⟨(some 81), .box (.tmp 80), none⟩,
    ⟨(some 82), .mkIface 158 (.tmp 81), none⟩,
    ⟨(some 2), .mov (.tmp 82), none⟩])
  .ret)
  (.seq (.ops [⟨(some 84), .mov (.tmp 7), none⟩,
    ⟨(some 85), .bin .eql (.tmp 84) (.const (.int .i64 19)) (some (.int .i64)), none⟩,
    ⟨(some 83), .mov (.tmp 85), none⟩])
  (.cond (.tmp 83)
  (.seq (.ops [⟨(some 86), .load true 16 (.tmp 3), none⟩,
    ⟨(some 87), .mov (.tmp 4), none⟩,
    ⟨(some 88), .indexAddr 1 (.tmp 87) (.const (.int .i64 0)), none⟩,
    ⟨(some 89), .load false 1 (.tmp 88), none⟩,
    ⟨(some 90), .mkMap, none⟩,
    ⟨none, .again 89 false 1 (.tmp 88), none⟩,
    ⟨none, .again 86 true 16 (.tmp 3), none⟩,
    ⟨(some 91), .build [(.string ⟨#[]⟩), (.bool false), (.int .i64 0), (.int .i64 0), (.int .i64 0), (.int .i64 0), (.slice none 0 0), (.int .i64 0), (.int .i64 0), (.slice none 0 0), (.int .i64 0), (.bool false), (.int .i64 0), (.string ⟨#[]⟩), (.slice none 0 0), (.bool false), (.slice none 0 0), .nilIface, (.slice none 0 0), (.map none)] [(0, 16, (.tmp 86)), (17, 1, (.tmp 89)), (19, 1, (.tmp 90))], none⟩,
    ⟨(some 92), .box (.tmp 91), none⟩,
    ⟨(some 93), .mkIface 161 (.tmp 92), none⟩,
    ⟨(some 2), .mov (.tmp 93), none⟩])
  .ret)
  (.seq (.ops [⟨(some 95), .mov (.tmp 7), none⟩,
    ⟨(some 96), .bin .eql (.tmp 95) (.const (.int .i64 20)) (some (.int .i64)), none⟩,
    ⟨(some 94), .mov (.tmp 96), none⟩])
  (.cond (.tmp 94)
  (.seq (.ops [⟨(some 97), .load true 16 (.tmp 3), none⟩,
    ⟨(some 98), .mov (.tmp 4), none⟩,
    ⟨(some 99), .indexAddr 1 (.tmp 98) (.const (.int .i64 0)), none⟩,
    ⟨(some 100), .load false 1 (.tmp 99), none⟩,
    ⟨(some 101), .build [(.string ⟨#[]⟩), (.bool false), (.int .i64 0), (.int .i64 0), (.int .i64 0), (.int .i64 0), (.slice none 0 0), (.int .i64 0), (.int .i64 0), (.slice none 0 0), (.int .i64 0), (.bool false), (.int .i64 0), (.string ⟨#[]⟩), (.slice none 0 0), (.bool false), (.slice none 0 0), .nilIface, (.bool false), (.int .i64 0), (.string ⟨#[]⟩), (.slice none 0 0)] [(0, 16, (.tmp 97)), (17, 1, (.tmp 100))], none⟩,
    ⟨(some 102), .box (.tmp 101), none⟩,
    ⟨(some 103), .mkIface 165 (.tmp 102), none⟩,
    ⟨(some 2), .mov (.tmp 103), none⟩])
  .ret)
  .skip))))))))))))))))))
  (.seq (.ops [⟨(some 104), .load true 16 (.tmp 3), none⟩,
    ⟨(some 105), .build [(.string ⟨#[]⟩), (.bool false), (.int .i64 0), (.int .i64 0), (.int .i64 0), (.int .i64 0), (.slice none 0 0), (.int .i64 0), (.int .i64 0), (.slice none 0 0), (.int .i64 0), (.bool false), (.int .i64 0), (.string ⟨#[]⟩), (.slice none 0 0), (.bool false), (.slice none 0 0), (.slice none 0 0)] [(0, 16, (.tmp 104))], none⟩,
    ⟨(some 106), .box (.tmp 105), none⟩,
    ⟨(some 107), .mkIface 168 (.tmp 106), none⟩,
    ⟨(some 2), .mov (.tmp 107), none⟩])
  .ret))))))⟩
theorem F69_ok : compF Tryz.prog 69 = some F69 := by kernel_rfl

/-- colonnade/value.Fits -/
def F70 : FC := ⟨14, [.tmp 4],
  (.seq (.ops [⟨(some 2), .box (.tmp 0), none⟩,
    ⟨(some 3), .box (.tmp 1), none⟩,
    ⟨(some 4), .mov (.const (.int .i64 0)), none⟩])
  (.seq (.block 0 (.seq (.ops [⟨(some 6), .load true 7 (.tmp 2), none⟩,
    ⟨(some 7), .call 84 [(.tmp 6)], none⟩,
    ⟨(some 8), .un .not (.tmp 7), none⟩,
    ⟨(some 5), .mov (.tmp 8), none⟩])
  (.cond (.tmp 5)
  (.seq (.ops [⟨(some 4), .mov (.const (.int .i64 5)), none⟩])
  .ret)
  (.seq (.ops [⟨(some 10), .load true 7 (.tmp 2), none⟩,
    ⟨(some 11), .load true 4 (.tmp 3), none⟩,
    ⟨(some 12), .call 85 [(.tmp 10), (.tmp 11)], none⟩,
    ⟨(some 13), .un .not (.tmp 12), none⟩,
    ⟨(some 9), .mov (.tmp 13), none⟩])
  (.cond (.tmp 9)
  (.seq (.ops [⟨(some 4), .mov (.const (.int .i64 7)), none⟩])
  .ret)
  .skip)))))
  (.seq (.ops [⟨(some 4), .mov (.const (.int .i64 0)), none⟩])
  .ret)))⟩
theorem F70_ok : compF Tryz.prog 70 = some F70 := by kernel_rfl

/-- colonnade/calc.whole -/
def F72 : FC := ⟨13, [.tmp 4],
  (.seq (.ops [⟨(some 4), .mov (.const (.pointer none)), none⟩])
  (.seq (.seq (.ops [⟨(some 5), .mov (.tmp 0), none⟩,
    ⟨(some 6), .bin .eql (.tmp 5) (.const (.int .i64 10)) (some (.int .i64)), none⟩])
  (.cond (.tmp 6)
  (.seq (.ops [⟨(some 7), .alloc [(.bool false), (.slice none 0 0)], none⟩,
    ⟨(some 8), .mov (.tmp 1), none⟩,
    ⟨(some 9), .conv .u64 (.tmp 8), none⟩,
    ⟨(some 10), .call 101 [(.tmp 7), (.tmp 9)], none⟩,
    ⟨(some 4), .mov (.tmp 10), none⟩])
  .ret)
  .skip))
  (.seq (.ops [⟨(some 11), .mov (.tmp 1), none⟩,
    ⟨(some 12), .call 102 [(.tmp 11)], none⟩,
    ⟨(some 4), .mov (.tmp 12), none⟩])
  .ret)))⟩
theorem F72_ok : compF Tryz.prog 72 = some F72 := by kernel_rfl

/-- (*colonnade/long.Int).Mul -/
def F76 : FC := ⟨27, [.tmp 6],
  (.seq (.ops [⟨(some 6), .mov (.const (.pointer none)), none⟩])
  (.seq (.ops [⟨(some 7), .mov (.tmp 0), none⟩,
    ⟨(some 8), .mov (.tmp 1), none⟩,
    ⟨(some 9), .nilCheck (.tmp 8), none⟩,
    ⟨(some 10), .fieldAddr 0 (.tmp 9), none⟩,
    ⟨(some 11), .load false 1 (.tmp 10), none⟩,
    ⟨(some 12), .mov (.tmp 2), none⟩,
    ⟨(some 13), .nilCheck (.tmp 12), none⟩,
    ⟨(some 14), .fieldAddr 0 (.tmp 13), none⟩,
    ⟨(some 15), .load false 1 (.tmp 14), none⟩,
    ⟨(some 16), .bin .neq (.tmp 11) (.tmp 15) (some .bool), none⟩,
    ⟨(some 17), .mov (.tmp 1), none⟩,
    ⟨(some 18), .nilCheck (.tmp 17), none⟩,
    ⟨(some 19), .fieldAddr 1 (.tmp 18), none⟩,
    ⟨(some 20), .load false 1 (.tmp 19), none⟩,
    ⟨(some 21), .mov (.tmp 2), none⟩,
    ⟨(some 22), .nilCheck (.tmp 21), none⟩,
    ⟨(some 23), .fieldAddr 1 (.tmp 22), none⟩,
    ⟨(some 24), .load false 1 (.tmp 23), none⟩,
    ⟨(some 25), .call 105 [(.tmp 20), (.tmp 24)], none⟩,
    ⟨none, .again 15 false 1 (.tmp 14), none⟩,
    ⟨none, .again 11 false 1 (.tmp 10), none⟩,
    ⟨(some 26), .call 103 [(.tmp 7), (.tmp 16), (.tmp 25)], none⟩,
    ⟨(some 6), .mov (.tmp 26), none⟩])
  .ret))⟩
theorem F76_ok : compF Tryz.prog 76 = some F76 := by kernel_rfl

/-- colonnade/calc.kept -/
def F79 : FC := ⟨44, [.cell 4 true 4, .tmp 5],
  (.seq (.ops [⟨(some 4), .alloc [(.bool false), (.int .i64 0), (.string ⟨#[]⟩), (.slice none 0 0)], none⟩,
    ⟨(some 5), .mov (.const (.int .i64 0)), none⟩])
  (.seq (.ops [⟨(some 9), .mov (.tmp 0), none⟩,
    ⟨(some 10), .call 107 [(.tmp 9)], none⟩,
    ⟨(some 6), .mov (.tmp 10), none⟩])
  (.seq (.ops [⟨(some 11), .alloc [(.bool false), (.slice none 0 0)], none⟩,
    ⟨(some 7), .mov (.tmp 11), none⟩])
  (.seq (.ops [⟨(some 12), .alloc [(.bool false), (.slice none 0 0)], none⟩,
    ⟨(some 13), .call 102 [(.const (.int .i64 1))], none⟩,
    ⟨(some 14), .mov (.tmp 6), none⟩,
    ⟨(some 15), .call 108 [(.tmp 12), (.tmp 13), (.tmp 14)], none⟩,
    ⟨(some 8), .mov (.tmp 15), none⟩])
  (.seq (.seq (.ops [⟨(some 16), .mov (.tmp 0), none⟩,
    ⟨(some 17), .call 51 [(.tmp 16)], none⟩])
  (.cond (.tmp 17)
  (.seq (.ops [⟨(some 18), .mov (.tmp 8), none⟩,
    ⟨(some 19), .mov (.tmp 8), none⟩,
    ⟨(some 20), .call 109 [(.tmp 18), (.tmp 19), (.const (.int .u64 1))], none⟩])
  (.ops [⟨(some 21), .mov (.tmp 7), none⟩,
    ⟨(some 22), .mov (.tmp 8), none⟩,
    ⟨(some 23), .call 110 [(.tmp 21), (.tmp 22)], none⟩]))
  .skip))
  (.seq (.seq (.ops [⟨(some 24), .mov (.tmp 1), none⟩,
    ⟨(some 25), .mov (.tmp 7), none⟩,
    ⟨(some 26), .call 111 [(.tmp 24), (.tmp 25)], none⟩,
    ⟨(some 27), .bin .lss (.tmp 26) (.const (.int .i64 0)) (some (.int .i64)), none⟩,
    ⟨(some 28), .mov (.tmp 27), none⟩,
    ⟨(some 29), .mov (.tmp 1), (some (28, false))⟩,
    ⟨(some 30), .mov (.tmp 8), (some (28, false))⟩,
    ⟨(some 31), .call 111 [(.tmp 29), (.tmp 30)], (some (28, false))⟩,
    ⟨(some 32), .bin .geq (.tmp 31) (.const (.int .i64 0)) (some (.int .i64)), (some (28, false))⟩,
    ⟨(some 33), .pick (.tmp 28) (.const (.bool true)) (.tmp 32), none⟩])
  (.cond (.tmp 33)
  (.seq (.ops [⟨(some 34), .build [(.bool false), (.int .i64 0), (.string ⟨#[]⟩), (.slice none 0 0)] [], none⟩,
    ⟨none, .store 4 (.tmp 4) (.tmp 34), none⟩,
    ⟨(some 5), .mov (.const (.int .i64 170)), none⟩])
  .ret)
  .skip))
  (.seq (.seq (.ops [⟨(some 35), .mov (.tmp 0), none⟩,
    ⟨(some 36), .bin .eql (.tmp 35) (.const (.int .i64 10)) (some (.int .i64)), none⟩])
  (.cond (.tmp 36)
  (.seq (.ops [⟨(some 37), .mov (.tmp 1), none⟩,
    ⟨(some 38), .call 112 [(.tmp 37)], none⟩,
    ⟨(some 39), .conv .i64 (.tmp 38), none⟩,
    ⟨(some 40), .build [(.bool false), (.int .i64 0), (.string ⟨#[]⟩), (.slice none 0 0)] [(1, 1, (.tmp 39))], none⟩,
    ⟨none, .store 4 (.tmp 4) (.tmp 40), none⟩,
    ⟨(some 5), .mov (.const (.int .i64 0)), none⟩])
  .ret)
  .skip))
  (.seq (.ops [⟨(some 41), .mov (.tmp 1), none⟩,
    ⟨(some 42), .call 113 [(.tmp 41)], none⟩,
    ⟨(some 43), .build [(.bool false), (.int .i64 0), (.string ⟨#[]⟩), (.slice none 0 0)] [(1, 1, (.tmp 42))], none⟩,
    ⟨none, .store 4 (.tmp 4) (.tmp 43), none⟩,
    ⟨(some 5), .mov (.const (.int .i64 0)), none⟩])
  .ret))))))))⟩
theorem F79_ok : compF Tryz.prog 79 = some F79 := by kernel_rfl

/-- colonnade/kind.mayType -/
def F82 : FC := ⟨8, [.tmp 2],
  (.seq (.ops [⟨(some 1), .box (.tmp 0), none⟩,
    ⟨(some 2), .mov (.const (.bool false)), none⟩])
  (.seq (.ops [⟨(some 3), .load true 5 (.tmp 1), none⟩,
    ⟨(some 4), .call 114 [(.tmp 3)], none⟩,
    ⟨(some 5), .call 39 [(.tmp 4)], none⟩,
    ⟨(some 6), .field false 0 1 (.tmp 5), none⟩,
    ⟨(some 7), .bin .eql (.tmp 6) (.const (.int .i64 0)) (some (.int .i64)), none⟩,
    ⟨(some 2), .mov (.tmp 7), none⟩])
  .ret))⟩
theorem F82_ok : compF Tryz.prog 82 = some F82 := by kernel_rfl

/-- colonnade/value.may -/
def F84 : FC := ⟨7, [.tmp 2],
  (.seq (.ops [⟨(some 1), .box (.tmp 0), none⟩,
    ⟨(some 2), .mov (.const (.bool false)), none⟩])
  (.seq (.ops [⟨(some 3), .load true 7 (.tmp 1), none⟩,
    ⟨(some 4), .call 39 [(.tmp 3)], none⟩,
    ⟨(some 5), .field false 0 1 (.tmp 4), none⟩,
    ⟨(some 6), .bin .eql (.tmp 5) (.const (.int .i64 0)) (some (.int .i64)), none⟩,
    ⟨(some 2), .mov (.tmp 6), none⟩])
  .ret))⟩
theorem F84_ok : compF Tryz.prog 84 = some F84 := by kernel_rfl

/-- colonnade/value.good -/
def F85 : FC := ⟨12, [.tmp 4],
  (.seq (.ops [⟨(some 2), .box (.tmp 0), none⟩,
    ⟨(some 3), .box (.tmp 1), none⟩,
    ⟨(some 4), .mov (.const (.bool false)), none⟩])
  (.seq (.ops [⟨(some 6), .build [(.int .i64 0)] [(0, 1, (.const (.int .i64 4194304)))], none⟩,
    ⟨(some 7), .box (.tmp 6), none⟩,
    ⟨(some 5), .mov (.tmp 7), none⟩])
  (.seq (.ops [⟨(some 8), .mov (.tmp 5), none⟩,
    ⟨(some 9), .load true 7 (.tmp 2), none⟩,
    ⟨(some 10), .load true 4 (.tmp 3), none⟩,
    ⟨(some 11), .call 117 [(.tmp 8), (.tmp 9), (.tmp 10)], none⟩,
    ⟨(some 4), .mov (.tmp 11), none⟩])
  .ret)))⟩
theorem F85_ok : compF Tryz.prog 85 = some F85 := by kernel_rfl

/-- colonnade/kind.all -/
def F89 : FC := ⟨6, [.tmp 4],
  (.seq (.ops [⟨(some 2), .box (.tmp 0), none⟩,
    ⟨(some 3), .box (.tmp 1), none⟩,
    ⟨(some 4), .mov (.const .nilFunc), none⟩])
  (.seq (.ops [⟨(some 5), .mkFunc (.func 124) [] [(.tmp 3), (.tmp 2)], none⟩,
    ⟨(some 4), .mov (.tmp 5), none⟩])
  .ret))⟩
theorem F89_ok : compF Tryz.prog 89 = some F89 := by kernel_rfl

/-- colonnade/kind.wrong -/
def F90 : FC := ⟨74, [.tmp 6],
  (.seq (.ops [⟨(some 3), .box (.tmp 0), none⟩,
    ⟨(some 6), .mov (.const (.int .i64 0)), none⟩])
  (.seq (.ops [⟨(some 10), .fieldAddr 2 (.tmp 3), none⟩,
    ⟨(some 11), .fieldAddr 2 (.tmp 10), none⟩,
    ⟨(some 12), .load true 5 (.tmp 11), none⟩,
    ⟨(some 7), .alloc [(.int .i64 0), (.int .i64 0), (.int .i64 0), (.int .i64 0), (.slice none 0 0)], none⟩,
    ⟨none, .store 5 (.tmp 7) (.tmp 12), none⟩])
  (.seq (.ops [⟨(some 14), .mov (.tmp 2), none⟩,
    ⟨(some 15), .fieldAddr 2 (.tmp 7), none⟩,
    ⟨(some 16), .load false 1 (.tmp 15), none⟩,
    ⟨(some 17), .lookup 0 [(.int .i64 0)] false true (.tmp 14) (.tmp 16), none⟩,
    ⟨(some 13), .mov (.tmp 17), none⟩,
    ⟨(some 18), .extract (.tmp 13) 0, none⟩,
    ⟨(some 19), .extract (.tmp 13) 1, none⟩,
    ⟨(some 8), .mov (.tmp 18), none⟩,
    ⟨(some 9), .mov (.tmp 19), none⟩])
  (.seq (.block 0 (.seq (.ops [⟨(some 21), .fieldAddr 0 (.tmp 3), none⟩,
    ⟨(some 22), .load false 1 (.tmp 21), none⟩,
    ⟨(some 23), .len 1 (.tmp 22), none⟩,
    ⟨(some 24), .bin .gtr (.tmp 23) (.const (.int .i64 64)) (some (.int .i64)), none⟩,
    ⟨(some 20), .mov (.tmp 24), none⟩])
  (.cond (.tmp 20)
  (.seq (.ops [⟨(some 6), .mov (.const (.int .i64 33)), none⟩])
  .ret)
  (.seq (.ops [⟨(some 26), .mov (.tmp 1), none⟩,
    ⟨(some 27), .bin .geq (.tmp 26) (.const (.int .i64 256)) (some (.int .i64)), none⟩,
    ⟨(some 25), .mov (.tmp 27), none⟩])
  (.cond (.tmp 25)
  (.seq (.ops [⟨(some 6), .mov (.const (.int .i64 34)), none⟩])
  .ret)
  (.seq (.ops [⟨(some 29), .fieldAddr 2 (.tmp 3), none⟩,
    ⟨(some 30), .fieldAddr 0 (.tmp 29), none⟩,
    ⟨(some 31), .load false 1 (.tmp 30), none⟩,
    ⟨(some 32), .call 127 [(.tmp 31)], none⟩,
    ⟨(some 33), .un .not (.tmp 32), none⟩,
    ⟨(some 28), .mov (.tmp 33), none⟩])
  (.cond (.tmp 28)
  (.seq (.ops [⟨(some 6), .mov (.const (.int .i64 30)), none⟩])
  .ret)
  (.seq (.ops [⟨(some 35), .fieldAddr 1 (.tmp 3), none⟩,
    ⟨(some 36), .load false 1 (.tmp 35), none⟩,
    ⟨(some 37), .mkFunc (.func 129) [] [(.tmp 3)], none⟩,
    ⟨(some 38), .call 128 [(.tmp 36), (.tmp 37)], none⟩,
    ⟨(some 34), .mov (.tmp 38), none⟩])
  (.cond (.tmp 34)
  (.seq (.ops [⟨(some 6), .mov (.const (.int .i64 31)), none⟩])
  .ret)
  (.seq (.ops [⟨(some 40), .load true 5 (.tmp 7), none⟩,
    ⟨(some 41), .call 130 [(.tmp 40)], none⟩,
    ⟨(some 42), .un .not (.tmp 41), none⟩,
    ⟨(some 39), .mov (.tmp 42), none⟩])
  (.cond (.tmp 39)
  (.seq (.ops [⟨(some 6), .mov (.const (.int .i64 32)), none⟩])
  .ret)
  (.seq (.ops [⟨(some 44), .fieldAddr 2 (.tmp 3), none⟩,
    ⟨(some 45), .load true 7 (.tmp 44), none⟩,
    ⟨(some 46), .call 131 [(.tmp 45)], none⟩,
    ⟨(some 47), .un .not (.tmp 46), none⟩,
    ⟨(some 43), .mov (.tmp 47), none⟩])
  (.cond (.tmp 43)
  (.seq (.ops [⟨(some 6), .mov (.const (.int .i64 35)), none⟩])
  .ret)
  (.seq (.seq (.ops [⟨(some 49), .fieldAddr 9 (.tmp 3), none⟩,
    ⟨(some 50), .load false 1 (.tmp 49), none⟩,
    ⟨(some 51), .mov (.tmp 50), none⟩,
    ⟨(some 52), .fieldAddr 0 (.tmp 7), (some (51, true))⟩,
    ⟨(some 53), .load false 1 (.tmp 52), (some (51, true))⟩,
    ⟨(some 54), .bin .eql (.tmp 53) (.const (.int .i64 19)) (some (.int .i64)), (some (51, true))⟩,
    ⟨(some 55), .mov (.tmp 54), (some (51, true))⟩,
    ⟨(some 56), .fieldAddr 0 (.tmp 7), (some (55, false))⟩,
    ⟨(some 57), .load false 1 (.tmp 56), (some (55, false))⟩,
    ⟨(some 58), .bin .eql (.tmp 57) (.const (.int .i64 20)) (some (.int .i64)), (some (55, false))⟩,
    ⟨(some 59), .pick (.tmp 55) (.const (.bool true)) (.tmp 58), (some (51, true))⟩,
    ⟨(some 60), .pick (.tmp 51) (.tmp 59) (.const (.bool false)), none⟩,
    ⟨(some 48), .mov (.tmp 60), none⟩])
  (.cond (.tmp 48)
  .skip
  (.ops [⟨(some 61), .fieldAddr 0 (.tmp 7), none⟩,
    ⟨(some 62), .load false 1 (.tmp 61), none⟩,
    ⟨(some 63), .bin .eql (.tmp 62) (.const (.int .i64 19)) (some (.int .i64)), none⟩,
    ⟨(some 64), .mov (.tmp 63), none⟩,
    ⟨(some 65), .fieldAddr 4 (.tmp 7), (some (64, true))⟩,
    ⟨(some 66), .load false 1 (.tmp 65), (some (64, true))⟩,
    ⟨(some 67), .indexAddr 7 (.tmp 66) (.const (.int .i64 0)), (some (64, true))⟩,
    ⟨(some 68), .fieldAddr 1 (.tmp 67), (some (64, true))⟩,
    ⟨(some 69), .load false 1 (.tmp 68), (some (64, true))⟩,
    ⟨(some 70), .mov (.tmp 69), (some (64, true))⟩,
    ⟨(some 71), .mov (.tmp 9), (some (70, false))⟩,
    ⟨(some 72), .pick (.tmp 70) (.const (.bool true)) (.tmp 71), (some (64, true))⟩,
    ⟨(some 73), .pick (.tmp 64) (.tmp 72) (.const (.bool false)), none⟩,
    ⟨(some 48), .mov (.tmp 73), none⟩])))
  (.cond (.tmp 48)
  (.seq (.ops [⟨(some 6), .mov (.const (.int .i64 36)), none⟩])
  .ret)
  .skip)))))))))))))))
  (.seq (.ops [⟨(some 6), .mov (.const (.int .i64 0)), none⟩])
  .ret)))))⟩
theorem F90_ok : compF Tryz.prog 90 = some F90 := by kernel_rfl

/-- colonnade/array.check -/
def F92 : FC := ⟨92, [.cell 4 true 3, .tmp 5],
  (.seq (.ops [⟨(some 2), .box (.tmp 0), none⟩,
    ⟨(some 3), .box (.tmp 1), none⟩,
    ⟨(some 4), .alloc [(.int .i64 0), (.slice none 0 0), (.int .i64 0)], none⟩,
    ⟨(some 5), .mov (.const (.slice none 0 0)), none⟩])
  (.seq (.seq (.ops [⟨(some 18), .load true 7 (.tmp 2), none⟩,
    ⟨(some 19), .load true 6 (.tmp 3), none⟩,
    ⟨(some 20), .call 132 [(.tmp 18), (.tmp 19)], none⟩,
    ⟨(some 6), .alloc [(.int .i64 0), (.slice none 0 0), (.int .i64 0)], none⟩,
    ⟨none, .store 3 (.tmp 6) (.tmp 20), none⟩])
  (.seq (.ops [⟨(some 21), .fieldAddr 0 (.tmp 6), none⟩,
    ⟨(some 22), .load false 1 (.tmp 21), none⟩,
    ⟨(some 23), .bin .neq (.tmp 22) (.const (.int .i64 0)) (some (.int .i64)), none⟩])
  (.cond (.tmp 23)
  (.seq (.ops [⟨(some 24), .load true 3 (.tmp 6), none⟩,
    ⟨none, .store 3 (.tmp 4) (.tmp 24), none⟩,
    ⟨(some 5), .mov (.const (.slice none 0 0)), none⟩])
  .ret)
  .skip)))
  (.seq (.seq (.ops [⟨(some 25), .load true 7 (.tmp 2), none⟩,
    ⟨(some 26), .load true 6 (.tmp 3), none⟩,
    ⟨(some 27), .call 133 [(.tmp 25), (.tmp 26)], none⟩,
    ⟨(some 7), .alloc [(.int .i64 0), (.slice none 0 0), (.int .i64 0)], none⟩,
    ⟨none, .store 3 (.tmp 7) (.tmp 27), none⟩])
  (.seq (.ops [⟨(some 28), .fieldAddr 0 (.tmp 7), none⟩,
    ⟨(some 29), .load false 1 (.tmp 28), none⟩,
    ⟨(some 30), .bin .neq (.tmp 29) (.const (.int .i64 0)) (some (.int .i64)), none⟩])
  (.cond (.tmp 30)
  (.seq (.ops [⟨(some 31), .load true 3 (.tmp 7), none⟩,
    ⟨none, .store 3 (.tmp 4) (.tmp 31), none⟩,
    ⟨(some 5), .mov (.const (.slice none 0 0)), none⟩])
  .ret)
  .skip)))
  (.seq (.ops [⟨(some 8), .mov (.const (.slice none 0 0)), none⟩])
  (.seq (.seq (.ops [⟨(some 32), .load true 6 (.tmp 3), none⟩,
    ⟨(some 33), .call 134 [(.tmp 32)], none⟩,
    ⟨(some 34), .len 1 (.tmp 33), none⟩,
    ⟨(some 35), .mov (.const (.int .i64 0)), none⟩])
  (.block 0 (.loop (.seq (.ops [⟨(some 36), .bin .lss (.tmp 35) (.tmp 34) (some (.int .i64)), none⟩])
  (.seq (.cond (.tmp 36)
  .skip
  (.exit 0))
  (.seq (.block 1 (.seq (.ops [⟨(some 37), .mov (.tmp 35), none⟩,
    ⟨(some 38), .indexAddr 6 (.tmp 33) (.tmp 35), none⟩,
    ⟨(some 39), .load true 6 (.tmp 38), none⟩,
    ⟨(some 10), .alloc [(.int .i64 0), (.int .i64 0), (.int .i64 0), (.slice none 0 0), (.slice none 0 0), (.slice none 0 0)], none⟩,
    ⟨(some 9), .mov (.tmp 37), none⟩,
    ⟨none, .store 6 (.tmp 10) (.tmp 39), none⟩])
  (.seq (.ops [⟨(some 41), .load true 7 (.tmp 2), none⟩,
    ⟨(some 42), .mov (.tmp 9), none⟩,
    ⟨(some 44), .load true 6 (.tmp 10), none⟩,
    ⟨(some 43), .call 135 [(.tmp 41), (.tmp 42)], none⟩,
    ⟨none, .again 44 true 6 (.tmp 10), none⟩,
    ⟨(some 45), .call 92 [(.tmp 43), (.tmp 44)], none⟩,
    ⟨(some 40), .mov (.tmp 45), none⟩,
    ⟨(some 46), .extract (.tmp 40) 0, none⟩,
    ⟨(some 47), .extract (.tmp 40) 1, none⟩,
    ⟨(some 11), .alloc [(.int .i64 0), (.slice none 0 0), (.int .i64 0)], none⟩,
    ⟨none, .store 3 (.tmp 11) (.tmp 46), none⟩,
    ⟨(some 12), .mov (.tmp 47), none⟩])
  (.seq (.seq (.ops [⟨(some 48), .fieldAddr 0 (.tmp 11), none⟩,
    ⟨(some 49), .load false 1 (.tmp 48), none⟩,
    ⟨(some 50), .bin .neq (.tmp 49) (.const (.int .i64 0)) (some (.int .i64)), none⟩])
  (.cond (.tmp 50)
  (.seq (.ops [⟨(some 51), .mov (.tmp 9), none⟩,
    ⟨(some 52), .buildSlice 1 1 [(.int .i64 0)] [(0, 1, (.tmp 51))], none⟩,
    ⟨(some 53), .fieldAddr 1 (.tmp 11), none⟩,
    ⟨(some 54), .load false 1 (.tmp 53), none⟩,
    ⟨(some 55), .append 1 8 (.tmp 52) (.tmp 54), none⟩,
    ⟨(some 56), .fieldAddr 1 (.tmp 11), none⟩,
    ⟨none, .store 1 (.tmp 56) (.tmp 55), none⟩])
  (.seq (.ops [⟨(some 57), .load true 3 (.tmp 11), none⟩,
    ⟨none, .store 3 (.tmp 4) (.tmp 57), none⟩,
    ⟨(some 5), .mov (.const (.slice none 0 0)), none⟩])
  .ret))
  .skip))
  (.ops [⟨(some 58), .mov (.tmp 8), none⟩,
    ⟨(some 59), .mov (.tmp 12), none⟩,
    ⟨(some 60), .buildSlice 1 1 [(.slice none 0 0)] [(0, 1, (.tmp 59))], none⟩,
    ⟨(some 61), .append 1 24 (.tmp 58) (.tmp 60), none⟩,
    ⟨(some 8), .mov (.tmp 61), none⟩])))))
  (.ops [⟨(some 62), .bin .add (.tmp 35) (.const (.int .i64 1)) (some (.int .i64)), none⟩,
    ⟨(some 35), .mov (.tmp 62), none⟩])))))))
  (.seq (.seq (.ops [⟨(some 63), .fieldAddr 2 (.tmp 2), none⟩,
    ⟨(some 64), .fieldAddr 0 (.tmp 63), none⟩,
    ⟨(some 65), .load false 1 (.tmp 64), none⟩,
    ⟨(some 66), .bin .eql (.tmp 65) (.const (.int .i64 20)) (some (.int .i64)), none⟩])
  (.cond (.tmp 66)
  (.seq (.ops [⟨(some 67), .load true 6 (.tmp 3), none⟩,
    ⟨(some 68), .call 136 [(.tmp 67)], none⟩,
    ⟨(some 13), .alloc [(.int .i64 0), (.slice none 0 0), (.int .i64 0)], none⟩,
    ⟨none, .store 3 (.tmp 13) (.tmp 68), none⟩])
  (.seq (.ops [⟨(some 69), .fieldAddr 0 (.tmp 13), none⟩,
    ⟨(some 70), .load false 1 (.tmp 69), none⟩,
    ⟨(some 71), .bin .neq (.tmp 70) (.const (.int .i64 0)) (some (.int .i64)), none⟩])
  (.cond (.tmp 71)
  (.seq (.ops [⟨(some 72), .load true 3 (.tmp 13), none⟩,
    ⟨none, .store 3 (.tmp 4) (.tmp 72), none⟩,
    ⟨(some 5), .mov (.const (.slice none 0 0)), none⟩])
  .ret)
  .skip)))
  .skip))
  (.seq (.ops [⟨(some 73), .load true 7 (.tmp 2), none⟩,
    ⟨(some 74), .load true 6 (.tmp 3), none⟩,
    ⟨(some 75), .mov (.tmp 8), none⟩,
    ⟨(some 76), .call 137 [(.tmp 73), (.tmp 74), (.tmp 75)], none⟩,
    ⟨(some 14), .mov (.tmp 76), none⟩])
  (.seq (.ops [⟨(some 15), .mov (.const (.int .i64 0)), none⟩])
  (.seq (.seq (.ops [⟨(some 77), .mov (.tmp 14), none⟩,
    ⟨(some 78), .len 1 (.tmp 77), none⟩,
    ⟨(some 79), .mov (.const (.int .i64 0)), none⟩])
  (.block 2 (.loop (.seq (.ops [⟨(some 80), .bin .lss (.tmp 79) (.tmp 78) (some (.int .i64)), none⟩])
  (.seq (.cond (.tmp 80)
  .skip
  (.exit 2))
  (.seq (.block 3 (.seq (.ops [⟨(some 81), .indexAddr 1 (.tmp 77) (.tmp 79), none⟩,
    ⟨(some 82), .load false 1 (.tmp 81), none⟩,
    ⟨(some 17), .mov (.tmp 82), none⟩])
  (.ops [⟨(some 83), .mov (.tmp 15), none⟩,
    ⟨(some 84), .mov (.tmp 17), none⟩,
    ⟨(some 85), .bin .add (.tmp 83) (.tmp 84) (some (.int .i64)), none⟩,
    ⟨(some 15), .mov (.tmp 85), none⟩])))
  (.ops [⟨(some 86), .bin .add (.tmp 79) (.const (.int .i64 1)) (some (.int .i64)), none⟩,
    ⟨(some 79), .mov (.tmp 86), none⟩])))))))
  (.seq (.seq (.ops [⟨(some 87), .mov (.tmp 15), none⟩,
    ⟨(some 88), .bin .gtr (.tmp 87) (.const (.int .i64 4194304)) (some (.int .i64)), none⟩])
  (.cond (.tmp 88)
  (.seq (.ops [⟨(some 89), .call 91 [(.const (.int .i64 3)), (.const (.int .i64 1))], none⟩,
    ⟨none, .store 3 (.tmp 4) (.tmp 89), none⟩,
    ⟨(some 5), .mov (.const (.slice none 0 0)), none⟩])
  .ret)
  .skip))
  (.seq (.ops [⟨(some 90), .build [(.int .i64 0), (.slice none 0 0), (.int .i64 0)] [], none⟩,
    ⟨(some 91), .mov (.tmp 14), none⟩,
    ⟨none, .store 3 (.tmp 4) (.tmp 90), none⟩,
    ⟨(some 5), .mov (.tmp 91), none⟩])
  .ret)))))))))))⟩
theorem F92_ok : compF Tryz.prog 92 = some F92 := by kernel_rfl

/-- colonnade/array.familyOf -/
def F93 : FC := ⟨32, [.tmp 2],
  (.seq (.ops [⟨(some 2), .mov (.const .nilIface), none⟩])
  (.seq (.seq (.ops [⟨(some 3), .mov (.tmp 0), none⟩])
  (.block 0 (.seq (.seq (.ops [⟨(some 5), .bin .eql (.tmp 3) (.const (.int .i64 12)) (some (.int .i64)), none⟩,
    ⟨(some 4), .mov (.tmp 5), none⟩])
  (.cond (.tmp 4)
  .skip
  (.ops [⟨(some 6), .bin .eql (.tmp 3) (.const (.int .i64 13)) (some (.int .i64)), none⟩,
    ⟨(some 4), .mov (.tmp 6), none⟩])))
  (.cond (.tmp 4)
  (.seq (.ops [⟨(some 7), .build [] [], none⟩,
    ⟨(some 8), .mkIface 211 (.tmp 7), none⟩,
    ⟨(some 2), .mov (.tmp 8), none⟩])
  .ret)
  (.seq (.seq (.ops [⟨(some 10), .bin .eql (.tmp 3) (.const (.int .i64 15)) (some (.int .i64)), none⟩,
    ⟨(some 9), .mov (.tmp 10), none⟩])
  (.cond (.tmp 9)
  .skip
  (.ops [⟨(some 11), .bin .eql (.tmp 3) (.const (.int .i64 16)) (some (.int .i64)), none⟩,
    ⟨(some 9), .mov (.tmp 11), none⟩])))
  (.cond (.tmp 9)
  (.seq (.ops [⟨(some 12), .build [] [], none⟩,
    ⟨(some 13), .mkIface 212 (.tmp 12), none⟩,
    ⟨(some 2), .mov (.tmp 13), none⟩])
  .ret)
  (.seq (.ops [⟨(some 15), .bin .eql (.tmp 3) (.const (.int .i64 17)) (some (.int .i64)), none⟩,
    ⟨(some 14), .mov (.tmp 15), none⟩])
  (.cond (.tmp 14)
  (.seq (.ops [⟨(some 16), .build [] [], none⟩,
    ⟨(some 17), .mkIface 213 (.tmp 16), none⟩,
    ⟨(some 2), .mov (.tmp 17), none⟩])
  .ret)
  (.seq (.ops [⟨(some 19), .bin .eql (.tmp 3) (.const (.int .i64 18)) (some (.int .i64)), none⟩,
    ⟨(some 18), .mov (.tmp 19), none⟩])
  (.cond (.tmp 18)
  (.seq (.ops [⟨(some 20), .build [] [], none⟩,
    ⟨(some 21), .mkIface 214 (.tmp 20), none⟩,
    ⟨(some 2), .mov (.tmp 21), none⟩])
  .ret)
  (.seq (.ops [⟨(some 23), .bin .eql (.tmp 3) (.const (.int .i64 19)) (some (.int .i64)), none⟩,
    ⟨(some 22), .mov (.tmp 23), none⟩])
  (.cond (.tmp 22)
  (.seq (.ops [⟨(some 24), .build [] [], none⟩,
    ⟨(some 25), .mkIface 215 (.tmp 24), none⟩,
    ⟨(some 2), .mov (.tmp 25), none⟩])
  .ret)
  (.seq (.ops [⟨(some 27), .bin .eql (.tmp 3) (.const (.int .i64 20)) (some (.int .i64)), none⟩,
    ⟨(some 26), .mov (.tmp 27), none⟩])
  (.cond (.tmp 26)
  (.seq (.ops [⟨(some 28), .build [] [], none⟩,
    ⟨(some 29), .mkIface 216 (.tmp 28), none⟩,
    ⟨(some 2), .mov (.tmp 29), none⟩])
  .ret)
  .skip))))))))))))))
  (.seq (.ops [⟨(some 30), .build [] [], none⟩,
    ⟨(some 31), .mkIface 217 (.tmp 30), none⟩,
    ⟨(some 2), .mov (.tmp 31), none⟩])
  .ret)))⟩
theorem F93_ok : compF Tryz.prog 93 = some F93 := by kernel_rfl

/-- slices.Clone[[]colonnade/api.Field,colonnade/api.Field] -/
def F94 : FC := ⟨8, [.tmp 2],
  (.seq (.ops [⟨(some 2), .mov (.const (.slice none 0 0)), none⟩])
  (.seq (.seq (.ops [⟨(some 3), .mov (.tmp 0), none⟩,
    ⟨(some 4), .bin .eql (.tmp 3) (.const (.slice none 0 0)) (some (.slice 27)), none⟩])
  (.cond (.tmp 4)
  (.seq (.ops [⟨(some 2), .mov (.const (.slice none 0 0)), none⟩])
  .ret)
  .skip))
  (.seq (.ops [⟨(some 5), .buildSlice 7 0 [] [], none⟩,
    ⟨(some 6), .mov (.tmp 0), none⟩,
    ⟨(some 7), .append 7 80 (.tmp 5) (.tmp 6), none⟩,
    ⟨(some 2), .mov (.tmp 7), none⟩])
  .ret)))⟩
theorem F94_ok : compF Tryz.prog 94 = some F94 := by kernel_rfl

/-- slices.Clone[[][]byte,[]byte] -/
def F95 : FC := ⟨8, [.tmp 2],
  (.seq (.ops [⟨(some 2), .mov (.const (.slice none 0 0)), none⟩])
  (.seq (.seq (.ops [⟨(some 3), .mov (.tmp 0), none⟩,
    ⟨(some 4), .bin .eql (.tmp 3) (.const (.slice none 0 0)) (some (.slice 28)), none⟩])
  (.cond (.tmp 4)
  (.seq (.ops [⟨(some 2), .mov (.const (.slice none 0 0)), none⟩])
  .ret)
  .skip))
  (.seq (.ops [⟨(some 5), .buildSlice 1 0 [] [], none⟩,
    ⟨(some 6), .mov (.tmp 0), none⟩,
    ⟨(some 7), .append 1 24 (.tmp 5) (.tmp 6), none⟩,
    ⟨(some 2), .mov (.tmp 7), none⟩])
  .ret)))⟩
theorem F95_ok : compF Tryz.prog 95 = some F95 := by kernel_rfl

/-- colonnade/array.copiedList -/
def F96 : FC := ⟨19, [.tmp 2],
  (.seq (.ops [⟨(some 2), .mov (.const (.slice none 0 0)), none⟩])
  (.seq (.ops [⟨(some 3), .mov (.const (.slice none 0 0)), none⟩])
  (.seq (.seq (.ops [⟨(some 6), .mov (.tmp 0), none⟩,
    ⟨(some 7), .len 1 (.tmp 6), none⟩,
    ⟨(some 8), .mov (.const (.int .i64 0)), none⟩])
  (.block 0 (.loop (.seq (.ops [⟨(some 9), .bin .lss (.tmp 8) (.tmp 7) (some (.int .i64)), none⟩])
  (.seq (.cond (.tmp 9)
  .skip
  (.exit 0))
  (.seq (.block 1 (.seq (.ops [⟨(some 10), .indexAddr 6 (.tmp 6) (.tmp 8), none⟩,
    ⟨(some 11), .load true 6 (.tmp 10), none⟩,
    ⟨(some 5), .alloc [(.int .i64 0), (.int .i64 0), (.int .i64 0), (.slice none 0 0), (.slice none 0 0), (.slice none 0 0)], none⟩,
    ⟨none, .store 6 (.tmp 5) (.tmp 11), none⟩])
  (.ops [⟨(some 12), .mov (.tmp 3), none⟩,
    ⟨(some 13), .load true 6 (.tmp 5), none⟩,
    ⟨(some 14), .call 65 [(.tmp 13)], none⟩,
    ⟨(some 15), .buildSlice 6 1 [(.int .i64 0), (.int .i64 0), (.int .i64 0), (.slice none 0 0), (.slice none 0 0), (.slice none 0 0)] [(0, 6, (.tmp 14))], none⟩,
    ⟨(some 16), .append 6 96 (.tmp 12) (.tmp 15), none⟩,
    ⟨(some 3), .mov (.tmp 16), none⟩])))
  (.ops [⟨(some 17), .bin .add (.tmp 8) (.const (.int .i64 1)) (some (.int .i64)), none⟩,
    ⟨(some 8), .mov (.tmp 17), none⟩])))))))
  (.seq (.ops [⟨(some 18), .mov (.tmp 3), none⟩,
    ⟨(some 2), .mov (.tmp 18), none⟩])
  .ret))))⟩
theorem F96_ok : compF Tryz.prog 96 = some F96 := by kernel_rfl

/-- (*colonnade/array.Array).All$1 -/
def F97 : FC := ⟨39, [],
  (.seq (.ops [⟨(some 3), .mov (.const (.int .i64 4194304)), none⟩])
  (.seq (.ops [⟨(some 8), .load false 1 (.tmp 1), none⟩,
    ⟨(some 9), .nilCheck (.tmp 8), none⟩,
    ⟨(some 10), .fieldAddr 14 (.tmp 9), none⟩,
    ⟨(some 11), .load false 1 (.tmp 10), none⟩,
    ⟨(some 12), .mov (.const (.int .i64 0)), none⟩])
  (.block 0 (.loop (.seq (.ops [⟨(some 13), .bin .lss (.tmp 12) (.tmp 11) (some (.int .i64)), none⟩])
  (.seq (.cond (.tmp 13)
  .skip
  (.exit 0))
  (.seq (.block 1 (.seq (.ops [⟨(some 14), .mov (.tmp 12), none⟩,
    ⟨(some 4), .mov (.tmp 14), none⟩])
  (.seq (.ops [⟨(some 16), .load false 1 (.tmp 1), none⟩,
    ⟨(some 17), .mov (.tmp 4), none⟩,
    ⟨(some 18), .call 98 [(.tmp 16), (.tmp 17)], none⟩,
    ⟨(some 15), .mov (.tmp 18), none⟩,
    ⟨(some 19), .extract (.tmp 15) 0, none⟩,
    ⟨(some 20), .extract (.tmp 15) 1, none⟩,
    ⟨(some 21), .extract (.tmp 15) 2, none⟩,
    ⟨(some 5), .alloc [(.bool false), (.int .i64 0), (.string ⟨#[]⟩), (.slice none 0 0)], none⟩,
    ⟨none, .store 4 (.tmp 5) (.tmp 19), none⟩,
    ⟨(some 6), .mov (.tmp 20), none⟩,
    ⟨(some 7), .mov (.tmp 21), none⟩])
  (.seq (.ops [⟨(some 22), .mov (.tmp 3), none⟩,
    ⟨(some 23), .mov (.tmp 6), none⟩,
    ⟨(some 24), .bin .sub (.tmp 22) (.tmp 23) (some (.int .i64)), none⟩,
    ⟨(some 3), .mov (.tmp 24), none⟩])
  (.seq (.ops [⟨(some 25), .mov (.tmp 7), none⟩,
    ⟨(some 26), .bin .neq (.tmp 25) (.const (.int .i64 0)) (some (.int .i64)), none⟩,
    ⟨(some 27), .mov (.tmp 26), none⟩,
    ⟨(some 28), .mov (.tmp 3), (some (27, false))⟩,
    ⟨(some 29), .bin .lss (.tmp 28) (.const (.int .i64 0)) (some (.int .i64)), (some (27, false))⟩,
    ⟨(some 30), .pick (.tmp 27) (.const (.bool true)) (.tmp 29), none⟩,
    ⟨(some 31), .mov (.tmp 30), none⟩,
    ⟨(some 32), .mov (.tmp 0), (some (31, false))⟩,
    ⟨(some 33), .mov (.tmp 4), (some (31, false))⟩,
    ⟨(some 34), .load true 4 (.tmp 5), (some (31, false))⟩,
    ⟨(some 35), .callv (.tmp 32) [(.tmp 33), (.tmp 34)], (some (31, false))⟩,
    ⟨(some 36), .un .not (.tmp 35), (some (31, false))⟩,
    ⟨(some 37), .pick (.tmp 31) (.const (.bool true)) (.tmp 36), none⟩])
  (.cond (.tmp 37)
  .ret
  .skip))))))
  (.ops [⟨(some 38), .bin .add (.tmp 12) (.const (.int .i64 1)) (some (.int .i64)), none⟩,
    ⟨(some 12), .mov (.tmp 38), none⟩]))))))))⟩
theorem F97_ok : compF Tryz.prog 97 = some F97 := by kernel_rfl

/-- colonnade/build.based -/
def F99 : FC := ⟨15, [.cell 2 true 16],
  (.seq (.ops [⟨(some 1), .box (.tmp 0), none⟩,
    ⟨(some 2), .alloc [(.string ⟨#[]⟩), (.bool false), (.int .i64 0), (.int .i64 0), (.int .i64 0), (.int .i64 0), (.slice none 0 0), (.int .i64 0), (.int .i64 0), (.slice none 0 0), (.int .i64 0), (.bool false), (.int .i64 0), (.string ⟨#[]⟩), (.slice none 0 0), (.bool false)], none⟩])
  (.seq (.ops [⟨(some 6), .load true 7 (.tmp 1), none⟩,
    ⟨(some 7), .call 140 [(.tmp 6)], none⟩,
    ⟨(some 5), .mov (.tmp 7), none⟩,
    ⟨(some 8), .extract (.tmp 5) 0, none⟩,
    ⟨(some 9), .extract (.tmp 5) 1, none⟩,
    ⟨(some 3), .alloc [(.bool false), (.int .i64 0), (.string ⟨#[]⟩), (.slice none 0 0)], none⟩,
    ⟨none, .store 4 (.tmp 3) (.tmp 8), none⟩,
    ⟨(some 4), .mov (.tmp 9), none⟩])
  (.seq (.ops [⟨(some 10), .load true 7 (.tmp 1), none⟩,
    ⟨(some 11), .load true 4 (.tmp 3), none⟩,
    ⟨(some 12), .mov (.tmp 4), none⟩,
    ⟨(some 13), .bin .eql (.tmp 12) (.const (.int .i64 0)) (some (.int .i64)), none⟩,
    ⟨(some 14), .build [(.string ⟨#[]⟩), (.bool false), (.int .i64 0), (.int .i64 0), (.int .i64 0), (.int .i64 0), (.slice none 0 0), (.int .i64 0), (.int .i64 0), (.slice none 0 0), (.int .i64 0), (.bool false), (.int .i64 0), (.string ⟨#[]⟩), (.slice none 0 0), (.bool false)] [(0, 7, (.tmp 10)), (11, 4, (.tmp 11)), (15, 1, (.tmp 13))], none⟩,
    ⟨none, .store 16 (.tmp 2) (.tmp 14), none⟩])
  .ret)))⟩
theorem F99_ok : compF Tryz.prog 99 = some F99 := by kernel_rfl

/-- colonnade/long.NewInt -/
def F102 : FC := ⟨6, [.tmp 2],
  (.seq (.ops [⟨(some 2), .mov (.const (.pointer none)), none⟩])
  (.seq (.ops [⟨(some 3), .alloc [(.bool false), (.slice none 0 0)], none⟩,
    ⟨(some 4), .mov (.tmp 0), none⟩,
    ⟨(some 5), .call 142 [(.tmp 3), (.tmp 4)], none⟩,
    ⟨(some 2), .mov (.tmp 5), none⟩])
  .ret))⟩
theorem F102_ok : compF Tryz.prog 102 = some F102 := by kernel_rfl

/-- (*colonnade/long.Int).give -/
def F103 : FC := ⟨21, [.tmp 6],
  (.seq (.ops [⟨(some 6), .mov (.const (.pointer none)), none⟩])
  (.seq (.ops [⟨(some 7), .mov (.tmp 0), none⟩,
    ⟨(some 8), .mov (.tmp 2), none⟩,
    ⟨(some 9), .nilCheck (.tmp 7), none⟩,
    ⟨(some 10), .fieldAddr 1 (.tmp 9), none⟩,
    ⟨none, .store 1 (.tmp 10) (.tmp 8), none⟩])
  (.seq (.ops [⟨(some 11), .mov (.tmp 0), none⟩,
    ⟨(some 12), .mov (.tmp 1), none⟩,
    ⟨(some 13), .mov (.tmp 12), none⟩,
    ⟨(some 14), .mov (.tmp 2), (some (13, true))⟩,
    ⟨(some 15), .len 1 (.tmp 14), (some (13, true))⟩,
    ⟨(some 16), .bin .gtr (.tmp 15) (.const (.int .i64 0)) (some (.int .i64)), (some (13, true))⟩,
    ⟨(some 17), .pick (.tmp 13) (.tmp 16) (.const (.bool false)), none⟩,
    ⟨(some 18), .nilCheck (.tmp 11), none⟩,
    ⟨(some 19), .fieldAddr 0 (.tmp 18), none⟩,
    ⟨none, .store 1 (.tmp 19) (.tmp 17), none⟩])
  (.seq (.ops [⟨(some 20), .mov (.tmp 0), none⟩,
    ⟨(some 6), .mov (.tmp 20), none⟩])
  .ret))))⟩
theorem F103_ok : compF Tryz.prog 103 = some F103 := by kernel_rfl

/-- colonnade/long.mul -/
def F105 : FC := ⟨75, [.tmp 4],
  (.seq (.ops [⟨(some 4), .mov (.const (.slice none 0 0)), none⟩])
  (.seq (.seq (.ops [⟨(some 9), .mov (.tmp 0), none⟩,
    ⟨(some 10), .len 1 (.tmp 9), none⟩,
    ⟨(some 11), .bin .eql (.tmp 10) (.const (.int .i64 0)) (some (.int .i64)), none⟩,
    ⟨(some 12), .mov (.tmp 11), none⟩,
    ⟨(some 13), .mov (.tmp 1), (some (12, false))⟩,
    ⟨(some 14), .len 1 (.tmp 13), (some (12, false))⟩,
    ⟨(some 15), .bin .eql (.tmp 14) (.const (.int .i64 0)) (some (.int .i64)), (some (12, false))⟩,
    ⟨(some 16), .pick (.tmp 12) (.const (.bool true)) (.tmp 15), none⟩])
  (.cond (.tmp 16)
  (.seq (.ops [⟨(some 4), .mov (.const (.slice none 0 0)), none⟩])
  .ret)
  .skip))
  (.seq (.ops [⟨(some 17), .mov (.tmp 0), none⟩,
    ⟨(some 18), .len 1 (.tmp 17), none⟩,
    ⟨(some 19), .mov (.tmp 1), none⟩,
    ⟨(some 20), .len 1 (.tmp 19), none⟩,
    ⟨(some 21), .bin .add (.tmp 18) (.tmp 20) (some (.int .i64)), none⟩,
    ⟨(some 22), .mkSlice 1 4 [(.int .u32 0)] (.tmp 21) (.tmp 21), none⟩,
    ⟨(some 5), .mov (.tmp 22), none⟩])
  (.seq (.seq (.ops [⟨(some 6), .mov (.const (.int .i64 0)), none⟩])
  (.block 0 (.loop (.seq (.seq (.ops [⟨(some 23), .mov (.tmp 6), none⟩,
    ⟨(some 24), .mov (.tmp 0), none⟩,
    ⟨(some 25), .len 1 (.tmp 24), none⟩,
    ⟨(some 26), .bin .lss (.tmp 23) (.tmp 25) (some (.int .i64)), none⟩])
  (.cond (.tmp 26)
  .skip
  (.exit 0)))
  (.seq (.block 1 (.seq (.ops [⟨(some 7), .mov (.const (.int .u64 0)), none⟩])
  (.seq (.seq (.ops [⟨(some 8), .mov (.const (.int .i64 0)), none⟩])
  (.block 2 (.loop (.seq (.seq (.ops [⟨(some 29), .mov (.tmp 8), none⟩,
    ⟨(some 30), .mov (.tmp 1), none⟩,
    ⟨(some 31), .len 1 (.tmp 30), none⟩,
    ⟨(some 32), .bin .lss (.tmp 29) (.tmp 31) (some (.int .i64)), none⟩])
  (.cond (.tmp 32)
  .skip
  (.exit 2)))
  (.seq (.block 3 (.seq (.ops [⟨(some 35), .mov (.tmp 7), none⟩,
    ⟨(some 36), .mov (.tmp 0), none⟩,
    ⟨(some 37), .mov (.tmp 6), none⟩,
    ⟨(some 38), .indexAddr 1 (.tmp 36) (.tmp 37), none⟩,
    ⟨(some 39), .load false 1 (.tmp 38), none⟩,
    ⟨(some 40), .conv .u64 (.tmp 39), none⟩,
    ⟨(some 41), .mov (.tmp 1), none⟩,
    ⟨(some 42), .mov (.tmp 8), none⟩,
    ⟨(some 43), .indexAddr 1 (.tmp 41) (.tmp 42), none⟩,
    ⟨(some 44), .load false 1 (.tmp 43), none⟩,
    ⟨(some 45), .conv .u64 (.tmp 44), none⟩,
    ⟨(some 46), .bin .mul (.tmp 40) (.tmp 45) (some (.int .u64)), none⟩,
    ⟨(some 47), .mov (.tmp 5), none⟩,
    ⟨(some 48), .mov (.tmp 6), none⟩,
    ⟨(some 49), .mov (.tmp 8), none⟩,
    ⟨(some 50), .bin .add (.tmp 48) (.tmp 49) (some (.int .i64)), none⟩,
    ⟨(some 51), .indexAddr 1 (.tmp 47) (.tmp 50), none⟩,
    ⟨(some 52), .load false 1 (.tmp 51), none⟩,
    ⟨(some 53), .conv .u64 (.tmp 52), none⟩,
    ⟨(some 54), .bin .add (.tmp 46) (.tmp 53) (some (.int .u64)), none⟩,
    ⟨(some 55), .bin .add (.tmp 35) (.tmp 54) (some (.int .u64)), none⟩,
    ⟨(some 7), .mov (.tmp 55), none⟩])
  (.seq (.ops [⟨(some 56), .mov (.tmp 5), none⟩,
    ⟨(some 57), .mov (.tmp 6), none⟩,
    ⟨(some 58), .mov (.tmp 8), none⟩,
    ⟨(some 59), .bin .add (.tmp 57) (.tmp 58) (some (.int .i64)), none⟩,
    ⟨(some 60), .mov (.tmp 7), none⟩,
    ⟨(some 61), .conv .u32 (.tmp 60), none⟩,
    ⟨(some 62), .indexAddr 1 (.tmp 56) (.tmp 59), none⟩,
    ⟨none, .store 1 (.tmp 62) (.tmp 61), none⟩])
  (.ops [⟨(some 63), .mov (.tmp 7), none⟩,
    ⟨(some 64), .bin .shr (.tmp 63) (.const (.int .u64 32)) (some (.int .u64)), none⟩,
    ⟨(some 7), .mov (.tmp 64), none⟩]))))
  (.ops [⟨(some 33), .mov (.tmp 8), none⟩,
    ⟨(some 34), .bin .add (.tmp 33) (.const (.int .i64 1)) (some (.int .i64)), none⟩,
    ⟨(some 8), .mov (.tmp 34), none⟩]))))))
  (.ops [⟨(some 65), .mov (.tmp 5), none⟩,
    ⟨(some 66), .mov (.tmp 6), none⟩,
    ⟨(some 67), .mov (.tmp 1), none⟩,
    ⟨(some 68), .len 1 (.tmp 67), none⟩,
    ⟨(some 69), .bin .add (.tmp 66) (.tmp 68) (some (.int .i64)), none⟩,
    ⟨(some 70), .mov (.tmp 7), none⟩,
    ⟨(some 71), .conv .u32 (.tmp 70), none⟩,
    ⟨(some 72), .indexAddr 1 (.tmp 65) (.tmp 69), none⟩,
    ⟨none, .store 1 (.tmp 72) (.tmp 71), none⟩]))))
  (.ops [⟨(some 27), .mov (.tmp 6), none⟩,
    ⟨(some 28), .bin .add (.tmp 27) (.const (.int .i64 1)) (some (.int .i64)), none⟩,
    ⟨(some 6), .mov (.tmp 28), none⟩]))))))
  (.seq (.ops [⟨(some 73), .mov (.tmp 5), none⟩,
    ⟨(some 74), .call 146 [(.tmp 73)], none⟩,
    ⟨(some 4), .mov (.tmp 74), none⟩])
  .ret)))))⟩
theorem F105_ok : compF Tryz.prog 105 = some F105 := by kernel_rfl

/-- colonnade/calc.bitsOf -/
def F107 : FC := ⟨7, [.tmp 2],
  (.seq (.ops [⟨(some 2), .mov (.const (.int .u64 0)), none⟩])
  (.seq (.ops [⟨(some 3), .mov (.tmp 0), none⟩,
    ⟨(some 4), .bin .sub (.tmp 3) (.const (.int .i64 3)) (some (.int .i64)), none⟩,
    ⟨(some 5), .bin .rem (.tmp 4) (.const (.int .i64 4)) (some (.int .i64)), none⟩,
    ⟨(some 6), .bin .shl (.const (.int .u64 8)) (.tmp 5) (some (.int .u64)), none⟩,
    ⟨(some 2), .mov (.tmp 6), none⟩])
  .ret))⟩
theorem F107_ok : compF Tryz.prog 107 = some F107 := by kernel_rfl

/-- (*colonnade/long.Int).Lsh -/
def F108 : FC := ⟨19, [.tmp 6],
  (.seq (.ops [⟨(some 6), .mov (.const (.pointer none)), none⟩])
  (.seq (.ops [⟨(some 7), .mov (.tmp 0), none⟩,
    ⟨(some 8), .mov (.tmp 1), none⟩,
    ⟨(some 9), .nilCheck (.tmp 8), none⟩,
    ⟨(some 10), .fieldAddr 0 (.tmp 9), none⟩,
    ⟨(some 11), .load false 1 (.tmp 10), none⟩,
    ⟨(some 12), .mov (.tmp 1), none⟩,
    ⟨(some 13), .nilCheck (.tmp 12), none⟩,
    ⟨(some 14), .fieldAddr 1 (.tmp 13), none⟩,
    ⟨(some 15), .load false 1 (.tmp 14), none⟩,
    ⟨(some 16), .mov (.tmp 2), none⟩,
    ⟨(some 17), .call 148 [(.tmp 15), (.tmp 16)], none⟩,
    ⟨none, .again 11 false 1 (.tmp 10), none⟩,
    ⟨(some 18), .call 103 [(.tmp 7), (.tmp 11), (.tmp 17)], none⟩,
    ⟨(some 6), .mov (.tmp 18), none⟩])
  .ret))⟩
theorem F108_ok : compF Tryz.prog 108 = some F108 := by kernel_rfl

/-- (*colonnade/long.Int).Rsh -/
def F109 : FC := ⟨31, [.tmp 6],
  (.seq (.ops [⟨(some 6), .mov (.const (.pointer none)), none⟩])
  (.seq (.seq (.ops [⟨(some 7), .mov (.tmp 1), none⟩,
    ⟨(some 8), .nilCheck (.tmp 7), none⟩,
    ⟨(some 9), .fieldAddr 0 (.tmp 8), none⟩,
    ⟨(some 10), .load false 1 (.tmp 9), none⟩])
  (.cond (.tmp 10)
  (.seq (.ops [⟨(some 11), .mov (.tmp 0), none⟩,
    ⟨(some 12), .mov (.tmp 1), none⟩,
    ⟨(some 13), .nilCheck (.tmp 12), none⟩,
    ⟨(some 14), .fieldAddr 1 (.tmp 13), none⟩,
    ⟨(some 15), .load false 1 (.tmp 14), none⟩,
    ⟨(some 16), .buildSlice 1 1 [(.int .u32 0)] [(0, 1, (.const (.int .u32 1)))], none⟩,
    ⟨(some 17), .call 145 [(.tmp 15), (.tmp 16)], none⟩,
    ⟨(some 18), .mov (.tmp 2), none⟩,
    ⟨(some 19), .call 149 [(.tmp 17), (.tmp 18)], none⟩,
    ⟨(some 20), .buildSlice 1 1 [(.int .u32 0)] [(0, 1, (.const (.int .u32 1)))], none⟩,
    ⟨(some 21), .call 143 [(.tmp 19), (.tmp 20)], none⟩,
    ⟨(some 22), .call 103 [(.tmp 11), (.const (.bool true)), (.tmp 21)], none⟩,
    ⟨(some 6), .mov (.tmp 22), none⟩])
  .ret)
  .skip))
  (.seq (.ops [⟨(some 23), .mov (.tmp 0), none⟩,
    ⟨(some 24), .mov (.tmp 1), none⟩,
    ⟨(some 25), .nilCheck (.tmp 24), none⟩,
    ⟨(some 26), .fieldAddr 1 (.tmp 25), none⟩,
    ⟨(some 27), .load false 1 (.tmp 26), none⟩,
    ⟨(some 28), .mov (.tmp 2), none⟩,
    ⟨(some 29), .call 149 [(.tmp 27), (.tmp 28)], none⟩,
    ⟨(some 30), .call 103 [(.tmp 23), (.const (.bool false)), (.tmp 29)], none⟩,
    ⟨(some 6), .mov (.tmp 30), none⟩])
  .ret)))⟩
theorem F109_ok : compF Tryz.prog 109 = some F109 := by kernel_rfl

/-- (*colonnade/long.Int).Neg -/
def F110 : FC := ⟨17, [.tmp 4],
  (.seq (.ops [⟨(some 4), .mov (.const (.pointer none)), none⟩])
  (.seq (.ops [⟨(some 5), .mov (.tmp 0), none⟩,
    ⟨(some 6), .mov (.tmp 1), none⟩,
    ⟨(some 7), .nilCheck (.tmp 6), none⟩,
    ⟨(some 8), .fieldAddr 0 (.tmp 7), none⟩,
    ⟨(some 9), .load false 1 (.tmp 8), none⟩,
    ⟨(some 10), .un .not (.tmp 9), none⟩,
    ⟨(some 11), .mov (.tmp 1), none⟩,
    ⟨(some 12), .nilCheck (.tmp 11), none⟩,
    ⟨(some 13), .fieldAddr 1 (.tmp 12), none⟩,
    ⟨(some 14), .load false 1 (.tmp 13), none⟩,
    ⟨(some 15), .call 150 [(.tmp 14)], none⟩,
    ⟨none, .again 9 false 1 (.tmp 8), none⟩,
    ⟨(some 16), .call 103 [(.tmp 5), (.tmp 10), (.tmp 15)], none⟩,
    ⟨(some 4), .mov (.tmp 16), none⟩])
  .ret))⟩
theorem F110_ok : compF Tryz.prog 110 = some F110 := by kernel_rfl

/-- (*colonnade/long.Int).Cmp -/
def F111 : FC := ⟨35, [.tmp 4],
  (.seq (.ops [⟨(some 4), .mov (.const (.int .i64 0)), none⟩])
  (.seq (.seq (.ops [⟨(some 6), .mov (.tmp 0), none⟩,
    ⟨(some 7), .nilCheck (.tmp 6), none⟩,
    ⟨(some 8), .fieldAddr 0 (.tmp 7), none⟩,
    ⟨(some 9), .load false 1 (.tmp 8), none⟩,
    ⟨(some 10), .mov (.tmp 1), none⟩,
    ⟨(some 11), .nilCheck (.tmp 10), none⟩,
    ⟨(some 12), .fieldAddr 0 (.tmp 11), none⟩,
    ⟨(some 13), .load false 1 (.tmp 12), none⟩,
    ⟨(some 14), .bin .neq (.tmp 9) (.tmp 13) (some .bool), none⟩])
  (.cond (.tmp 14)
  (.seq (.seq (.ops [⟨(some 15), .mov (.tmp 0), none⟩,
    ⟨(some 16), .nilCheck (.tmp 15), none⟩,
    ⟨(some 17), .fieldAddr 0 (.tmp 16), none⟩,
    ⟨(some 18), .load false 1 (.tmp 17), none⟩])
  (.cond (.tmp 18)
  (.seq (.ops [⟨(some 4), .mov (.const (.int .i64 (-1))), none⟩])
  .ret)
  .skip))
  (.seq (.ops [⟨(some 4), .mov (.const (.int .i64 1)), none⟩])
  .ret))
  .skip))
  (.seq (.ops [⟨(some 19), .mov (.tmp 0), none⟩,
    ⟨(some 20), .nilCheck (.tmp 19), none⟩,
    ⟨(some 21), .fieldAddr 1 (.tmp 20), none⟩,
    ⟨(some 22), .load false 1 (.tmp 21), none⟩,
    ⟨(some 23), .mov (.tmp 1), none⟩,
    ⟨(some 24), .nilCheck (.tmp 23), none⟩,
    ⟨(some 25), .fieldAddr 1 (.tmp 24), none⟩,
    ⟨(some 26), .load false 1 (.tmp 25), none⟩,
    ⟨(some 27), .call 144 [(.tmp 22), (.tmp 26)], none⟩,
    ⟨(some 5), .mov (.tmp 27), none⟩])
  (.seq (.seq (.ops [⟨(some 28), .mov (.tmp 0), none⟩,
    ⟨(some 29), .nilCheck (.tmp 28), none⟩,
    ⟨(some 30), .fieldAddr 0 (.tmp 29), none⟩,
    ⟨(some 31), .load false 1 (.tmp 30), none⟩])
  (.cond (.tmp 31)
  (.seq (.ops [⟨(some 32), .mov (.tmp 5), none⟩,
    ⟨(some 33), .un .neg (.tmp 32), none⟩,
    ⟨(some 4), .mov (.tmp 33), none⟩])
  .ret)
  .skip))
  (.seq (.ops [⟨(some 34), .mov (.tmp 5), none⟩,
    ⟨(some 4), .mov (.tmp 34), none⟩])
  .ret)))))⟩
theorem F111_ok : compF Tryz.prog 111 = some F111 := by kernel_rfl

/-- (*colonnade/long.Int).Uint64 -/
def F112 : FC := ⟨34, [.tmp 2],
  (.seq (.ops [⟨(some 2), .mov (.const (.int .u64 0)), none⟩])
  (.seq (.ops [⟨(some 3), .mov (.const (.int .u64 0)), none⟩])
  (.seq (.seq (.ops [⟨(some 4), .mov (.tmp 0), none⟩,
    ⟨(some 5), .nilCheck (.tmp 4), none⟩,
    ⟨(some 6), .fieldAddr 1 (.tmp 5), none⟩,
    ⟨(some 7), .load false 1 (.tmp 6), none⟩,
    ⟨(some 8), .len 1 (.tmp 7), none⟩,
    ⟨(some 9), .bin .gtr (.tmp 8) (.const (.int .i64 0)) (some (.int .i64)), none⟩])
  (.cond (.tmp 9)
  (.ops [⟨(some 10), .mov (.tmp 0), none⟩,
    ⟨(some 11), .nilCheck (.tmp 10), none⟩,
    ⟨(some 12), .fieldAddr 1 (.tmp 11), none⟩,
    ⟨(some 13), .load false 1 (.tmp 12), none⟩,
    ⟨(some 14), .indexAddr 1 (.tmp 13) (.const (.int .i64 0)), none⟩,
    ⟨(some 15), .load false 1 (.tmp 14), none⟩,
    ⟨(some 16), .conv .u64 (.tmp 15), none⟩,
    ⟨(some 3), .mov (.tmp 16), none⟩])
  .skip))
  (.seq (.seq (.ops [⟨(some 17), .mov (.tmp 0), none⟩,
    ⟨(some 18), .nilCheck (.tmp 17), none⟩,
    ⟨(some 19), .fieldAddr 1 (.tmp 18), none⟩,
    ⟨(some 20), .load false 1 (.tmp 19), none⟩,
    ⟨(some 21), .len 1 (.tmp 20), none⟩,
    ⟨(some 22), .bin .gtr (.tmp 21) (.const (.int .i64 1)) (some (.int .i64)), none⟩])
  (.cond (.tmp 22)
  (.ops [⟨(some 23), .mov (.tmp 3), none⟩,
    ⟨(some 24), .mov (.tmp 0), none⟩,
    ⟨(some 25), .nilCheck (.tmp 24), none⟩,
    ⟨(some 26), .fieldAddr 1 (.tmp 25), none⟩,
    ⟨(some 27), .load false 1 (.tmp 26), none⟩,
    ⟨(some 28), .indexAddr 1 (.tmp 27) (.const (.int .i64 1)), none⟩,
    ⟨(some 29), .load false 1 (.tmp 28), none⟩,
    ⟨(some 30), .conv .u64 (.tmp 29), none⟩,
    ⟨(some 31), .bin .shl (.tmp 30) (.const (.int .u64 32)) (some (.int .u64)), none⟩,
    ⟨(some 32), .bin .or (.tmp 23) (.tmp 31) (some (.int .u64)), none⟩,
    ⟨(some 3), .mov (.tmp 32), none⟩])
  .skip))
  (.seq (.ops [⟨(some 33), .mov (.tmp 3), none⟩,
    ⟨(some 2), .mov (.tmp 33), none⟩])
  .ret)))))⟩
theorem F112_ok : compF Tryz.prog 112 = some F112 := by kernel_rfl

/-- (*colonnade/long.Int).Int64 -/
def F113 : FC := ⟨14, [.tmp 2],
  (.seq (.ops [⟨(some 2), .mov (.const (.int .i64 0)), none⟩])
  (.seq (.ops [⟨(some 4), .mov (.tmp 0), none⟩,
    ⟨(some 5), .call 112 [(.tmp 4)], none⟩,
    ⟨(some 6), .conv .i64 (.tmp 5), none⟩,
    ⟨(some 3), .mov (.tmp 6), none⟩])
  (.seq (.seq (.ops [⟨(some 7), .mov (.tmp 0), none⟩,
    ⟨(some 8), .nilCheck (.tmp 7), none⟩,
    ⟨(some 9), .fieldAddr 0 (.tmp 8), none⟩,
    ⟨(some 10), .load false 1 (.tmp 9), none⟩])
  (.cond (.tmp 10)
  (.ops [⟨(some 11), .mov (.tmp 3), none⟩,
    ⟨(some 12), .un .neg (.tmp 11), none⟩,
    ⟨(some 3), .mov (.tmp 12), none⟩])
  .skip))
  (.seq (.ops [⟨(some 13), .mov (.tmp 3), none⟩,
    ⟨(some 2), .mov (.tmp 13), none⟩])
  .ret))))⟩
theorem F113_ok : compF Tryz.prog 113 = some F113 := by kernel_rfl

/-- colonnade/kind.holder -/
def F114 : FC := ⟨29, [.cell 2 true 7],
  (.seq (.ops [⟨(some 1), .box (.tmp 0), none⟩,
    ⟨(some 2), .alloc [(.string ⟨#[]⟩), (.bool false), (.int .i64 0), (.int .i64 0), (.int .i64 0), (.int .i64 0), (.slice none 0 0)], none⟩])
  (.seq (.ops [⟨(some 4), .load true 5 (.tmp 1), none⟩,
    ⟨(some 5), .build [(.string ⟨#[]⟩), (.bool false), (.int .i64 0), (.int .i64 0), (.int .i64 0), (.int .i64 0), (.slice none 0 0)] [(0, 1, (.const (.string ⟨#[97]⟩))), (2, 5, (.tmp 4))], none⟩,
    ⟨(some 3), .alloc [(.string ⟨#[]⟩), (.bool false), (.int .i64 0), (.int .i64 0), (.int .i64 0), (.int .i64 0), (.slice none 0 0)], none⟩,
    ⟨none, .store 7 (.tmp 3) (.tmp 5), none⟩])
  (.seq (.ops [⟨(some 6), .fieldAddr 0 (.tmp 1), none⟩,
    ⟨(some 7), .load false 1 (.tmp 6), none⟩,
    ⟨(some 8), .bin .eql (.tmp 7) (.const (.int .i64 1)) (some (.int .i64)), none⟩,
    ⟨(some 9), .mov (.tmp 8), none⟩,
    ⟨(some 10), .fieldAddr 0 (.tmp 1), (some (9, false))⟩,
    ⟨(some 11), .load false 1 (.tmp 10), (some (9, false))⟩,
    ⟨(some 12), .bin .eql (.tmp 11) (.const (.int .i64 20)) (some (.int .i64)), (some (9, false))⟩,
    ⟨(some 13), .mov (.tmp 12), (some (9, false))⟩,
    ⟨(some 14), .fieldAddr 4 (.tmp 1), (some (13, true))⟩,
    ⟨(some 15), .load false 1 (.tmp 14), (some (13, true))⟩,
    ⟨(some 16), .len 1 (.tmp 15), (some (13, true))⟩,
    ⟨(some 17), .bin .gtr (.tmp 16) (.const (.int .i64 0)) (some (.int .i64)), (some (13, true))⟩,
    ⟨(some 18), .pick (.tmp 13) (.tmp 17) (.const (.bool false)), (some (9, false))⟩,
    ⟨(some 19), .mov (.tmp 18), (some (9, false))⟩,
    ⟨(some 20), .fieldAddr 4 (.tmp 1), (some (19, true))⟩,
    ⟨(some 21), .load false 1 (.tmp 20), (some (19, true))⟩,
    ⟨(some 22), .indexAddr 7 (.tmp 21) (.const (.int .i64 0)), (some (19, true))⟩,
    ⟨(some 23), .fieldAddr 1 (.tmp 22), (some (19, true))⟩,
    ⟨(some 24), .load false 1 (.tmp 23), (some (19, true))⟩,
    ⟨(some 25), .pick (.tmp 19) (.tmp 24) (.const (.bool false)), (some (9, false))⟩,
    ⟨(some 26), .pick (.tmp 9) (.const (.bool true)) (.tmp 25), none⟩,
    ⟨(some 27), .fieldAddr 1 (.tmp 3), none⟩,
    ⟨none, .store 1 (.tmp 27) (.tmp 26), none⟩])
  (.seq (.ops [⟨(some 28), .load true 7 (.tmp 3), none⟩,
    ⟨none, .store 7 (.tmp 2) (.tmp 28), none⟩])
  .ret))))⟩
theorem F114_ok : compF Tryz.prog 114 = some F114 := by kernel_rfl

/-- (*colonnade/value.fitter).fits -/
def F117 : FC := ⟨219, [.tmp 6],
  (.seq (.ops [⟨(some 4), .box (.tmp 1), none⟩,
    ⟨(some 5), .box (.tmp 2), none⟩,
    ⟨(some 6), .mov (.const (.bool false)), none⟩])
  (.seq (.ops [⟨(some 8), .mov (.tmp 0), none⟩,
    ⟨(some 9), .nilCheck (.tmp 8), none⟩,
    ⟨(some 10), .fieldAddr 0 (.tmp 9), none⟩,
    ⟨(some 11), .load false 1 (.tmp 10), none⟩,
    ⟨(some 12), .bin .sub (.tmp 11) (.const (.int .i64 16)) (some (.int .i64)), none⟩,
    ⟨(some 13), .nilCheck (.tmp 8), none⟩,
    ⟨(some 14), .fieldAddr 0 (.tmp 13), none⟩,
    ⟨none, .store 1 (.tmp 14) (.tmp 12), none⟩])
  (.seq (.seq (.ops [⟨(some 15), .mov (.tmp 0), none⟩,
    ⟨(some 16), .nilCheck (.tmp 15), none⟩,
    ⟨(some 17), .fieldAddr 0 (.tmp 16), none⟩,
    ⟨(some 18), .load false 1 (.tmp 17), none⟩,
    ⟨(some 19), .bin .lss (.tmp 18) (.const (.int .i64 0)) (some (.int .i64)), none⟩,
    ⟨(some 20), .mov (.tmp 19), none⟩,
    ⟨(some 21), .fieldAddr 2 (.tmp 5), (some (20, false))⟩,
    ⟨(some 22), .load false 1 (.tmp 21), (some (20, false))⟩,
    ⟨(some 23), .len 0 (.tmp 22), (some (20, false))⟩,
    ⟨(some 24), .mov (.tmp 0), (some (20, false))⟩,
    ⟨(some 25), .nilCheck (.tmp 24), (some (20, false))⟩,
    ⟨(some 26), .fieldAddr 0 (.tmp 25), (some (20, false))⟩,
    ⟨(some 27), .load false 1 (.tmp 26), (some (20, false))⟩,
    ⟨(some 28), .bin .gtr (.tmp 23) (.tmp 27) (some (.int .i64)), (some (20, false))⟩,
    ⟨(some 29), .pick (.tmp 20) (.const (.bool true)) (.tmp 28), none⟩,
    ⟨(some 30), .mov (.tmp 29), none⟩,
    ⟨(some 31), .fieldAddr 3 (.tmp 5), (some (30, false))⟩,
    ⟨(some 32), .load false 1 (.tmp 31), (some (30, false))⟩,
    ⟨(some 33), .len 1 (.tmp 32), (some (30, false))⟩,
    ⟨(some 34), .bin .gtr (.tmp 33) (.const (.int .i64 4096)) (some (.int .i64)), (some (30, false))⟩,
    ⟨(some 35), .pick (.tmp 30) (.const (.bool true)) (.tmp 34), none⟩])
  (.cond (.tmp 35)
  (.seq (.ops [⟨(some 6), .mov (.const (.bool false)), none⟩])
  .ret)
  .skip))
  (.seq (.ops [⟨(some 36), .mov (.tmp 0), none⟩,
    ⟨(some 37), .nilCheck (.tmp 36), none⟩,
    ⟨(some 38), .fieldAddr 0 (.tmp 37), none⟩,
    ⟨(some 39), .load false 1 (.tmp 38), none⟩,
    ⟨(some 40), .fieldAddr 2 (.tmp 5), none⟩,
    ⟨(some 41), .load false 1 (.tmp 40), none⟩,
    ⟨(some 42), .len 0 (.tmp 41), none⟩,
    ⟨(some 43), .bin .sub (.tmp 39) (.tmp 42) (some (.int .i64)), none⟩,
    ⟨(some 44), .nilCheck (.tmp 36), none⟩,
    ⟨(some 45), .fieldAddr 0 (.tmp 44), none⟩,
    ⟨none, .store 1 (.tmp 45) (.tmp 43), none⟩])
  (.seq (.seq (.ops [⟨(some 46), .fieldAddr 0 (.tmp 5), none⟩,
    ⟨(some 47), .load false 1 (.tmp 46), none⟩])
  (.cond (.tmp 47)
  (.seq (.ops [⟨(some 48), .fieldAddr 1 (.tmp 5), none⟩,
    ⟨(some 49), .load false 1 (.tmp 48), none⟩,
    ⟨(some 50), .bin .eql (.tmp 49) (.const (.int .i64 0)) (some (.int .i64)), none⟩,
    ⟨(some 51), .mov (.tmp 50), none⟩,
    ⟨(some 52), .fieldAddr 2 (.tmp 5), (some (51, true))⟩,
    ⟨(some 53), .load false 1 (.tmp 52), (some (51, true))⟩,
    ⟨(some 54), .bin .eql (.tmp 53) (.const (.string ⟨#[]⟩)) (some .string), (some (51, true))⟩,
    ⟨(some 55), .pick (.tmp 51) (.tmp 54) (.const (.bool false)), none⟩,
    ⟨(some 56), .mov (.tmp 55), none⟩,
    ⟨(some 57), .fieldAddr 3 (.tmp 5), (some (56, true))⟩,
    ⟨(some 58), .load false 1 (.tmp 57), (some (56, true))⟩,
    ⟨(some 59), .len 1 (.tmp 58), (some (56, true))⟩,
    ⟨(some 60), .bin .eql (.tmp 59) (.const (.int .i64 0)) (some (.int .i64)), (some (56, true))⟩,
    ⟨(some 61), .pick (.tmp 56) (.tmp 60) (.const (.bool false)), none⟩,
    ⟨(some 62), .mov (.tmp 61), none⟩,
    ⟨(some 63), .load true 7 (.tmp 4), (some (62, true))⟩,
    ⟨(some 64), .call 151 [(.tmp 63)], (some (62, true))⟩,
    ⟨(some 65), .pick (.tmp 62) (.tmp 64) (.const (.bool false)), none⟩,
    ⟨(some 6), .mov (.tmp 65), none⟩])
  .ret)
  .skip))
  (.seq (.ops [⟨(some 66), .fieldAddr 2 (.tmp 4), none⟩,
    ⟨(some 67), .load true 5 (.tmp 66), none⟩,
    ⟨(some 7), .alloc [(.int .i64 0), (.int .i64 0), (.int .i64 0), (.int .i64 0), (.slice none 0 0)], none⟩,
    ⟨none, .store 5 (.tmp 7) (.tmp 67), none⟩])
  (.seq (.seq (.ops [⟨(some 68), .fieldAddr 0 (.tmp 7), none⟩,
    ⟨(some 69), .load false 1 (.tmp 68), none⟩])
  (.block 0 (.seq (.seq (.ops [⟨(some 71), .bin .eql (.tmp 69) (.const (.int .i64 19)) (some (.int .i64)), none⟩,
    ⟨(some 70), .mov (.tmp 71), none⟩])
  (.cond (.tmp 70)
  .skip
  (.ops [⟨(some 72), .bin .eql (.tmp 69) (.const (.int .i64 20)) (some (.int .i64)), none⟩,
    ⟨(some 70), .mov (.tmp 72), none⟩])))
  (.cond (.tmp 70)
  (.seq (.ops [⟨(some 73), .mov (.tmp 0), none⟩,
    ⟨(some 74), .nilCheck (.tmp 73), none⟩,
    ⟨(some 75), .fieldAddr 0 (.tmp 74), none⟩,
    ⟨(some 76), .load false 1 (.tmp 75), none⟩,
    ⟨(some 77), .fieldAddr 2 (.tmp 5), none⟩,
    ⟨(some 78), .load false 1 (.tmp 77), none⟩,
    ⟨(some 79), .len 0 (.tmp 78), none⟩,
    ⟨(some 80), .bin .add (.const (.int .i64 16)) (.tmp 79) (some (.int .i64)), none⟩,
    ⟨(some 81), .bin .add (.tmp 76) (.tmp 80) (some (.int .i64)), none⟩,
    ⟨(some 82), .nilCheck (.tmp 73), none⟩,
    ⟨(some 83), .fieldAddr 0 (.tmp 82), none⟩,
    ⟨none, .store 1 (.tmp 83) (.tmp 81), none⟩])
  (.seq (.ops [⟨(some 84), .mov (.tmp 0), none⟩,
    ⟨(some 85), .fieldAddr 4 (.tmp 7), none⟩,
    ⟨(some 86), .load false 1 (.tmp 85), none⟩,
    ⟨(some 87), .indexAddr 7 (.tmp 86) (.const (.int .i64 0)), none⟩,
    ⟨(some 88), .load true 7 (.tmp 87), none⟩,
    ⟨(some 89), .load true 4 (.tmp 5), none⟩,
    ⟨(some 90), .call 117 [(.tmp 84), (.tmp 88), (.tmp 89)], none⟩,
    ⟨(some 6), .mov (.tmp 90), none⟩])
  .ret))
  (.seq (.ops [⟨(some 92), .bin .eql (.tmp 69) (.const (.int .i64 18)) (some (.int .i64)), none⟩,
    ⟨(some 91), .mov (.tmp 92), none⟩])
  (.cond (.tmp 91)
  (.seq (.ops [⟨(some 93), .fieldAddr 2 (.tmp 5), none⟩,
    ⟨(some 94), .load false 1 (.tmp 93), none⟩,
    ⟨(some 95), .bin .eql (.tmp 94) (.const (.string ⟨#[]⟩)) (some .string), none⟩,
    ⟨(some 96), .mov (.tmp 95), none⟩,
    ⟨(some 97), .fieldAddr 1 (.tmp 5), (some (96, true))⟩,
    ⟨(some 98), .load false 1 (.tmp 97), (some (96, true))⟩,
    ⟨(some 99), .bin .geq (.tmp 98) (.const (.int .i64 0)) (some (.int .i64)), (some (96, true))⟩,
    ⟨(some 100), .pick (.tmp 96) (.tmp 99) (.const (.bool false)), none⟩,
    ⟨(some 101), .mov (.tmp 100), none⟩,
    ⟨(some 102), .fieldAddr 1 (.tmp 5), (some (101, true))⟩,
    ⟨(some 103), .load false 1 (.tmp 102), (some (101, true))⟩,
    ⟨(some 104), .fieldAddr 4 (.tmp 7), (some (101, true))⟩,
    ⟨(some 105), .load false 1 (.tmp 104), (some (101, true))⟩,
    ⟨(some 106), .len 1 (.tmp 105), (some (101, true))⟩,
    ⟨(some 107), .bin .lss (.tmp 103) (.tmp 106) (some (.int .i64)), (some (101, true))⟩,
    ⟨(some 108), .pick (.tmp 101) (.tmp 107) (.const (.bool false)), none⟩,
    ⟨(some 109), .mov (.tmp 108), none⟩,
    ⟨(some 110), .fieldAddr 3 (.tmp 5), (some (109, true))⟩,
    ⟨(some 111), .load false 1 (.tmp 110), (some (109, true))⟩,
    ⟨(some 112), .len 1 (.tmp 111), (some (109, true))⟩,
    ⟨(some 113), .bin .eql (.tmp 112) (.const (.int .i64 1)) (some (.int .i64)), (some (109, true))⟩,
    ⟨(some 114), .pick (.tmp 109) (.tmp 113) (.const (.bool false)), none⟩,
    ⟨(some 115), .mov (.tmp 114), none⟩,
    ⟨(some 116), .mov (.tmp 0), (some (115, true))⟩,
    ⟨(some 117), .fieldAddr 4 (.tmp 7), (some (115, true))⟩,
    ⟨(some 118), .load false 1 (.tmp 117), (some (115, true))⟩,
    ⟨(some 119), .fieldAddr 1 (.tmp 5), (some (115, true))⟩,
    ⟨(some 120), .load false 1 (.tmp 119), (some (115, true))⟩,
    ⟨(some 121), .indexAddr 7 (.tmp 118) (.tmp 120), (some (115, true))⟩,
    ⟨(some 122), .load true 7 (.tmp 121), (some (115, true))⟩,
    ⟨(some 123), .fieldAddr 3 (.tmp 5), (some (115, true))⟩,
    ⟨(some 124), .load false 1 (.tmp 123), (some (115, true))⟩,
    ⟨(some 125), .indexAddr 4 (.tmp 124) (.const (.int .i64 0)), (some (115, true))⟩,
    ⟨(some 126), .load true 4 (.tmp 125), (some (115, true))⟩,
    ⟨(some 127), .call 117 [(.tmp 116), (.tmp 122), (.tmp 126)], (some (115, true))⟩,
    ⟨(some 128), .pick (.tmp 115) (.tmp 127) (.const (.bool false)), none⟩,
    ⟨(some 6), .mov (.tmp 128), none⟩])
  .ret)
  (.seq (.seq (.ops [⟨(some 130), .bin .eql (.tmp 69) (.const (.int .i64 15)) (some (.int .i64)), none⟩,
    ⟨(some 129), .mov (.tmp 130), none⟩])
  (.cond (.tmp 129)
  .skip
  (.seq (.ops [⟨(some 131), .bin .eql (.tmp 69) (.const (.int .i64 16)) (some (.int .i64)), none⟩,
    ⟨(some 129), .mov (.tmp 131), none⟩])
  (.cond (.tmp 129)
  .skip
  (.ops [⟨(some 132), .bin .eql (.tmp 69) (.const (.int .i64 17)) (some (.int .i64)), none⟩,
    ⟨(some 129), .mov (.tmp 132), none⟩])))))
  (.cond (.tmp 129)
  (.seq (.ops [⟨(some 133), .fieldAddr 1 (.tmp 5), none⟩,
    ⟨(some 134), .load false 1 (.tmp 133), none⟩,
    ⟨(some 135), .bin .eql (.tmp 134) (.const (.int .i64 0)) (some (.int .i64)), none⟩,
    ⟨(some 136), .mov (.tmp 135), none⟩,
    ⟨(some 137), .fieldAddr 2 (.tmp 5), (some (136, true))⟩,
    ⟨(some 138), .load false 1 (.tmp 137), (some (136, true))⟩,
    ⟨(some 139), .bin .eql (.tmp 138) (.const (.string ⟨#[]⟩)) (some .string), (some (136, true))⟩,
    ⟨(some 140), .pick (.tmp 136) (.tmp 139) (.const (.bool false)), none⟩,
    ⟨(some 141), .mov (.tmp 140), none⟩,
    ⟨(some 142), .mov (.tmp 0), (some (141, true))⟩,
    ⟨(some 143), .load true 5 (.tmp 7), (some (141, true))⟩,
    ⟨(some 144), .fieldAddr 3 (.tmp 5), (some (141, true))⟩,
    ⟨(some 145), .load false 1 (.tmp 144), (some (141, true))⟩,
    ⟨(some 146), .call 152 [(.tmp 142), (.tmp 143), (.tmp 145)], (some (141, true))⟩,
    ⟨(some 147), .pick (.tmp 141) (.tmp 146) (.const (.bool false)), none⟩,
    ⟨(some 6), .mov (.tmp 147), none⟩])
  .ret)
  (.seq (.seq (.ops [⟨(some 149), .bin .eql (.tmp 69) (.const (.int .i64 12)) (some (.int .i64)), none⟩,
    ⟨(some 148), .mov (.tmp 149), none⟩])
  (.cond (.tmp 148)
  .skip
  (.seq (.ops [⟨(some 150), .bin .eql (.tmp 69) (.const (.int .i64 13)) (some (.int .i64)), none⟩,
    ⟨(some 148), .mov (.tmp 150), none⟩])
  (.cond (.tmp 148)
  .skip
  (.ops [⟨(some 151), .bin .eql (.tmp 69) (.const (.int .i64 14)) (some (.int .i64)), none⟩,
    ⟨(some 148), .mov (.tmp 151), none⟩])))))
  (.cond (.tmp 148)
  (.seq (.ops [⟨(some 152), .fieldAddr 1 (.tmp 5), none⟩,
    ⟨(some 153), .load false 1 (.tmp 152), none⟩,
    ⟨(some 154), .bin .eql (.tmp 153) (.const (.int .i64 0)) (some (.int .i64)), none⟩,
    ⟨(some 155), .mov (.tmp 154), none⟩,
    ⟨(some 156), .fieldAddr 3 (.tmp 5), (some (155, true))⟩,
    ⟨(some 157), .load false 1 (.tmp 156), (some (155, true))⟩,
    ⟨(some 158), .len 1 (.tmp 157), (some (155, true))⟩,
    ⟨(some 159), .bin .eql (.tmp 158) (.const (.int .i64 0)) (some (.int .i64)), (some (155, true))⟩,
    ⟨(some 160), .pick (.tmp 155) (.tmp 159) (.const (.bool false)), none⟩,
    ⟨(some 161), .mov (.tmp 160), none⟩,
    ⟨(some 162), .fieldAddr 0 (.tmp 7), (some (161, true))⟩,
    ⟨(some 163), .load false 1 (.tmp 162), (some (161, true))⟩,
    ⟨(some 164), .bin .neq (.tmp 163) (.const (.int .i64 12)) (some (.int .i64)), (some (161, true))⟩,
    ⟨(some 165), .mov (.tmp 164), (some (161, true))⟩,
    ⟨(some 166), .fieldAddr 2 (.tmp 5), (some (165, false))⟩,
    ⟨(some 167), .load false 1 (.tmp 166), (some (165, false))⟩,
    ⟨(some 168), .call 153 [(.tmp 167)], (some (165, false))⟩,
    ⟨(some 169), .pick (.tmp 165) (.const (.bool true)) (.tmp 168), (some (161, true))⟩,
    ⟨(some 170), .pick (.tmp 161) (.tmp 169) (.const (.bool false)), none⟩,
    ⟨(some 171), .mov (.tmp 170), none⟩,
    ⟨(some 172), .fieldAddr 0 (.tmp 7), (some (171, true))⟩,
    ⟨(some 173), .load false 1 (.tmp 172), (some (171, true))⟩,
    ⟨(some 174), .bin .neq (.tmp 173) (.const (.int .i64 14)) (some (.int .i64)), (some (171, true))⟩,
    ⟨(some 175), .mov (.tmp 174), (some (171, true))⟩,
    ⟨(some 176), .fieldAddr 2 (.tmp 5), (some (175, false))⟩,
    ⟨(some 177), .load false 1 (.tmp 176), (some (175, false))⟩,
    ⟨(some 178), .len 0 (.tmp 177), (some (175, false))⟩,
    ⟨(some 179), .fieldAddr 1 (.tmp 7), (some (175, false))⟩,
    ⟨(some 180), .load false 1 (.tmp 179), (some (175, false))⟩,
    ⟨(some 181), .bin .eql (.tmp 178) (.tmp 180) (some (.int .i64)), (some (175, false))⟩,
    ⟨(some 182), .pick (.tmp 175) (.const (.bool true)) (.tmp 181), (some (171, true))⟩,
    ⟨(some 183), .pick (.tmp 171) (.tmp 182) (.const (.bool false)), none⟩,
    ⟨(some 6), .mov (.tmp 183), none⟩])
  .ret)
  .skip))))))))))
  (.seq (.seq (.ops [⟨(some 184), .fieldAddr 2 (.tmp 5), none⟩,
    ⟨(some 185), .load false 1 (.tmp 184), none⟩,
    ⟨(some 186), .bin .neq (.tmp 185) (.const (.string ⟨#[]⟩)) (some .string), none⟩,
    ⟨(some 187), .mov (.tmp 186), none⟩,
    ⟨(some 188), .fieldAddr 3 (.tmp 5), (some (187, false))⟩,
    ⟨(some 189), .load false 1 (.tmp 188), (some (187, false))⟩,
    ⟨(some 190), .len 1 (.tmp 189), (some (187, false))⟩,
    ⟨(some 191), .bin .gtr (.tmp 190) (.const (.int .i64 0)) (some (.int .i64)), (some (187, false))⟩,
    ⟨(some 192), .pick (.tmp 187) (.const (.bool true)) (.tmp 191), none⟩])
  (.cond (.tmp 192)
  (.seq (.ops [⟨(some 6), .mov (.const (.bool false)), none⟩])
  .ret)
  .skip))
  (.seq (.block 1 (.seq (.ops [⟨(some 194), .fieldAddr 0 (.tmp 7), none⟩,
    ⟨(some 195), .load false 1 (.tmp 194), none⟩,
    ⟨(some 196), .bin .eql (.tmp 195) (.const (.int .i64 2)) (some (.int .i64)), none⟩,
    ⟨(some 193), .mov (.tmp 196), none⟩])
  (.cond (.tmp 193)
  (.seq (.ops [⟨(some 197), .fieldAddr 1 (.tmp 5), none⟩,
    ⟨(some 198), .load false 1 (.tmp 197), none⟩,
    ⟨(some 199), .bin .eql (.tmp 198) (.const (.int .i64 0)) (some (.int .i64)), none⟩,
    ⟨(some 200), .mov (.tmp 199), none⟩,
    ⟨(some 201), .fieldAddr 1 (.tmp 5), (some (200, false))⟩,
    ⟨(some 202), .load false 1 (.tmp 201), (some (200, false))⟩,
    ⟨(some 203), .bin .eql (.tmp 202) (.const (.int .i64 1)) (some (.int .i64)), (some (200, false))⟩,
    ⟨(some 204), .pick (.tmp 200) (.const (.bool true)) (.tmp 203), none⟩,
    ⟨(some 6), .mov (.tmp 204), none⟩])
  .ret)
  (.seq (.ops [⟨(some 206), .fieldAddr 0 (.tmp 7), none⟩,
    ⟨(some 207), .load false 1 (.tmp 206), none⟩,
    ⟨(some 208), .bin .eql (.tmp 207) (.const (.int .i64 11)) (some (.int .i64)), none⟩,
    ⟨(some 205), .mov (.tmp 208), none⟩])
  (.cond (.tmp 205)
  (.seq (.ops [⟨(some 6), .mov (.const (.bool true)), none⟩])
  .ret)
  .skip)))))
  (.seq (.ops [⟨(some 209), .fieldAddr 0 (.tmp 7), none⟩,
    ⟨(some 210), .load false 1 (.tmp 209), none⟩,
    ⟨(some 211), .call 154 [(.tmp 210)], none⟩,
    ⟨(some 212), .mov (.tmp 211), none⟩,
    ⟨(some 213), .fieldAddr 0 (.tmp 7), (some (212, true))⟩,
    ⟨(some 214), .load false 1 (.tmp 213), (some (212, true))⟩,
    ⟨(some 215), .fieldAddr 1 (.tmp 5), (some (212, true))⟩,
    ⟨(some 216), .load false 1 (.tmp 215), (some (212, true))⟩,
    ⟨(some 217), .call 155 [(.tmp 214), (.tmp 216)], (some (212, true))⟩,
    ⟨(some 218), .pick (.tmp 212) (.tmp 217) (.const (.bool false)), none⟩,
    ⟨(some 6), .mov (.tmp 218), none⟩])
  .ret))))))))))⟩
theorem F117_ok : compF Tryz.prog 117 = some F117 := by kernel_rfl

/-- colonnade/kind.all$1 -/
def F124 : FC := ⟨9, [],
  (.seq (.ops [⟨(some 3), .box (.tmp 0), none⟩])
  (.seq (.ops [⟨(some 4), .alloc [.nilFunc], none⟩])
  (.seq (.ops [⟨(some 5), .mkFunc (.func 125) [] [(.tmp 3), (.tmp 1), (.tmp 4)], none⟩,
    ⟨none, .store 1 (.tmp 4) (.tmp 5), none⟩])
  (.ops [⟨(some 6), .load false 1 (.tmp 4), none⟩,
    ⟨(some 7), .load false 1 (.tmp 2), none⟩,
    ⟨(some 8), .callv (.tmp 6) [(.const (.slice none 0 0)), (.tmp 7), (.const (.bool false))], none⟩]))))⟩
theorem F124_ok : compF Tryz.prog 124 = some F124 := by kernel_rfl

/-- colonnade/kind.all$1$1 -/
def F125 : FC := ⟨56, [.tmp 9],
  (.seq (.ops [⟨(some 9), .mov (.const (.bool false)), none⟩])
  (.seq (.seq (.ops [⟨(some 13), .mov (.tmp 1), none⟩,
    ⟨(some 14), .len 1 (.tmp 13), none⟩,
    ⟨(some 15), .mov (.const (.int .i64 0)), none⟩])
  (.block 0 (.loop (.seq (.ops [⟨(some 16), .bin .lss (.tmp 15) (.tmp 14) (some (.int .i64)), none⟩])
  (.seq (.cond (.tmp 16)
  .skip
  (.exit 0))
  (.seq (.block 1 (.seq (.ops [⟨(some 17), .mov (.tmp 15), none⟩,
    ⟨(some 18), .indexAddr 7 (.tmp 13) (.tmp 15), none⟩,
    ⟨(some 19), .load true 7 (.tmp 18), none⟩,
    ⟨(some 11), .alloc [(.string ⟨#[]⟩), (.bool false), (.int .i64 0), (.int .i64 0), (.int .i64 0), (.int .i64 0), (.slice none 0 0)], none⟩,
    ⟨(some 10), .mov (.tmp 17), none⟩,
    ⟨none, .store 7 (.tmp 11) (.tmp 19), none⟩])
  (.seq (.ops [⟨(some 20), .mov (.tmp 0), none⟩,
    ⟨(some 21), .call 126 [(.tmp 20)], none⟩,
    ⟨(some 22), .mov (.tmp 10), none⟩,
    ⟨(some 23), .buildSlice 1 1 [(.int .i64 0)] [(0, 1, (.tmp 22))], none⟩,
    ⟨(some 24), .append 1 8 (.tmp 21) (.tmp 23), none⟩,
    ⟨(some 12), .mov (.tmp 24), none⟩])
  (.seq (.seq (.ops [⟨(some 25), .load false 1 (.tmp 3), none⟩,
    ⟨(some 26), .mov (.tmp 12), none⟩,
    ⟨(some 27), .mov (.tmp 1), none⟩,
    ⟨(some 28), .mov (.tmp 10), none⟩,
    ⟨(some 29), .slice 7 (.tmp 27) none (some (.tmp 28)) none, none⟩,
    ⟨(some 30), .load true 7 (.tmp 11), none⟩,
    ⟨(some 31), .mov (.tmp 2), none⟩,
    ⟨(some 32), .build [(.slice none 0 0), (.slice none 0 0), (.string ⟨#[]⟩), (.bool false), (.int .i64 0), (.int .i64 0), (.int .i64 0), (.int .i64 0), (.slice none 0 0), (.bool false)] [(0, 1, (.tmp 26)), (1, 1, (.tmp 29)), (2, 7, (.tmp 30)), (9, 1, (.tmp 31))], none⟩,
    ⟨(some 33), .callv (.tmp 25) [(.tmp 32)], none⟩,
    ⟨(some 34), .un .not (.tmp 33), none⟩])
  (.cond (.tmp 34)
  (.seq (.ops [⟨(some 9), .mov (.const (.bool false)), none⟩])
  .ret)
  .skip))
  (.seq (.ops [⟨(some 35), .mov (.tmp 12), none⟩,
    ⟨(some 36), .len 1 (.tmp 35), none⟩,
    ⟨(some 37), .load false 1 (.tmp 4), none⟩,
    ⟨(some 38), .bin .lss (.tmp 36) (.tmp 37) (some (.int .i64)), none⟩,
    ⟨(some 39), .mov (.tmp 38), none⟩,
    ⟨(some 40), .load false 1 (.tmp 5), (some (39, true))⟩,
    ⟨(some 41), .mov (.tmp 12), (some (39, true))⟩,
    ⟨(some 42), .fieldAddr 2 (.tmp 11), (some (39, true))⟩,
    ⟨(some 43), .fieldAddr 4 (.tmp 42), (some (39, true))⟩,
    ⟨(some 44), .load false 1 (.tmp 43), (some (39, true))⟩,
    ⟨(some 45), .mov (.tmp 2), (some (39, true))⟩,
    ⟨(some 46), .mov (.tmp 45), (some (39, true))⟩,
    ⟨(some 47), .fieldAddr 2 (.tmp 11), (some (46, false))⟩,
    ⟨(some 48), .fieldAddr 0 (.tmp 47), (some (46, false))⟩,
    ⟨(some 49), .load false 1 (.tmp 48), (some (46, false))⟩,
    ⟨(some 50), .bin .eql (.tmp 49) (.const (.int .i64 19)) (some (.int .i64)), (some (46, false))⟩,
    ⟨(some 51), .pick (.tmp 46) (.const (.bool true)) (.tmp 50), (some (39, true))⟩,
    ⟨(some 52), .callv (.tmp 40) [(.tmp 41), (.tmp 44), (.tmp 51)], (some (39, true))⟩,
    ⟨(some 53), .un .not (.tmp 52), (some (39, true))⟩,
    ⟨(some 54), .pick (.tmp 39) (.tmp 53) (.const (.bool false)), none⟩])
  (.cond (.tmp 54)
  (.seq (.ops [⟨(some 9), .mov (.const (.bool false)), none⟩])
  .ret)
  .skip))))))
  (.ops [⟨(some 55), .bin .add (.tmp 15) (.const (.int .i64 1)) (some (.int .i64)), none⟩,
    ⟨(some 15), .mov (.tmp 55), none⟩])))))))
  (.seq (.ops [⟨(some 9), .mov (.const (.bool true)), none⟩])
  .ret)))⟩
theorem F125_ok : compF Tryz.prog 125 = some F125 := by kernel_rfl


end Go.Proofs.YtdgfcgadefodfaaGreatDoor.Calc
