/- The code that the call meets, as instructions. No conditions. -/
import Derived.Test.YtpgeonghlabnhaaGreatDoorEm22
import Derived.Test.YtpgeonghlabnhaaGreatDoorProg
import Derived.KernelRfl
set_option linter.unusedVariables false
namespace Go.Proofs.YtpgeonghlabnhaaGreatDoor.Lin
open Go Go.Proofs.YtpgeonghlabnhaaGreatDoor Go.Proofs.YtpgeonghlabnhaaGreatDoor.Em
/-- colonnade/lines.says -/
def F93 : FC := ⟨38, [.cell 4 true 4, .tmp 5],
  (.seq (.ops [⟨(some 2), .box (.tmp 0), none⟩,
    ⟨(some 3), .box (.tmp 1), none⟩,
    ⟨(some 4), .alloc [(.bool false), (.int .i64 0), (.string ⟨#[]⟩), (.slice none 0 0)], none⟩,
    ⟨(some 5), .mov (.const (.bool false)), none⟩])
  (.seq (.seq (.ops [⟨(some 10), .load true 2 (.tmp 3), none⟩,
    ⟨(some 11), .call 31 [(.tmp 10)], none⟩])
  (.cond (.tmp 11)
  (.seq (.ops [⟨(some 12), .build [(.bool false), (.int .i64 0), (.string ⟨#[]⟩), (.slice none 0 0)] [(0, 1, (.const (.bool true)))], none⟩,
    ⟨(some 6), .alloc [(.bool false), (.int .i64 0), (.string ⟨#[]⟩), (.slice none 0 0)], none⟩,
    ⟨none, .store 4 (.tmp 6) (.tmp 12), none⟩])
  (.seq (.ops [⟨(some 13), .load true 4 (.tmp 6), none⟩,
    ⟨(some 14), .load true 7 (.tmp 2), none⟩,
    ⟨(some 15), .load true 4 (.tmp 6), none⟩,
    ⟨(some 16), .call 133 [(.tmp 14), (.tmp 15)], none⟩,
    ⟨none, .again 13 true 4 (.tmp 6), none⟩,
    ⟨(some 17), .bin .eql (.tmp 16) (.const (.int .i64 0)) (some (.int .i64)), none⟩,
    ⟨none, .store 4 (.tmp 4) (.tmp 13), none⟩,
    ⟨(some 5), .mov (.tmp 17), none⟩])
  .ret))
  .skip))
  (.seq (.seq (.ops [⟨(some 18), .fieldAddr 2 (.tmp 2), none⟩,
    ⟨(some 19), .load true 5 (.tmp 18), none⟩,
    ⟨(some 20), .call 61 [(.tmp 19)], none⟩])
  (.cond (.tmp 20)
  (.seq (.ops [⟨(some 21), .fieldAddr 0 (.tmp 3), none⟩,
    ⟨(some 22), .load false 1 (.tmp 21), none⟩,
    ⟨(some 23), .build [(.bool false), (.int .i64 0), (.string ⟨#[]⟩), (.slice none 0 0)] [(2, 1, (.tmp 22))], none⟩,
    ⟨(some 24), .fieldAddr 0 (.tmp 3), none⟩,
    ⟨(some 25), .load false 1 (.tmp 24), none⟩,
    ⟨(some 26), .call 36 [(.tmp 25)], none⟩,
    ⟨none, .again 22 false 1 (.tmp 21), none⟩,
    ⟨none, .store 4 (.tmp 4) (.tmp 23), none⟩,
    ⟨(some 5), .mov (.tmp 26), none⟩])
  .ret)
  .skip))
  (.seq (.ops [⟨(some 28), .load true 7 (.tmp 2), none⟩,
    ⟨(some 29), .fieldAddr 0 (.tmp 3), none⟩,
    ⟨(some 30), .load false 1 (.tmp 29), none⟩,
    ⟨(some 31), .call 33 [(.tmp 28), (.tmp 30)], none⟩,
    ⟨(some 27), .mov (.tmp 31), none⟩,
    ⟨(some 32), .extract (.tmp 27) 0, none⟩,
    ⟨(some 33), .extract (.tmp 27) 1, none⟩,
    ⟨(some 34), .extract (.tmp 27) 2, none⟩,
    ⟨(some 7), .alloc [(.bool false), (.int .i64 0), (.string ⟨#[]⟩), (.slice none 0 0)], none⟩,
    ⟨none, .store 4 (.tmp 7) (.tmp 32), none⟩,
    ⟨(some 8), .mov (.tmp 33), none⟩,
    ⟨(some 9), .mov (.tmp 34), none⟩])
  (.seq (.ops [⟨(some 35), .load true 4 (.tmp 7), none⟩,
    ⟨(some 36), .mov (.tmp 8), none⟩,
    ⟨(some 37), .bin .eql (.tmp 36) (.const (.int .i64 0)) (some (.int .i64)), none⟩,
    ⟨none, .store 4 (.tmp 4) (.tmp 35), none⟩,
    ⟨(some 5), .mov (.tmp 37), none⟩])
  .ret)))))⟩
theorem F93_ok : compF Tryz.prog 93 = some F93 := by kernel_rfl
/-- (*colonnade/build.Builder).Add -/
def F94 : FC := ⟨22, [.tmp 4],
  (.seq (.ops [⟨(some 3), .box (.tmp 1), none⟩,
    ⟨(some 4), .mov (.const (.int .i64 0)), none⟩])
  (.seq (.seq (.ops [⟨(some 6), .mov (.tmp 0), none⟩,
    ⟨(some 7), .nilCheck (.tmp 6), none⟩,
    ⟨(some 8), .fieldAddr 8 (.tmp 7), none⟩,
    ⟨(some 9), .load false 1 (.tmp 8), none⟩])
  (.cond (.tmp 9)
  (.seq (.ops [⟨(some 4), .mov (.const (.int .i64 9)), none⟩])
  .ret)
  .skip))
  (.seq (.seq (.ops [⟨(some 10), .mov (.tmp 0), none⟩,
    ⟨(some 11), .nilCheck (.tmp 10), none⟩,
    ⟨(some 12), .fieldAddr 0 (.tmp 11), none⟩,
    ⟨(some 13), .load true 7 (.tmp 12), none⟩,
    ⟨(some 14), .load true 4 (.tmp 3), none⟩,
    ⟨(some 15), .call 133 [(.tmp 13), (.tmp 14)], none⟩,
    ⟨(some 5), .mov (.tmp 15), none⟩])
  (.seq (.ops [⟨(some 16), .mov (.tmp 5), none⟩,
    ⟨(some 17), .bin .neq (.tmp 16) (.const (.int .i64 0)) (some (.int .i64)), none⟩])
  (.cond (.tmp 17)
  (.seq (.ops [⟨(some 18), .mov (.tmp 5), none⟩,
    ⟨(some 4), .mov (.tmp 18), none⟩])
  .ret)
  .skip)))
  (.seq (.ops [⟨(some 19), .mov (.tmp 0), none⟩,
    ⟨(some 20), .load true 4 (.tmp 3), none⟩,
    ⟨(some 21), .call 134 [(.tmp 19), (.tmp 20)], none⟩,
    ⟨(some 4), .mov (.tmp 21), none⟩])
  .ret))))⟩
theorem F94_ok : compF Tryz.prog 94 = some F94 := by kernel_rfl
/-- slices.Clone[[]colonnade/api.Field,colonnade/api.Field] -/
def F95 : FC := ⟨8, [.tmp 2],
  (.seq (.ops [⟨(some 2), .mov (.const (.slice none 0 0)), none⟩])
  (.seq (.seq (.ops [⟨(some 3), .mov (.tmp 0), none⟩,
    ⟨(some 4), .bin .eql (.tmp 3) (.const (.slice none 0 0)) (some (.slice 44)), none⟩])
  (.cond (.tmp 4)
  (.seq (.ops [⟨(some 2), .mov (.const (.slice none 0 0)), none⟩])
  .ret)
  .skip))
  (.seq (.ops [⟨(some 5), .buildSlice 7 0 [] [], none⟩,
    ⟨(some 6), .mov (.tmp 0), none⟩,
    ⟨(some 7), .append 7 80 (.tmp 5) (.tmp 6), none⟩,
    ⟨(some 2), .mov (.tmp 7), none⟩])
  .ret)))⟩
theorem F95_ok : compF Tryz.prog 95 = some F95 := by kernel_rfl
/-- colonnade/array.Open -/
def F96 : FC := ⟨20, [.tmp 4, .cell 5 true 3],
  (.seq (.ops [⟨(some 2), .box (.tmp 0), none⟩,
    ⟨(some 3), .box (.tmp 1), none⟩,
    ⟨(some 4), .mov (.const (.pointer none)), none⟩,
    ⟨(some 5), .alloc [(.int .i64 0), (.slice none 0 0), (.int .i64 0)], none⟩])
  (.seq (.seq (.ops [⟨(some 7), .load true 7 (.tmp 2), none⟩,
    ⟨(some 8), .load true 6 (.tmp 3), none⟩,
    ⟨(some 9), .call 135 [(.tmp 7), (.tmp 8)], none⟩,
    ⟨(some 6), .alloc [(.int .i64 0), (.slice none 0 0), (.int .i64 0)], none⟩,
    ⟨none, .store 3 (.tmp 6) (.tmp 9), none⟩])
  (.seq (.ops [⟨(some 10), .fieldAddr 0 (.tmp 6), none⟩,
    ⟨(some 11), .load false 1 (.tmp 10), none⟩,
    ⟨(some 12), .bin .neq (.tmp 11) (.const (.int .i64 0)) (some (.int .i64)), none⟩])
  (.cond (.tmp 12)
  (.seq (.ops [⟨(some 13), .load true 3 (.tmp 6), none⟩,
    ⟨(some 4), .mov (.const (.pointer none)), none⟩,
    ⟨none, .store 3 (.tmp 5) (.tmp 13), none⟩])
  .ret)
  .skip)))
  (.seq (.ops [⟨(some 14), .load true 7 (.tmp 2), none⟩,
    ⟨(some 16), .load true 6 (.tmp 3), none⟩,
    ⟨(some 19), .build [(.int .i64 0), (.slice none 0 0), (.int .i64 0)] [], none⟩,
    ⟨(some 15), .call 137 [(.tmp 14)], none⟩,
    ⟨none, .again 16 true 6 (.tmp 3), none⟩,
    ⟨(some 17), .call 138 [(.tmp 16)], none⟩,
    ⟨(some 18), .call 136 [(.tmp 15), (.tmp 17), (.const (.pointer none))], none⟩,
    ⟨(some 4), .mov (.tmp 18), none⟩,
    ⟨none, .store 3 (.tmp 5) (.tmp 19), none⟩])
  .ret)))⟩
theorem F96_ok : compF Tryz.prog 96 = some F96 := by kernel_rfl
/-- (*strings.Builder).copyCheck -/
def F97 : FC := ⟨20, [],
  (.seq (.ops [⟨(some 2), .mov (.tmp 0), none⟩,
    ⟨(some 3), .nilCheck (.tmp 2), none⟩,
    ⟨(some 4), .fieldAddr 0 (.tmp 3), none⟩,
    ⟨(some 5), .load false 1 (.tmp 4), none⟩,
    ⟨(some 6), .bin .eql (.tmp 5) (.const (.pointer none)) (some (.pointer 139)), none⟩])
  (.cond (.tmp 6)
  (.ops [⟨(some 7), .mov (.tmp 0), none⟩,
    ⟨(some 8), .mov (.tmp 0), none⟩,
    ⟨(some 9), .toU (.tmp 8), none⟩,
    ⟨(some 10), .same (.tmp 9), none⟩,
    ⟨(some 11), .fromU [(139, 2, 0), (202, 2, 0), (203, 2, 0)] (.tmp 10), none⟩,
    ⟨(some 12), .nilCheck (.tmp 7), none⟩,
    ⟨(some 13), .fieldAddr 0 (.tmp 12), none⟩,
    ⟨none, .store 1 (.tmp 13) (.tmp 11), none⟩])
  (.seq (.ops [⟨(some 14), .mov (.tmp 0), none⟩,
    ⟨(some 15), .nilCheck (.tmp 14), none⟩,
    ⟨(some 16), .fieldAddr 0 (.tmp 15), none⟩,
    ⟨(some 17), .load false 1 (.tmp 16), none⟩,
    ⟨(some 18), .mov (.tmp 0), none⟩,
    ⟨(some 19), .peq .neq 139 (.tmp 17) (.tmp 18), none⟩])
  (.cond (.tmp 19)
  (.any (.done [⟨none, .bad, none⟩]))
  .skip))))⟩
theorem F97_ok : compF Tryz.prog 97 = some F97 := by kernel_rfl
/-- (*colonnade/array.Array).own -/
def F100 : FC := ⟨16, [.cell 6 true 4],
  (.seq (.ops [⟨(some 6), .alloc [(.bool false), (.int .i64 0), (.string ⟨#[]⟩), (.slice none 0 0)], none⟩])
  (.seq (.ops [⟨(some 7), .mov (.tmp 0), none⟩,
    ⟨(some 8), .mov (.tmp 0), none⟩,
    ⟨(some 9), .nilCheck (.tmp 8), none⟩,
    ⟨(some 10), .fieldAddr 13 (.tmp 9), none⟩,
    ⟨(some 11), .load false 1 (.tmp 10), none⟩,
    ⟨(some 12), .mov (.tmp 1), none⟩,
    ⟨(some 13), .bin .add (.tmp 11) (.tmp 12) (some (.int .i64)), none⟩,
    ⟨(some 14), .mov (.tmp 2), none⟩,
    ⟨(some 15), .call 141 [(.tmp 7), (.tmp 13), (.tmp 14)], none⟩,
    ⟨none, .store 4 (.tmp 6) (.tmp 15), none⟩])
  .ret))⟩
theorem F100_ok : compF Tryz.prog 100 = some F100 := by kernel_rfl
/-- colonnade/value.good -/
def F101 : FC := ⟨12, [.tmp 4],
  (.seq (.ops [⟨(some 2), .box (.tmp 0), none⟩,
    ⟨(some 3), .box (.tmp 1), none⟩,
    ⟨(some 4), .mov (.const (.bool false)), none⟩])
  (.seq (.ops [⟨(some 6), .build [(.int .i64 0)] [(0, 1, (.const (.int .i64 4194304)))], none⟩,
    ⟨(some 7), .box (.tmp 6), none⟩,
    ⟨(some 5), .mov (.tmp 7), none⟩])
  (.seq (.ops [⟨(some 8), .mov (.tmp 5), none⟩,
    ⟨(some 9), .load true 7 (.tmp 2), none⟩,
    ⟨(some 10), .load true 4 (.tmp 3), none⟩,
    ⟨(some 11), .call 142 [(.tmp 8), (.tmp 9), (.tmp 10)], none⟩,
    ⟨(some 4), .mov (.tmp 11), none⟩])
  .ret)))⟩
theorem F101_ok : compF Tryz.prog 101 = some F101 := by kernel_rfl
/-- (*colonnade/value.printer).value -/
def F102 : FC := ⟨120, [],
  (.seq (.ops [⟨(some 4), .box (.tmp 1), none⟩,
    ⟨(some 5), .box (.tmp 2), none⟩])
  (.seq (.seq (.ops [⟨(some 7), .mov (.tmp 0), none⟩,
    ⟨(some 8), .nilCheck (.tmp 7), none⟩,
    ⟨(some 9), .fieldAddr 0 (.tmp 8), none⟩,
    ⟨(some 10), .call 103 [(.tmp 9)], none⟩,
    ⟨(some 11), .bin .gtr (.tmp 10) (.const (.int .i64 65536)) (some (.int .i64)), none⟩])
  (.cond (.tmp 11)
  .ret
  .skip))
  (.seq (.seq (.ops [⟨(some 12), .fieldAddr 0 (.tmp 5), none⟩,
    ⟨(some 13), .load false 1 (.tmp 12), none⟩])
  (.cond (.tmp 13)
  (.seq (.ops [⟨(some 14), .mov (.tmp 0), none⟩,
    ⟨(some 15), .nilCheck (.tmp 14), none⟩,
    ⟨(some 16), .fieldAddr 0 (.tmp 15), none⟩,
    ⟨(some 17), .call 57 [(.tmp 16), (.const (.string ⟨#[110, 117, 108, 108]⟩))], none⟩])
  .ret)
  .skip))
  (.seq (.ops [⟨(some 18), .fieldAddr 2 (.tmp 4), none⟩,
    ⟨(some 19), .load true 5 (.tmp 18), none⟩,
    ⟨(some 6), .alloc [(.int .i64 0), (.int .i64 0), (.int .i64 0), (.int .i64 0), (.slice none 0 0)], none⟩,
    ⟨none, .store 5 (.tmp 6) (.tmp 19), none⟩])
  (.seq (.ops [⟨(some 20), .fieldAddr 0 (.tmp 6), none⟩,
    ⟨(some 21), .load false 1 (.tmp 20), none⟩])
  (.block 0 (.seq (.seq (.ops [⟨(some 30), .bin .eql (.tmp 21) (.const (.int .i64 19)) (some (.int .i64)), none⟩,
    ⟨(some 29), .mov (.tmp 30), none⟩])
  (.cond (.tmp 29)
  .skip
  (.ops [⟨(some 31), .bin .eql (.tmp 21) (.const (.int .i64 20)) (some (.int .i64)), none⟩,
    ⟨(some 29), .mov (.tmp 31), none⟩])))
  (.cond (.tmp 29)
  (.ops [⟨(some 32), .mov (.tmp 0), none⟩,
    ⟨(some 33), .fieldAddr 4 (.tmp 6), none⟩,
    ⟨(some 34), .load false 1 (.tmp 33), none⟩,
    ⟨(some 35), .indexAddr 7 (.tmp 34) (.const (.int .i64 0)), none⟩,
    ⟨(some 36), .load true 7 (.tmp 35), none⟩,
    ⟨(some 37), .load true 4 (.tmp 5), none⟩,
    ⟨(some 38), .call 102 [(.tmp 32), (.tmp 36), (.tmp 37)], none⟩])
  (.seq (.ops [⟨(some 40), .bin .eql (.tmp 21) (.const (.int .i64 2)) (some (.int .i64)), none⟩,
    ⟨(some 39), .mov (.tmp 40), none⟩])
  (.cond (.tmp 39)
  (.ops [⟨(some 41), .mov (.tmp 0), none⟩,
    ⟨(some 42), .nilCheck (.tmp 41), none⟩,
    ⟨(some 43), .fieldAddr 0 (.tmp 42), none⟩,
    ⟨(some 44), .fieldAddr 1 (.tmp 5), none⟩,
    ⟨(some 45), .load false 1 (.tmp 44), none⟩,
    ⟨(some 46), .bin .eql (.tmp 45) (.const (.int .i64 1)) (some (.int .i64)), none⟩,
    ⟨(some 47), .call 143 [(.tmp 46)], none⟩,
    ⟨(some 48), .call 57 [(.tmp 43), (.tmp 47)], none⟩])
  (.seq (.ops [⟨(some 50), .bin .eql (.tmp 21) (.const (.int .i64 10)) (some (.int .i64)), none⟩,
    ⟨(some 49), .mov (.tmp 50), none⟩])
  (.cond (.tmp 49)
  (.ops [⟨(some 51), .mov (.tmp 0), none⟩,
    ⟨(some 52), .nilCheck (.tmp 51), none⟩,
    ⟨(some 53), .fieldAddr 0 (.tmp 52), none⟩,
    ⟨(some 54), .fieldAddr 1 (.tmp 5), none⟩,
    ⟨(some 55), .load false 1 (.tmp 54), none⟩,
    ⟨(some 56), .conv .u64 (.tmp 55), none⟩,
    ⟨(some 57), .call 144 [(.tmp 56), (.const (.int .i64 10))], none⟩,
    ⟨(some 58), .call 57 [(.tmp 53), (.tmp 57)], none⟩])
  (.seq (.ops [⟨(some 60), .bin .eql (.tmp 21) (.const (.int .i64 11)) (some (.int .i64)), none⟩,
    ⟨(some 59), .mov (.tmp 60), none⟩])
  (.cond (.tmp 59)
  (.ops [⟨(some 61), .mov (.tmp 0), none⟩,
    ⟨(some 62), .nilCheck (.tmp 61), none⟩,
    ⟨(some 63), .fieldAddr 0 (.tmp 62), none⟩,
    ⟨(some 64), .fieldAddr 1 (.tmp 5), none⟩,
    ⟨(some 65), .load false 1 (.tmp 64), none⟩,
    ⟨(some 66), .call 145 [(.tmp 65)], none⟩,
    ⟨(some 67), .call 57 [(.tmp 63), (.tmp 66)], none⟩])
  (.seq (.ops [⟨(some 69), .bin .eql (.tmp 21) (.const (.int .i64 12)) (some (.int .i64)), none⟩,
    ⟨(some 68), .mov (.tmp 69), none⟩])
  (.cond (.tmp 68)
  (.ops [⟨(some 70), .mov (.tmp 0), none⟩,
    ⟨(some 71), .fieldAddr 2 (.tmp 5), none⟩,
    ⟨(some 72), .load false 1 (.tmp 71), none⟩,
    ⟨(some 73), .call 146 [(.tmp 70), (.tmp 72)], none⟩])
  (.seq (.seq (.ops [⟨(some 75), .bin .eql (.tmp 21) (.const (.int .i64 13)) (some (.int .i64)), none⟩,
    ⟨(some 74), .mov (.tmp 75), none⟩])
  (.cond (.tmp 74)
  .skip
  (.ops [⟨(some 76), .bin .eql (.tmp 21) (.const (.int .i64 14)) (some (.int .i64)), none⟩,
    ⟨(some 74), .mov (.tmp 76), none⟩])))
  (.cond (.tmp 74)
  (.ops [⟨(some 77), .mov (.tmp 0), none⟩,
    ⟨(some 78), .fieldAddr 2 (.tmp 5), none⟩,
    ⟨(some 79), .load false 1 (.tmp 78), none⟩,
    ⟨(some 80), .call 147 [(.tmp 77), (.tmp 79)], none⟩])
  (.seq (.ops [⟨(some 82), .bin .eql (.tmp 21) (.const (.int .i64 18)) (some (.int .i64)), none⟩,
    ⟨(some 81), .mov (.tmp 82), none⟩])
  (.cond (.tmp 81)
  (.seq (.ops [⟨(some 83), .mov (.tmp 0), none⟩,
    ⟨(some 84), .nilCheck (.tmp 83), none⟩,
    ⟨(some 85), .fieldAddr 0 (.tmp 84), none⟩,
    ⟨(some 86), .fieldAddr 4 (.tmp 6), none⟩,
    ⟨(some 87), .load false 1 (.tmp 86), none⟩,
    ⟨(some 88), .fieldAddr 1 (.tmp 5), none⟩,
    ⟨(some 89), .load false 1 (.tmp 88), none⟩,
    ⟨(some 90), .indexAddr 7 (.tmp 87) (.tmp 89), none⟩,
    ⟨(some 91), .fieldAddr 0 (.tmp 90), none⟩,
    ⟨(some 92), .load false 1 (.tmp 91), none⟩,
    ⟨(some 93), .bin .add (.tmp 92) (.const (.string ⟨#[40]⟩)) (some .string), none⟩,
    ⟨(some 94), .call 57 [(.tmp 85), (.tmp 93)], none⟩])
  (.seq (.ops [⟨(some 95), .mov (.tmp 0), none⟩,
    ⟨(some 96), .fieldAddr 4 (.tmp 6), none⟩,
    ⟨(some 97), .load false 1 (.tmp 96), none⟩,
    ⟨(some 98), .fieldAddr 1 (.tmp 5), none⟩,
    ⟨(some 99), .load false 1 (.tmp 98), none⟩,
    ⟨(some 100), .indexAddr 7 (.tmp 97) (.tmp 99), none⟩,
    ⟨(some 101), .load true 7 (.tmp 100), none⟩,
    ⟨(some 102), .fieldAddr 3 (.tmp 5), none⟩,
    ⟨(some 103), .load false 1 (.tmp 102), none⟩,
    ⟨(some 104), .indexAddr 4 (.tmp 103) (.const (.int .i64 0)), none⟩,
    ⟨(some 105), .load true 4 (.tmp 104), none⟩,
    ⟨(some 106), .call 102 [(.tmp 95), (.tmp 101), (.tmp 105)], none⟩])
  (.ops [⟨(some 107), .mov (.tmp 0), none⟩,
    ⟨(some 108), .nilCheck (.tmp 107), none⟩,
    ⟨(some 109), .fieldAddr 0 (.tmp 108), none⟩,
    ⟨(some 110), .call 148 [(.tmp 109), (.const (.int .u8 41))], none⟩])))
  (.seq (.seq (.ops [⟨(some 112), .bin .eql (.tmp 21) (.const (.int .i64 15)) (some (.int .i64)), none⟩,
    ⟨(some 111), .mov (.tmp 112), none⟩])
  (.cond (.tmp 111)
  .skip
  (.seq (.ops [⟨(some 113), .bin .eql (.tmp 21) (.const (.int .i64 16)) (some (.int .i64)), none⟩,
    ⟨(some 111), .mov (.tmp 113), none⟩])
  (.cond (.tmp 111)
  .skip
  (.ops [⟨(some 114), .bin .eql (.tmp 21) (.const (.int .i64 17)) (some (.int .i64)), none⟩,
    ⟨(some 111), .mov (.tmp 114), none⟩])))))
  (.cond (.tmp 111)
  (.ops [⟨(some 115), .mov (.tmp 0), none⟩,
    ⟨(some 116), .load true 5 (.tmp 6), none⟩,
    ⟨(some 117), .fieldAddr 3 (.tmp 5), none⟩,
    ⟨(some 118), .load false 1 (.tmp 117), none⟩,
    ⟨(some 119), .call 149 [(.tmp 115), (.tmp 116), (.tmp 118)], none⟩])
  (.ops [⟨(some 22), .mov (.tmp 0), none⟩,
    ⟨(some 23), .nilCheck (.tmp 22), none⟩,
    ⟨(some 24), .fieldAddr 0 (.tmp 23), none⟩,
    ⟨(some 25), .fieldAddr 1 (.tmp 5), none⟩,
    ⟨(some 26), .load false 1 (.tmp 25), none⟩,
    ⟨(some 27), .call 150 [(.tmp 26), (.const (.int .i64 10))], none⟩,
    ⟨(some 28), .call 57 [(.tmp 24), (.tmp 27)], none⟩])))))))))))))))))))))))⟩
theorem F102_ok : compF Tryz.prog 102 = some F102 := by kernel_rfl
/-- (*strings.Builder).Len -/
def F103 : FC := ⟨8, [.tmp 2],
  (.seq (.ops [⟨(some 2), .mov (.const (.int .i64 0)), none⟩])
  (.seq (.ops [⟨(some 3), .mov (.tmp 0), none⟩,
    ⟨(some 4), .nilCheck (.tmp 3), none⟩,
    ⟨(some 5), .fieldAddr 1 (.tmp 4), none⟩,
    ⟨(some 6), .load false 1 (.tmp 5), none⟩,
    ⟨(some 7), .len 1 (.tmp 6), none⟩,
    ⟨(some 2), .mov (.tmp 7), none⟩])
  .ret))⟩
theorem F103_ok : compF Tryz.prog 103 = some F103 := by kernel_rfl
/-- strings.Replace -/
def F105 : FC := ⟨104, [.tmp 8],
  (.seq (.ops [⟨(some 8), .mov (.const (.string ⟨#[]⟩)), none⟩])
  (.seq (.seq (.ops [⟨(some 16), .mov (.tmp 1), none⟩,
    ⟨(some 17), .mov (.tmp 2), none⟩,
    ⟨(some 18), .bin .eql (.tmp 16) (.tmp 17) (some .string), none⟩,
    ⟨(some 19), .mov (.tmp 18), none⟩,
    ⟨(some 20), .mov (.tmp 3), (some (19, false))⟩,
    ⟨(some 21), .bin .eql (.tmp 20) (.const (.int .i64 0)) (some (.int .i64)), (some (19, false))⟩,
    ⟨(some 22), .pick (.tmp 19) (.const (.bool true)) (.tmp 21), none⟩])
  (.cond (.tmp 22)
  (.seq (.ops [⟨(some 23), .mov (.tmp 0), none⟩,
    ⟨(some 8), .mov (.tmp 23), none⟩])
  .ret)
  .skip))
  (.seq (.seq (.ops [⟨(some 24), .mov (.tmp 0), none⟩,
    ⟨(some 25), .mov (.tmp 1), none⟩,
    ⟨(some 26), .call 155 [(.tmp 24), (.tmp 25)], none⟩,
    ⟨(some 9), .mov (.tmp 26), none⟩])
  (.seq (.ops [⟨(some 27), .mov (.tmp 9), none⟩,
    ⟨(some 28), .bin .eql (.tmp 27) (.const (.int .i64 0)) (some (.int .i64)), none⟩])
  (.cond (.tmp 28)
  (.seq (.ops [⟨(some 29), .mov (.tmp 0), none⟩,
    ⟨(some 8), .mov (.tmp 29), none⟩])
  .ret)
  (.seq (.ops [⟨(some 30), .mov (.tmp 3), none⟩,
    ⟨(some 31), .bin .lss (.tmp 30) (.const (.int .i64 0)) (some (.int .i64)), none⟩,
    ⟨(some 32), .mov (.tmp 31), none⟩,
    ⟨(some 33), .mov (.tmp 9), (some (32, false))⟩,
    ⟨(some 34), .mov (.tmp 3), (some (32, false))⟩,
    ⟨(some 35), .bin .lss (.tmp 33) (.tmp 34) (some (.int .i64)), (some (32, false))⟩,
    ⟨(some 36), .pick (.tmp 32) (.const (.bool true)) (.tmp 35), none⟩])
  (.cond (.tmp 36)
  (.ops [⟨(some 37), .mov (.tmp 9), none⟩,
    ⟨(some 3), .mov (.tmp 37), none⟩])
  .skip)))))
  (.seq (.ops [⟨(some 10), .allocB 139 2 [(.pointer none), (.slice none 0 0)], none⟩])
  (.seq (.ops [⟨(some 38), .mov (.tmp 0), none⟩,
    ⟨(some 39), .len 0 (.tmp 38), none⟩,
    ⟨(some 40), .mov (.tmp 3), none⟩,
    ⟨(some 41), .mov (.tmp 2), none⟩,
    ⟨(some 42), .len 0 (.tmp 41), none⟩,
    ⟨(some 43), .mov (.tmp 1), none⟩,
    ⟨(some 44), .len 0 (.tmp 43), none⟩,
    ⟨(some 45), .bin .sub (.tmp 42) (.tmp 44) (some (.int .i64)), none⟩,
    ⟨(some 46), .bin .mul (.tmp 40) (.tmp 45) (some (.int .i64)), none⟩,
    ⟨(some 47), .bin .add (.tmp 39) (.tmp 46) (some (.int .i64)), none⟩,
    ⟨(some 48), .call 56 [(.tmp 10), (.tmp 47)], none⟩])
  (.seq (.ops [⟨(some 11), .mov (.const (.int .i64 0)), none⟩])
  (.seq (.seq (.ops [⟨(some 49), .mov (.tmp 1), none⟩,
    ⟨(some 50), .len 0 (.tmp 49), none⟩,
    ⟨(some 51), .bin .gtr (.tmp 50) (.const (.int .i64 0)) (some (.int .i64)), none⟩])
  (.cond (.tmp 51)
  (.seq (.ops [⟨(some 52), .mov (.tmp 3), none⟩,
    ⟨(some 53), .mov (.const (.int .i64 0)), none⟩])
  (.block 0 (.loop (.seq (.ops [⟨(some 54), .bin .lss (.tmp 53) (.tmp 52) (some (.int .i64)), none⟩])
  (.seq (.cond (.tmp 54)
  .skip
  (.exit 0))
  (.seq (.block 1 (.seq (.ops [⟨(some 55), .mov (.tmp 11), none⟩,
    ⟨(some 56), .mov (.tmp 0), none⟩,
    ⟨(some 57), .mov (.tmp 11), none⟩,
    ⟨(some 58), .sliceStr (.tmp 56) (some (.tmp 57)) none, none⟩,
    ⟨(some 59), .mov (.tmp 1), none⟩,
    ⟨(some 60), .call 156 [(.tmp 58), (.tmp 59)], none⟩,
    ⟨(some 61), .bin .add (.tmp 55) (.tmp 60) (some (.int .i64)), none⟩,
    ⟨(some 12), .mov (.tmp 61), none⟩])
  (.seq (.ops [⟨(some 62), .mov (.tmp 0), none⟩,
    ⟨(some 63), .mov (.tmp 11), none⟩,
    ⟨(some 64), .mov (.tmp 12), none⟩,
    ⟨(some 65), .sliceStr (.tmp 62) (some (.tmp 63)) (some (.tmp 64)), none⟩,
    ⟨(some 66), .call 57 [(.tmp 10), (.tmp 65)], none⟩])
  (.seq (.ops [⟨(some 67), .mov (.tmp 2), none⟩,
    ⟨(some 68), .call 57 [(.tmp 10), (.tmp 67)], none⟩])
  (.ops [⟨(some 69), .mov (.tmp 12), none⟩,
    ⟨(some 70), .mov (.tmp 1), none⟩,
    ⟨(some 71), .len 0 (.tmp 70), none⟩,
    ⟨(some 72), .bin .add (.tmp 69) (.tmp 71) (some (.int .i64)), none⟩,
    ⟨(some 11), .mov (.tmp 72), none⟩])))))
  (.ops [⟨(some 73), .bin .add (.tmp 53) (.const (.int .i64 1)) (some (.int .i64)), none⟩,
    ⟨(some 53), .mov (.tmp 73), none⟩])))))))
  (.seq (.ops [⟨(some 74), .mov (.tmp 2), none⟩,
    ⟨(some 75), .call 57 [(.tmp 10), (.tmp 74)], none⟩])
  (.seq (.ops [⟨(some 76), .mov (.tmp 3), none⟩,
    ⟨(some 77), .bin .sub (.tmp 76) (.const (.int .i64 1)) (some (.int .i64)), none⟩,
    ⟨(some 78), .mov (.const (.int .i64 0)), none⟩])
  (.block 2 (.loop (.seq (.ops [⟨(some 79), .bin .lss (.tmp 78) (.tmp 77) (some (.int .i64)), none⟩])
  (.seq (.cond (.tmp 79)
  .skip
  (.exit 2))
  (.seq (.block 3 (.seq (.ops [⟨(some 81), .mov (.tmp 0), none⟩,
    ⟨(some 82), .mov (.tmp 11), none⟩,
    ⟨(some 83), .sliceStr (.tmp 81) (some (.tmp 82)) none, none⟩,
    ⟨(some 84), .call 157 [(.tmp 83)], none⟩,
    ⟨(some 80), .mov (.tmp 84), none⟩,
    ⟨(some 85), .extract (.tmp 80) 0, none⟩,
    ⟨(some 86), .extract (.tmp 80) 1, none⟩,
    ⟨(some 13), .mov (.tmp 85), none⟩,
    ⟨(some 14), .mov (.tmp 86), none⟩])
  (.seq (.ops [⟨(some 87), .mov (.tmp 11), none⟩,
    ⟨(some 88), .mov (.tmp 14), none⟩,
    ⟨(some 89), .bin .add (.tmp 87) (.tmp 88) (some (.int .i64)), none⟩,
    ⟨(some 15), .mov (.tmp 89), none⟩])
  (.seq (.ops [⟨(some 90), .mov (.tmp 0), none⟩,
    ⟨(some 91), .mov (.tmp 11), none⟩,
    ⟨(some 92), .mov (.tmp 15), none⟩,
    ⟨(some 93), .sliceStr (.tmp 90) (some (.tmp 91)) (some (.tmp 92)), none⟩,
    ⟨(some 94), .call 57 [(.tmp 10), (.tmp 93)], none⟩])
  (.seq (.ops [⟨(some 95), .mov (.tmp 2), none⟩,
    ⟨(some 96), .call 57 [(.tmp 10), (.tmp 95)], none⟩])
  (.ops [⟨(some 97), .mov (.tmp 15), none⟩,
    ⟨(some 11), .mov (.tmp 97), none⟩]))))))
  (.ops [⟨(some 98), .bin .add (.tmp 78) (.const (.int .i64 1)) (some (.int .i64)), none⟩,
    ⟨(some 78), .mov (.tmp 98), none⟩]))))))))))
  (.seq (.ops [⟨(some 99), .mov (.tmp 0), none⟩,
    ⟨(some 100), .mov (.tmp 11), none⟩,
    ⟨(some 101), .sliceStr (.tmp 99) (some (.tmp 100)) none, none⟩,
    ⟨(some 102), .call 57 [(.tmp 10), (.tmp 101)], none⟩])
  (.seq (.ops [⟨(some 103), .call 58 [(.tmp 10)], none⟩,
    ⟨(some 8), .mov (.tmp 103), none⟩])
  .ret)))))))))⟩
theorem F105_ok : compF Tryz.prog 105 = some F105 := by kernel_rfl
/-- colonnade/kind.CheckField -/
def F106 : FC := ⟨17, [.cell 2 true 3],
  (.seq (.ops [⟨(some 1), .box (.tmp 0), none⟩,
    ⟨(some 2), .alloc [(.int .i64 0), (.slice none 0 0), (.int .i64 0)], none⟩])
  (.seq (.ops [⟨(some 4), .load true 7 (.tmp 1), none⟩,
    ⟨(some 5), .buildSlice 7 1 [(.string ⟨#[]⟩), (.bool false), (.int .i64 0), (.int .i64 0), (.int .i64 0), (.int .i64 0), (.slice none 0 0)] [(0, 7, (.tmp 4))], none⟩,
    ⟨(some 6), .build [(.slice none 0 0), (.slice none 0 0)] [(0, 1, (.tmp 5))], none⟩,
    ⟨(some 7), .call 14 [(.tmp 6)], none⟩,
    ⟨(some 3), .alloc [(.int .i64 0), (.slice none 0 0), (.int .i64 0)], none⟩,
    ⟨none, .store 3 (.tmp 3) (.tmp 7), none⟩])
  (.seq (.seq (.ops [⟨(some 8), .fieldAddr 1 (.tmp 3), none⟩,
    ⟨(some 9), .load false 1 (.tmp 8), none⟩,
    ⟨(some 10), .len 1 (.tmp 9), none⟩,
    ⟨(some 11), .bin .gtr (.tmp 10) (.const (.int .i64 0)) (some (.int .i64)), none⟩])
  (.cond (.tmp 11)
  (.ops [⟨(some 12), .fieldAddr 1 (.tmp 3), none⟩,
    ⟨(some 13), .load false 1 (.tmp 12), none⟩,
    ⟨(some 14), .slice 1 (.tmp 13) (some (.const (.int .i64 1))) none none, none⟩,
    ⟨(some 15), .fieldAddr 1 (.tmp 3), none⟩,
    ⟨none, .store 1 (.tmp 15) (.tmp 14), none⟩])
  .skip))
  (.seq (.ops [⟨(some 16), .load true 3 (.tmp 3), none⟩,
    ⟨none, .store 3 (.tmp 2) (.tmp 16), none⟩])
  .ret))))⟩
theorem F106_ok : compF Tryz.prog 106 = some F106 := by kernel_rfl
/-- (*colonnade/value.parser).row -/
def F107 : FC := ⟨39, [.tmp 4],
  (.seq (.ops [⟨(some 4), .mov (.const (.string ⟨#[]⟩)), none⟩])
  (.seq (.ops [⟨(some 6), .mov (.tmp 0), none⟩,
    ⟨(some 7), .nilCheck (.tmp 6), none⟩,
    ⟨(some 8), .fieldAddr 1 (.tmp 7), none⟩,
    ⟨(some 9), .load false 1 (.tmp 8), none⟩,
    ⟨(some 5), .mov (.tmp 9), none⟩])
  (.seq (.block 0 (.loop (.seq (.seq (.ops [⟨(some 10), .mov (.tmp 5), none⟩,
    ⟨(some 11), .mov (.tmp 0), none⟩,
    ⟨(some 12), .nilCheck (.tmp 11), none⟩,
    ⟨(some 13), .fieldAddr 0 (.tmp 12), none⟩,
    ⟨(some 14), .load false 1 (.tmp 13), none⟩,
    ⟨(some 15), .len 0 (.tmp 14), none⟩,
    ⟨(some 16), .bin .lss (.tmp 10) (.tmp 15) (some (.int .i64)), none⟩,
    ⟨(some 17), .mov (.tmp 16), none⟩,
    ⟨(some 18), .mov (.tmp 1), (some (17, true))⟩,
    ⟨(some 19), .mov (.tmp 0), (some (17, true))⟩,
    ⟨(some 20), .nilCheck (.tmp 19), (some (17, true))⟩,
    ⟨(some 21), .fieldAddr 0 (.tmp 20), (some (17, true))⟩,
    ⟨(some 22), .load false 1 (.tmp 21), (some (17, true))⟩,
    ⟨(some 23), .mov (.tmp 5), (some (17, true))⟩,
    ⟨(some 24), .indexStr (.tmp 22) (.tmp 23), (some (17, true))⟩,
    ⟨(some 25), .callv (.tmp 18) [(.tmp 24)], (some (17, true))⟩,
    ⟨(some 26), .pick (.tmp 17) (.tmp 25) (.const (.bool false)), none⟩])
  (.cond (.tmp 26)
  .skip
  (.exit 0)))
  (.block 1 (.ops [⟨(some 27), .mov (.tmp 5), none⟩,
    ⟨(some 28), .bin .add (.tmp 27) (.const (.int .i64 1)) (some (.int .i64)), none⟩,
    ⟨(some 5), .mov (.tmp 28), none⟩])))))
  (.seq (.ops [⟨(some 29), .mov (.tmp 0), none⟩,
    ⟨(some 30), .nilCheck (.tmp 29), none⟩,
    ⟨(some 31), .fieldAddr 0 (.tmp 30), none⟩,
    ⟨(some 32), .load false 1 (.tmp 31), none⟩,
    ⟨(some 33), .mov (.tmp 0), none⟩,
    ⟨(some 34), .nilCheck (.tmp 33), none⟩,
    ⟨(some 35), .fieldAddr 1 (.tmp 34), none⟩,
    ⟨(some 36), .load false 1 (.tmp 35), none⟩,
    ⟨(some 37), .mov (.tmp 5), none⟩,
    ⟨(some 38), .sliceStr (.tmp 32) (some (.tmp 36)) (some (.tmp 37)), none⟩,
    ⟨(some 4), .mov (.tmp 38), none⟩])
  .ret))))⟩
theorem F107_ok : compF Tryz.prog 107 = some F107 := by kernel_rfl
/-- colonnade/value.small -/
def F108 : FC := ⟨21, [.tmp 2],
  (.seq (.ops [⟨(some 2), .mov (.const (.bool false)), none⟩])
  (.seq (.ops [⟨(some 3), .mov (.tmp 0), none⟩,
    ⟨(some 4), .bin .geq (.tmp 3) (.const (.int .u8 48)) (some (.int .u8)), none⟩,
    ⟨(some 5), .mov (.tmp 4), none⟩,
    ⟨(some 6), .mov (.tmp 0), (some (5, true))⟩,
    ⟨(some 7), .bin .leq (.tmp 6) (.const (.int .u8 57)) (some (.int .u8)), (some (5, true))⟩,
    ⟨(some 8), .pick (.tmp 5) (.tmp 7) (.const (.bool false)), none⟩,
    ⟨(some 9), .mov (.tmp 8), none⟩,
    ⟨(some 10), .mov (.tmp 0), (some (9, false))⟩,
    ⟨(some 11), .bin .geq (.tmp 10) (.const (.int .u8 97)) (some (.int .u8)), (some (9, false))⟩,
    ⟨(some 12), .mov (.tmp 11), (some (9, false))⟩,
    ⟨(some 13), .mov (.tmp 0), (some (12, true))⟩,
    ⟨(some 14), .bin .leq (.tmp 13) (.const (.int .u8 122)) (some (.int .u8)), (some (12, true))⟩,
    ⟨(some 15), .pick (.tmp 12) (.tmp 14) (.const (.bool false)), (some (9, false))⟩,
    ⟨(some 16), .pick (.tmp 9) (.const (.bool true)) (.tmp 15), none⟩,
    ⟨(some 17), .mov (.tmp 16), none⟩,
    ⟨(some 18), .mov (.tmp 0), (some (17, false))⟩,
    ⟨(some 19), .bin .eql (.tmp 18) (.const (.int .u8 45)) (some (.int .u8)), (some (17, false))⟩,
    ⟨(some 20), .pick (.tmp 17) (.const (.bool true)) (.tmp 19), none⟩,
    ⟨(some 2), .mov (.tmp 20), none⟩])
  .ret))⟩
theorem F108_ok : compF Tryz.prog 108 = some F108 := by kernel_rfl
/-- colonnade/value.lets -/
def F110 : FC := ⟨27, [.tmp 2],
  (.seq (.ops [⟨(some 1), .box (.tmp 0), none⟩,
    ⟨(some 2), .mov (.const (.bool false)), none⟩])
  (.seq (.block 0 (.loop (.seq (.seq (.ops [⟨(some 3), .fieldAddr 2 (.tmp 1), none⟩,
    ⟨(some 4), .fieldAddr 0 (.tmp 3), none⟩,
    ⟨(some 5), .load false 1 (.tmp 4), none⟩,
    ⟨(some 6), .bin .eql (.tmp 5) (.const (.int .i64 20)) (some (.int .i64)), none⟩,
    ⟨(some 7), .mov (.tmp 6), none⟩,
    ⟨(some 8), .fieldAddr 2 (.tmp 1), (some (7, true))⟩,
    ⟨(some 9), .fieldAddr 4 (.tmp 8), (some (7, true))⟩,
    ⟨(some 10), .load false 1 (.tmp 9), (some (7, true))⟩,
    ⟨(some 11), .len 1 (.tmp 10), (some (7, true))⟩,
    ⟨(some 12), .bin .eql (.tmp 11) (.const (.int .i64 1)) (some (.int .i64)), (some (7, true))⟩,
    ⟨(some 13), .pick (.tmp 7) (.tmp 12) (.const (.bool false)), none⟩])
  (.cond (.tmp 13)
  .skip
  (.exit 0)))
  (.block 1 (.ops [⟨(some 14), .fieldAddr 2 (.tmp 1), none⟩,
    ⟨(some 15), .fieldAddr 4 (.tmp 14), none⟩,
    ⟨(some 16), .load false 1 (.tmp 15), none⟩,
    ⟨(some 17), .indexAddr 7 (.tmp 16) (.const (.int .i64 0)), none⟩,
    ⟨(some 18), .load true 7 (.tmp 17), none⟩,
    ⟨none, .store 7 (.tmp 1) (.tmp 18), none⟩])))))
  (.seq (.ops [⟨(some 19), .fieldAddr 1 (.tmp 1), none⟩,
    ⟨(some 20), .load false 1 (.tmp 19), none⟩,
    ⟨(some 21), .mov (.tmp 20), none⟩,
    ⟨(some 22), .fieldAddr 2 (.tmp 1), (some (21, true))⟩,
    ⟨(some 23), .fieldAddr 0 (.tmp 22), (some (21, true))⟩,
    ⟨(some 24), .load false 1 (.tmp 23), (some (21, true))⟩,
    ⟨(some 25), .bin .neq (.tmp 24) (.const (.int .i64 18)) (some (.int .i64)), (some (21, true))⟩,
    ⟨(some 26), .pick (.tmp 21) (.tmp 25) (.const (.bool false)), none⟩,
    ⟨(some 2), .mov (.tmp 26), none⟩])
  .ret)))⟩
theorem F110_ok : compF Tryz.prog 110 = some F110 := by kernel_rfl
/-- colonnade/value.number -/
def F116 : FC := ⟨71, [.tmp 4, .tmp 5],
  (.seq (.ops [⟨(some 4), .mov (.const (.int .i64 0)), none⟩,
    ⟨(some 5), .mov (.const (.bool false)), none⟩])
  (.seq (.block 0 (.seq (.ops [⟨(some 12), .mov (.tmp 0), none⟩,
    ⟨(some 13), .bin .eql (.tmp 12) (.const (.int .i64 2)) (some (.int .i64)), none⟩,
    ⟨(some 11), .mov (.tmp 13), none⟩])
  (.cond (.tmp 11)
  (.seq (.ops [⟨(some 6), .mov (.const (.int .i64 0)), none⟩])
  (.seq (.seq (.ops [⟨(some 14), .mov (.tmp 1), none⟩,
    ⟨(some 15), .bin .eql (.tmp 14) (.const (.string ⟨#[116, 114, 117, 101]⟩)) (some .string), none⟩])
  (.cond (.tmp 15)
  (.ops [⟨(some 6), .mov (.const (.int .i64 1)), none⟩])
  .skip))
  (.seq (.ops [⟨(some 16), .mov (.tmp 6), none⟩,
    ⟨(some 17), .mov (.tmp 1), none⟩,
    ⟨(some 18), .bin .eql (.tmp 17) (.const (.string ⟨#[116, 114, 117, 101]⟩)) (some .string), none⟩,
    ⟨(some 19), .mov (.tmp 18), none⟩,
    ⟨(some 20), .mov (.tmp 1), (some (19, false))⟩,
    ⟨(some 21), .bin .eql (.tmp 20) (.const (.string ⟨#[102, 97, 108, 115, 101]⟩)) (some .string), (some (19, false))⟩,
    ⟨(some 22), .pick (.tmp 19) (.const (.bool true)) (.tmp 21), none⟩,
    ⟨(some 4), .mov (.tmp 16), none⟩,
    ⟨(some 5), .mov (.tmp 22), none⟩])
  .ret)))
  (.seq (.ops [⟨(some 24), .mov (.tmp 0), none⟩,
    ⟨(some 25), .bin .eql (.tmp 24) (.const (.int .i64 11)) (some (.int .i64)), none⟩,
    ⟨(some 23), .mov (.tmp 25), none⟩])
  (.cond (.tmp 23)
  (.seq (.ops [⟨(some 26), .mov (.tmp 1), none⟩,
    ⟨(some 27), .call 164 [(.tmp 26)], none⟩,
    ⟨(some 28), .extract (.tmp 27) 0, none⟩,
    ⟨(some 29), .extract (.tmp 27) 1, none⟩,
    ⟨(some 4), .mov (.tmp 28), none⟩,
    ⟨(some 5), .mov (.tmp 29), none⟩])
  .ret)
  (.seq (.ops [⟨(some 31), .mov (.tmp 0), none⟩,
    ⟨(some 32), .bin .eql (.tmp 31) (.const (.int .i64 10)) (some (.int .i64)), none⟩,
    ⟨(some 30), .mov (.tmp 32), none⟩])
  (.cond (.tmp 30)
  (.seq (.ops [⟨(some 34), .mov (.tmp 1), none⟩,
    ⟨(some 35), .call 165 [(.tmp 34), (.const (.int .i64 10)), (.const (.int .i64 64))], none⟩,
    ⟨(some 33), .mov (.tmp 35), none⟩,
    ⟨(some 36), .extract (.tmp 33) 0, none⟩,
    ⟨(some 37), .extract (.tmp 33) 1, none⟩,
    ⟨(some 7), .mov (.tmp 36), none⟩,
    ⟨(some 8), .mov (.tmp 37), none⟩])
  (.seq (.ops [⟨(some 38), .mov (.tmp 7), none⟩,
    ⟨(some 39), .conv .i64 (.tmp 38), none⟩,
    ⟨(some 40), .mov (.tmp 8), none⟩,
    ⟨(some 41), .bin .eql (.tmp 40) (.const .nilIface) (some (.interface #[("Error", 145)])), none⟩,
    ⟨(some 42), .mov (.tmp 41), none⟩,
    ⟨(some 43), .mov (.tmp 7), (some (42, true))⟩,
    ⟨(some 44), .call 144 [(.tmp 43), (.const (.int .i64 10))], (some (42, true))⟩,
    ⟨(some 45), .mov (.tmp 1), (some (42, true))⟩,
    ⟨(some 46), .bin .eql (.tmp 44) (.tmp 45) (some .string), (some (42, true))⟩,
    ⟨(some 47), .pick (.tmp 42) (.tmp 46) (.const (.bool false)), none⟩,
    ⟨(some 4), .mov (.tmp 39), none⟩,
    ⟨(some 5), .mov (.tmp 47), none⟩])
  .ret))
  (.seq (.ops [⟨(some 49), .mov (.tmp 0), none⟩,
    ⟨(some 50), .call 166 [(.tmp 49)], none⟩,
    ⟨(some 51), .un .not (.tmp 50), none⟩,
    ⟨(some 48), .mov (.tmp 51), none⟩])
  (.cond (.tmp 48)
  (.seq (.ops [⟨(some 4), .mov (.const (.int .i64 0)), none⟩,
    ⟨(some 5), .mov (.const (.bool false)), none⟩])
  .ret)
  .skip)))))))))
  (.seq (.ops [⟨(some 53), .mov (.tmp 1), none⟩,
    ⟨(some 54), .call 167 [(.tmp 53), (.const (.int .i64 10)), (.const (.int .i64 64))], none⟩,
    ⟨(some 52), .mov (.tmp 54), none⟩,
    ⟨(some 55), .extract (.tmp 52) 0, none⟩,
    ⟨(some 56), .extract (.tmp 52) 1, none⟩,
    ⟨(some 9), .mov (.tmp 55), none⟩,
    ⟨(some 10), .mov (.tmp 56), none⟩])
  (.seq (.ops [⟨(some 57), .mov (.tmp 9), none⟩,
    ⟨(some 58), .mov (.tmp 10), none⟩,
    ⟨(some 59), .bin .eql (.tmp 58) (.const .nilIface) (some (.interface #[("Error", 145)])), none⟩,
    ⟨(some 60), .mov (.tmp 59), none⟩,
    ⟨(some 61), .mov (.tmp 9), (some (60, true))⟩,
    ⟨(some 62), .call 150 [(.tmp 61), (.const (.int .i64 10))], (some (60, true))⟩,
    ⟨(some 63), .mov (.tmp 1), (some (60, true))⟩,
    ⟨(some 64), .bin .eql (.tmp 62) (.tmp 63) (some .string), (some (60, true))⟩,
    ⟨(some 65), .pick (.tmp 60) (.tmp 64) (.const (.bool false)), none⟩,
    ⟨(some 66), .mov (.tmp 65), none⟩,
    ⟨(some 67), .mov (.tmp 0), (some (66, true))⟩,
    ⟨(some 68), .mov (.tmp 9), (some (66, true))⟩,
    ⟨(some 69), .call 168 [(.tmp 67), (.tmp 68)], (some (66, true))⟩,
    ⟨(some 70), .pick (.tmp 66) (.tmp 69) (.const (.bool false)), none⟩,
    ⟨(some 4), .mov (.tmp 57), none⟩,
    ⟨(some 5), .mov (.tmp 70), none⟩])
  .ret))))⟩
theorem F116_ok : compF Tryz.prog 116 = some F116 := by kernel_rfl
/-- colonnade/kind.letter -/
def F117 : FC := ⟨29, [.tmp 2],
  (.seq (.ops [⟨(some 2), .mov (.const (.bool false)), none⟩])
  (.seq (.ops [⟨(some 3), .mov (.tmp 0), none⟩,
    ⟨(some 4), .bin .geq (.tmp 3) (.const (.int .u8 97)) (some (.int .u8)), none⟩,
    ⟨(some 5), .mov (.tmp 4), none⟩,
    ⟨(some 6), .mov (.tmp 0), (some (5, true))⟩,
    ⟨(some 7), .bin .leq (.tmp 6) (.const (.int .u8 122)) (some (.int .u8)), (some (5, true))⟩,
    ⟨(some 8), .pick (.tmp 5) (.tmp 7) (.const (.bool false)), none⟩,
    ⟨(some 9), .mov (.tmp 8), none⟩,
    ⟨(some 10), .mov (.tmp 0), (some (9, false))⟩,
    ⟨(some 11), .bin .geq (.tmp 10) (.const (.int .u8 65)) (some (.int .u8)), (some (9, false))⟩,
    ⟨(some 12), .mov (.tmp 11), (some (9, false))⟩,
    ⟨(some 13), .mov (.tmp 0), (some (12, true))⟩,
    ⟨(some 14), .bin .leq (.tmp 13) (.const (.int .u8 90)) (some (.int .u8)), (some (12, true))⟩,
    ⟨(some 15), .pick (.tmp 12) (.tmp 14) (.const (.bool false)), (some (9, false))⟩,
    ⟨(some 16), .pick (.tmp 9) (.const (.bool true)) (.tmp 15), none⟩,
    ⟨(some 17), .mov (.tmp 16), none⟩,
    ⟨(some 18), .mov (.tmp 0), (some (17, false))⟩,
    ⟨(some 19), .bin .geq (.tmp 18) (.const (.int .u8 48)) (some (.int .u8)), (some (17, false))⟩,
    ⟨(some 20), .mov (.tmp 19), (some (17, false))⟩,
    ⟨(some 21), .mov (.tmp 0), (some (20, true))⟩,
    ⟨(some 22), .bin .leq (.tmp 21) (.const (.int .u8 57)) (some (.int .u8)), (some (20, true))⟩,
    ⟨(some 23), .pick (.tmp 20) (.tmp 22) (.const (.bool false)), (some (17, false))⟩,
    ⟨(some 24), .pick (.tmp 17) (.const (.bool true)) (.tmp 23), none⟩,
    ⟨(some 25), .mov (.tmp 24), none⟩,
    ⟨(some 26), .mov (.tmp 0), (some (25, false))⟩,
    ⟨(some 27), .bin .eql (.tmp 26) (.const (.int .u8 95)) (some (.int .u8)), (some (25, false))⟩,
    ⟨(some 28), .pick (.tmp 25) (.const (.bool true)) (.tmp 27), none⟩,
    ⟨(some 2), .mov (.tmp 28), none⟩])
  .ret))⟩
theorem F117_ok : compF Tryz.prog 117 = some F117 := by kernel_rfl
/-- slices.IndexFunc[[]colonnade/api.Field,colonnade/api.Field] -/
def F118 : FC := ⟨19, [.tmp 4],
  (.seq (.ops [⟨(some 4), .mov (.const (.int .i64 0)), none⟩])
  (.seq (.seq (.ops [⟨(some 6), .mov (.tmp 0), none⟩,
    ⟨(some 7), .len 1 (.tmp 6), none⟩,
    ⟨(some 8), .mov (.const (.int .i64 0)), none⟩])
  (.block 0 (.loop (.seq (.ops [⟨(some 9), .bin .lss (.tmp 8) (.tmp 7) (some (.int .i64)), none⟩])
  (.seq (.cond (.tmp 9)
  .skip
  (.exit 0))
  (.seq (.block 1 (.seq (.ops [⟨(some 10), .mov (.tmp 8), none⟩,
    ⟨(some 5), .mov (.tmp 10), none⟩])
  (.seq (.ops [⟨(some 11), .mov (.tmp 1), none⟩,
    ⟨(some 12), .mov (.tmp 0), none⟩,
    ⟨(some 13), .mov (.tmp 5), none⟩,
    ⟨(some 14), .indexAddr 7 (.tmp 12) (.tmp 13), none⟩,
    ⟨(some 15), .load true 7 (.tmp 14), none⟩,
    ⟨(some 16), .callv (.tmp 11) [(.tmp 15)], none⟩])
  (.cond (.tmp 16)
  (.seq (.ops [⟨(some 17), .mov (.tmp 5), none⟩,
    ⟨(some 4), .mov (.tmp 17), none⟩])
  .ret)
  .skip))))
  (.ops [⟨(some 18), .bin .add (.tmp 8) (.const (.int .i64 1)) (some (.int .i64)), none⟩,
    ⟨(some 8), .mov (.tmp 18), none⟩])))))))
  (.seq (.ops [⟨(some 4), .mov (.const (.int .i64 (-1))), none⟩])
  .ret)))⟩
theorem F118_ok : compF Tryz.prog 118 = some F118 := by kernel_rfl
/-- colonnade/kind.known -/
def F119 : FC := ⟨9, [.tmp 2],
  (.seq (.ops [⟨(some 2), .mov (.const (.bool false)), none⟩])
  (.seq (.ops [⟨(some 3), .mov (.tmp 0), none⟩,
    ⟨(some 4), .bin .geq (.tmp 3) (.const (.int .i64 1)) (some (.int .i64)), none⟩,
    ⟨(some 5), .mov (.tmp 4), none⟩,
    ⟨(some 6), .mov (.tmp 0), (some (5, true))⟩,
    ⟨(some 7), .bin .leq (.tmp 6) (.const (.int .i64 20)) (some (.int .i64)), (some (5, true))⟩,
    ⟨(some 8), .pick (.tmp 5) (.tmp 7) (.const (.bool false)), none⟩,
    ⟨(some 2), .mov (.tmp 8), none⟩])
  .ret))⟩
theorem F119_ok : compF Tryz.prog 119 = some F119 := by kernel_rfl
/-- colonnade/build.based -/
def F132 : FC := ⟨15, [.cell 2 true 16],
  (.seq (.ops [⟨(some 1), .box (.tmp 0), none⟩,
    ⟨(some 2), .alloc [(.string ⟨#[]⟩), (.bool false), (.int .i64 0), (.int .i64 0), (.int .i64 0), (.int .i64 0), (.slice none 0 0), (.int .i64 0), (.int .i64 0), (.slice none 0 0), (.int .i64 0), (.bool false), (.int .i64 0), (.string ⟨#[]⟩), (.slice none 0 0), (.bool false)], none⟩])
  (.seq (.ops [⟨(some 6), .load true 7 (.tmp 1), none⟩,
    ⟨(some 7), .call 178 [(.tmp 6)], none⟩,
    ⟨(some 5), .mov (.tmp 7), none⟩,
    ⟨(some 8), .extract (.tmp 5) 0, none⟩,
    ⟨(some 9), .extract (.tmp 5) 1, none⟩,
    ⟨(some 3), .alloc [(.bool false), (.int .i64 0), (.string ⟨#[]⟩), (.slice none 0 0)], none⟩,
    ⟨none, .store 4 (.tmp 3) (.tmp 8), none⟩,
    ⟨(some 4), .mov (.tmp 9), none⟩])
  (.seq (.ops [⟨(some 10), .load true 7 (.tmp 1), none⟩,
    ⟨(some 11), .load true 4 (.tmp 3), none⟩,
    ⟨(some 12), .mov (.tmp 4), none⟩,
    ⟨(some 13), .bin .eql (.tmp 12) (.const (.int .i64 0)) (some (.int .i64)), none⟩,
    ⟨(some 14), .build [(.string ⟨#[]⟩), (.bool false), (.int .i64 0), (.int .i64 0), (.int .i64 0), (.int .i64 0), (.slice none 0 0), (.int .i64 0), (.int .i64 0), (.slice none 0 0), (.int .i64 0), (.bool false), (.int .i64 0), (.string ⟨#[]⟩), (.slice none 0 0), (.bool false)] [(0, 7, (.tmp 10)), (11, 4, (.tmp 11)), (15, 1, (.tmp 13))], none⟩,
    ⟨none, .store 16 (.tmp 2) (.tmp 14), none⟩])
  .ret)))⟩
theorem F132_ok : compF Tryz.prog 132 = some F132 := by kernel_rfl
/-- colonnade/value.Fits -/
def F133 : FC := ⟨14, [.tmp 4],
  (.seq (.ops [⟨(some 2), .box (.tmp 0), none⟩,
    ⟨(some 3), .box (.tmp 1), none⟩,
    ⟨(some 4), .mov (.const (.int .i64 0)), none⟩])
  (.seq (.block 0 (.seq (.ops [⟨(some 6), .load true 7 (.tmp 2), none⟩,
    ⟨(some 7), .call 70 [(.tmp 6)], none⟩,
    ⟨(some 8), .un .not (.tmp 7), none⟩,
    ⟨(some 5), .mov (.tmp 8), none⟩])
  (.cond (.tmp 5)
  (.seq (.ops [⟨(some 4), .mov (.const (.int .i64 5)), none⟩])
  .ret)
  (.seq (.ops [⟨(some 10), .load true 7 (.tmp 2), none⟩,
    ⟨(some 11), .load true 4 (.tmp 3), none⟩,
    ⟨(some 12), .call 101 [(.tmp 10), (.tmp 11)], none⟩,
    ⟨(some 13), .un .not (.tmp 12), none⟩,
    ⟨(some 9), .mov (.tmp 13), none⟩])
  (.cond (.tmp 9)
  (.seq (.ops [⟨(some 4), .mov (.const (.int .i64 7)), none⟩])
  .ret)
  .skip)))))
  (.seq (.ops [⟨(some 4), .mov (.const (.int .i64 0)), none⟩])
  .ret)))⟩
theorem F133_ok : compF Tryz.prog 133 = some F133 := by kernel_rfl
/-- colonnade/array.Check -/
def F135 : FC := ⟨19, [.cell 4 true 3],
  (.seq (.ops [⟨(some 2), .box (.tmp 0), none⟩,
    ⟨(some 3), .box (.tmp 1), none⟩,
    ⟨(some 4), .alloc [(.int .i64 0), (.slice none 0 0), (.int .i64 0)], none⟩])
  (.seq (.seq (.ops [⟨(some 7), .load true 7 (.tmp 2), none⟩,
    ⟨(some 8), .call 106 [(.tmp 7)], none⟩,
    ⟨(some 9), .field false 0 1 (.tmp 8), none⟩,
    ⟨(some 10), .bin .neq (.tmp 9) (.const (.int .i64 0)) (some (.int .i64)), none⟩])
  (.cond (.tmp 10)
  (.seq (.ops [⟨(some 11), .call 180 [(.const (.int .i64 5)), (.const (.int .i64 0))], none⟩,
    ⟨none, .store 3 (.tmp 4) (.tmp 11), none⟩])
  .ret)
  .skip))
  (.seq (.ops [⟨(some 13), .load true 7 (.tmp 2), none⟩,
    ⟨(some 14), .load true 6 (.tmp 3), none⟩,
    ⟨(some 15), .call 181 [(.tmp 13), (.tmp 14)], none⟩,
    ⟨(some 12), .mov (.tmp 15), none⟩,
    ⟨(some 16), .extract (.tmp 12) 0, none⟩,
    ⟨(some 17), .extract (.tmp 12) 1, none⟩,
    ⟨(some 5), .alloc [(.int .i64 0), (.slice none 0 0), (.int .i64 0)], none⟩,
    ⟨none, .store 3 (.tmp 5) (.tmp 16), none⟩,
    ⟨(some 6), .mov (.tmp 17), none⟩])
  (.seq (.ops [⟨(some 18), .load true 3 (.tmp 5), none⟩,
    ⟨none, .store 3 (.tmp 4) (.tmp 18), none⟩])
  .ret))))⟩
theorem F135_ok : compF Tryz.prog 135 = some F135 := by kernel_rfl
/-- colonnade/array.opened -/
def F136 : FC := ⟨20, [.tmp 6],
  (.seq (.ops [⟨(some 3), .box (.tmp 0), none⟩,
    ⟨(some 4), .box (.tmp 1), none⟩,
    ⟨(some 6), .mov (.const (.pointer none)), none⟩])
  (.seq (.ops [⟨(some 7), .load true 7 (.tmp 3), none⟩,
    ⟨(some 8), .load true 6 (.tmp 4), none⟩,
    ⟨(some 9), .fieldAddr 1 (.tmp 4), none⟩,
    ⟨(some 10), .load false 1 (.tmp 9), none⟩,
    ⟨(some 11), .fieldAddr 0 (.tmp 4), none⟩,
    ⟨(some 12), .load false 1 (.tmp 11), none⟩,
    ⟨(some 13), .mov (.tmp 2), none⟩,
    ⟨(some 14), .fieldAddr 2 (.tmp 3), none⟩,
    ⟨(some 15), .fieldAddr 0 (.tmp 14), none⟩,
    ⟨(some 16), .load false 1 (.tmp 15), none⟩,
    ⟨(some 17), .call 182 [(.tmp 16)], none⟩,
    ⟨none, .again 12 false 1 (.tmp 11), none⟩,
    ⟨none, .again 10 false 1 (.tmp 9), none⟩,
    ⟨none, .again 8 true 6 (.tmp 4), none⟩,
    ⟨none, .again 7 true 7 (.tmp 3), none⟩,
    ⟨(some 18), .build [(.string ⟨#[]⟩), (.bool false), (.int .i64 0), (.int .i64 0), (.int .i64 0), (.int .i64 0), (.slice none 0 0), (.int .i64 0), (.int .i64 0), (.int .i64 0), (.slice none 0 0), (.slice none 0 0), (.slice none 0 0), (.int .i64 0), (.int .i64 0), (.pointer none), .nilIface] [(0, 7, (.tmp 7)), (7, 6, (.tmp 8)), (13, 1, (.tmp 10)), (14, 1, (.tmp 12)), (15, 1, (.tmp 13)), (16, 1, (.tmp 17))], none⟩,
    ⟨(some 19), .box (.tmp 18), none⟩,
    ⟨(some 6), .mov (.tmp 19), none⟩])
  .ret))⟩
theorem F136_ok : compF Tryz.prog 136 = some F136 := by kernel_rfl
/-- colonnade/array.copiedField -/
def F137 : FC := ⟨31, [.cell 2 true 7],
  (.seq (.ops [⟨(some 1), .box (.tmp 0), none⟩,
    ⟨(some 2), .alloc [(.string ⟨#[]⟩), (.bool false), (.int .i64 0), (.int .i64 0), (.int .i64 0), (.int .i64 0), (.slice none 0 0)], none⟩])
  (.seq (.ops [⟨(some 4), .fieldAddr 2 (.tmp 1), none⟩,
    ⟨(some 5), .fieldAddr 4 (.tmp 4), none⟩,
    ⟨(some 6), .load false 1 (.tmp 5), none⟩,
    ⟨(some 7), .call 95 [(.tmp 6)], none⟩,
    ⟨(some 8), .fieldAddr 2 (.tmp 1), none⟩,
    ⟨(some 9), .fieldAddr 4 (.tmp 8), none⟩,
    ⟨none, .store 1 (.tmp 9) (.tmp 7), none⟩])
  (.seq (.seq (.ops [⟨(some 10), .fieldAddr 2 (.tmp 1), none⟩,
    ⟨(some 11), .fieldAddr 4 (.tmp 10), none⟩,
    ⟨(some 12), .load false 1 (.tmp 11), none⟩,
    ⟨(some 13), .len 1 (.tmp 12), none⟩,
    ⟨(some 14), .mov (.const (.int .i64 0)), none⟩])
  (.block 0 (.loop (.seq (.ops [⟨(some 15), .bin .lss (.tmp 14) (.tmp 13) (some (.int .i64)), none⟩])
  (.seq (.cond (.tmp 15)
  .skip
  (.exit 0))
  (.seq (.block 1 (.seq (.ops [⟨(some 16), .mov (.tmp 14), none⟩,
    ⟨(some 3), .mov (.tmp 16), none⟩])
  (.ops [⟨(some 17), .fieldAddr 2 (.tmp 1), none⟩,
    ⟨(some 18), .fieldAddr 4 (.tmp 17), none⟩,
    ⟨(some 19), .load false 1 (.tmp 18), none⟩,
    ⟨(some 20), .mov (.tmp 3), none⟩,
    ⟨(some 21), .fieldAddr 2 (.tmp 1), none⟩,
    ⟨(some 22), .fieldAddr 4 (.tmp 21), none⟩,
    ⟨(some 23), .load false 1 (.tmp 22), none⟩,
    ⟨(some 24), .mov (.tmp 3), none⟩,
    ⟨(some 25), .indexAddr 7 (.tmp 23) (.tmp 24), none⟩,
    ⟨(some 26), .load true 7 (.tmp 25), none⟩,
    ⟨(some 27), .call 137 [(.tmp 26)], none⟩,
    ⟨none, .again 19 false 1 (.tmp 18), none⟩,
    ⟨(some 28), .indexAddr 7 (.tmp 19) (.tmp 20), none⟩,
    ⟨none, .store 7 (.tmp 28) (.tmp 27), none⟩])))
  (.ops [⟨(some 29), .bin .add (.tmp 14) (.const (.int .i64 1)) (some (.int .i64)), none⟩,
    ⟨(some 14), .mov (.tmp 29), none⟩])))))))
  (.seq (.ops [⟨(some 30), .load true 7 (.tmp 1), none⟩,
    ⟨none, .store 7 (.tmp 2) (.tmp 30), none⟩])
  .ret))))⟩
theorem F137_ok : compF Tryz.prog 137 = some F137 := by kernel_rfl
/-- colonnade/array.copied -/
def F138 : FC := ⟨16, [.cell 2 true 6],
  (.seq (.ops [⟨(some 1), .box (.tmp 0), none⟩,
    ⟨(some 2), .alloc [(.int .i64 0), (.int .i64 0), (.int .i64 0), (.slice none 0 0), (.slice none 0 0), (.slice none 0 0)], none⟩])
  (.seq (.ops [⟨(some 3), .fieldAddr 3 (.tmp 1), none⟩,
    ⟨(some 4), .load false 1 (.tmp 3), none⟩,
    ⟨(some 5), .call 183 [(.tmp 4)], none⟩,
    ⟨(some 6), .fieldAddr 3 (.tmp 1), none⟩,
    ⟨none, .store 1 (.tmp 6) (.tmp 5), none⟩])
  (.seq (.ops [⟨(some 7), .fieldAddr 4 (.tmp 1), none⟩,
    ⟨(some 8), .load false 1 (.tmp 7), none⟩,
    ⟨(some 9), .call 184 [(.tmp 8)], none⟩,
    ⟨(some 10), .fieldAddr 4 (.tmp 1), none⟩,
    ⟨none, .store 1 (.tmp 10) (.tmp 9), none⟩])
  (.seq (.ops [⟨(some 11), .fieldAddr 5 (.tmp 1), none⟩,
    ⟨(some 12), .load false 1 (.tmp 11), none⟩,
    ⟨(some 13), .call 184 [(.tmp 12)], none⟩,
    ⟨(some 14), .fieldAddr 5 (.tmp 1), none⟩,
    ⟨none, .store 1 (.tmp 14) (.tmp 13), none⟩])
  (.seq (.ops [⟨(some 15), .load true 6 (.tmp 1), none⟩,
    ⟨none, .store 6 (.tmp 2) (.tmp 15), none⟩])
  .ret)))))⟩
theorem F138_ok : compF Tryz.prog 138 = some F138 := by kernel_rfl
/-- (*colonnade/array.Array).value -/
def F141 : FC := ⟨21, [.cell 6 true 4],
  (.seq (.ops [⟨(some 6), .alloc [(.bool false), (.int .i64 0), (.string ⟨#[]⟩), (.slice none 0 0)], none⟩])
  (.seq (.seq (.ops [⟨(some 7), .mov (.tmp 0), none⟩,
    ⟨(some 8), .mov (.tmp 1), none⟩,
    ⟨(some 9), .call 185 [(.tmp 7), (.tmp 8)], none⟩])
  (.cond (.tmp 9)
  (.seq (.ops [⟨(some 10), .mov (.tmp 2), none⟩,
    ⟨(some 11), .call 186 [(.tmp 10), (.const (.int .i64 16))], none⟩])
  (.seq (.ops [⟨(some 12), .build [(.bool false), (.int .i64 0), (.string ⟨#[]⟩), (.slice none 0 0)] [(0, 1, (.const (.bool true)))], none⟩,
    ⟨none, .store 4 (.tmp 6) (.tmp 12), none⟩])
  .ret))
  .skip))
  (.seq (.ops [⟨(some 13), .mov (.tmp 0), none⟩,
    ⟨(some 14), .nilCheck (.tmp 13), none⟩,
    ⟨(some 15), .fieldAddr 16 (.tmp 14), none⟩,
    ⟨(some 16), .load false 1 (.tmp 15), none⟩,
    ⟨(some 17), .mov (.tmp 0), none⟩,
    ⟨(some 18), .mov (.tmp 1), none⟩,
    ⟨(some 19), .mov (.tmp 2), none⟩,
    ⟨(some 20), .invoke (.tmp 16) "colonnade/array.read" [(328, 370), (329, 377), (330, 380), (331, 381), (332, 382), (333, 384), (334, 386)] [(.tmp 17), (.tmp 18), (.tmp 19)], none⟩,
    ⟨none, .store 4 (.tmp 6) (.tmp 20), none⟩])
  .ret)))⟩
theorem F141_ok : compF Tryz.prog 141 = some F141 := by kernel_rfl
/-- (*colonnade/value.fitter).fits -/
def F142 : FC := ⟨219, [.tmp 6],
  (.seq (.ops [⟨(some 4), .box (.tmp 1), none⟩,
    ⟨(some 5), .box (.tmp 2), none⟩,
    ⟨(some 6), .mov (.const (.bool false)), none⟩])
  (.seq (.ops [⟨(some 8), .mov (.tmp 0), none⟩,
    ⟨(some 9), .nilCheck (.tmp 8), none⟩,
    ⟨(some 10), .fieldAddr 0 (.tmp 9), none⟩,
    ⟨(some 11), .load false 1 (.tmp 10), none⟩,
    ⟨(some 12), .bin .sub (.tmp 11) (.const (.int .i64 16)) (some (.int .i64)), none⟩,
    ⟨(some 13), .nilCheck (.tmp 8), none⟩,
    ⟨(some 14), .fieldAddr 0 (.tmp 13), none⟩,
    ⟨none, .store 1 (.tmp 14) (.tmp 12), none⟩])
  (.seq (.seq (.ops [⟨(some 15), .mov (.tmp 0), none⟩,
    ⟨(some 16), .nilCheck (.tmp 15), none⟩,
    ⟨(some 17), .fieldAddr 0 (.tmp 16), none⟩,
    ⟨(some 18), .load false 1 (.tmp 17), none⟩,
    ⟨(some 19), .bin .lss (.tmp 18) (.const (.int .i64 0)) (some (.int .i64)), none⟩,
    ⟨(some 20), .mov (.tmp 19), none⟩,
    ⟨(some 21), .fieldAddr 2 (.tmp 5), (some (20, false))⟩,
    ⟨(some 22), .load false 1 (.tmp 21), (some (20, false))⟩,
    ⟨(some 23), .len 0 (.tmp 22), (some (20, false))⟩,
    ⟨(some 24), .mov (.tmp 0), (some (20, false))⟩,
    ⟨(some 25), .nilCheck (.tmp 24), (some (20, false))⟩,
    ⟨(some 26), .fieldAddr 0 (.tmp 25), (some (20, false))⟩,
    ⟨(some 27), .load false 1 (.tmp 26), (some (20, false))⟩,
    ⟨(some 28), .bin .gtr (.tmp 23) (.tmp 27) (some (.int .i64)), (some (20, false))⟩,
    ⟨(some 29), .pick (.tmp 20) (.const (.bool true)) (.tmp 28), none⟩,
    ⟨(some 30), .mov (.tmp 29), none⟩,
    ⟨(some 31), .fieldAddr 3 (.tmp 5), (some (30, false))⟩,
    ⟨(some 32), .load false 1 (.tmp 31), (some (30, false))⟩,
    ⟨(some 33), .len 1 (.tmp 32), (some (30, false))⟩,
    ⟨(some 34), .bin .gtr (.tmp 33) (.const (.int .i64 4096)) (some (.int .i64)), (some (30, false))⟩,
    ⟨(some 35), .pick (.tmp 30) (.const (.bool true)) (.tmp 34), none⟩])
  (.cond (.tmp 35)
  (.seq (.ops [⟨(some 6), .mov (.const (.bool false)), none⟩])
  .ret)
  .skip))
  (.seq (.ops [⟨(some 36), .mov (.tmp 0), none⟩,
    ⟨(some 37), .nilCheck (.tmp 36), none⟩,
    ⟨(some 38), .fieldAddr 0 (.tmp 37), none⟩,
    ⟨(some 39), .load false 1 (.tmp 38), none⟩,
    ⟨(some 40), .fieldAddr 2 (.tmp 5), none⟩,
    ⟨(some 41), .load false 1 (.tmp 40), none⟩,
    ⟨(some 42), .len 0 (.tmp 41), none⟩,
    ⟨(some 43), .bin .sub (.tmp 39) (.tmp 42) (some (.int .i64)), none⟩,
    ⟨(some 44), .nilCheck (.tmp 36), none⟩,
    ⟨(some 45), .fieldAddr 0 (.tmp 44), none⟩,
    ⟨none, .store 1 (.tmp 45) (.tmp 43), none⟩])
  (.seq (.seq (.ops [⟨(some 46), .fieldAddr 0 (.tmp 5), none⟩,
    ⟨(some 47), .load false 1 (.tmp 46), none⟩])
  (.cond (.tmp 47)
  (.seq (.ops [⟨(some 48), .fieldAddr 1 (.tmp 5), none⟩,
    ⟨(some 49), .load false 1 (.tmp 48), none⟩,
    ⟨(some 50), .bin .eql (.tmp 49) (.const (.int .i64 0)) (some (.int .i64)), none⟩,
    ⟨(some 51), .mov (.tmp 50), none⟩,
    ⟨(some 52), .fieldAddr 2 (.tmp 5), (some (51, true))⟩,
    ⟨(some 53), .load false 1 (.tmp 52), (some (51, true))⟩,
    ⟨(some 54), .bin .eql (.tmp 53) (.const (.string ⟨#[]⟩)) (some .string), (some (51, true))⟩,
    ⟨(some 55), .pick (.tmp 51) (.tmp 54) (.const (.bool false)), none⟩,
    ⟨(some 56), .mov (.tmp 55), none⟩,
    ⟨(some 57), .fieldAddr 3 (.tmp 5), (some (56, true))⟩,
    ⟨(some 58), .load false 1 (.tmp 57), (some (56, true))⟩,
    ⟨(some 59), .len 1 (.tmp 58), (some (56, true))⟩,
    ⟨(some 60), .bin .eql (.tmp 59) (.const (.int .i64 0)) (some (.int .i64)), (some (56, true))⟩,
    ⟨(some 61), .pick (.tmp 56) (.tmp 60) (.const (.bool false)), none⟩,
    ⟨(some 62), .mov (.tmp 61), none⟩,
    ⟨(some 63), .load true 7 (.tmp 4), (some (62, true))⟩,
    ⟨(some 64), .call 110 [(.tmp 63)], (some (62, true))⟩,
    ⟨(some 65), .pick (.tmp 62) (.tmp 64) (.const (.bool false)), none⟩,
    ⟨(some 6), .mov (.tmp 65), none⟩])
  .ret)
  .skip))
  (.seq (.ops [⟨(some 66), .fieldAddr 2 (.tmp 4), none⟩,
    ⟨(some 67), .load true 5 (.tmp 66), none⟩,
    ⟨(some 7), .alloc [(.int .i64 0), (.int .i64 0), (.int .i64 0), (.int .i64 0), (.slice none 0 0)], none⟩,
    ⟨none, .store 5 (.tmp 7) (.tmp 67), none⟩])
  (.seq (.seq (.ops [⟨(some 68), .fieldAddr 0 (.tmp 7), none⟩,
    ⟨(some 69), .load false 1 (.tmp 68), none⟩])
  (.block 0 (.seq (.seq (.ops [⟨(some 71), .bin .eql (.tmp 69) (.const (.int .i64 19)) (some (.int .i64)), none⟩,
    ⟨(some 70), .mov (.tmp 71), none⟩])
  (.cond (.tmp 70)
  .skip
  (.ops [⟨(some 72), .bin .eql (.tmp 69) (.const (.int .i64 20)) (some (.int .i64)), none⟩,
    ⟨(some 70), .mov (.tmp 72), none⟩])))
  (.cond (.tmp 70)
  (.seq (.ops [⟨(some 73), .mov (.tmp 0), none⟩,
    ⟨(some 74), .nilCheck (.tmp 73), none⟩,
    ⟨(some 75), .fieldAddr 0 (.tmp 74), none⟩,
    ⟨(some 76), .load false 1 (.tmp 75), none⟩,
    ⟨(some 77), .fieldAddr 2 (.tmp 5), none⟩,
    ⟨(some 78), .load false 1 (.tmp 77), none⟩,
    ⟨(some 79), .len 0 (.tmp 78), none⟩,
    ⟨(some 80), .bin .add (.const (.int .i64 16)) (.tmp 79) (some (.int .i64)), none⟩,
    ⟨(some 81), .bin .add (.tmp 76) (.tmp 80) (some (.int .i64)), none⟩,
    ⟨(some 82), .nilCheck (.tmp 73), none⟩,
    ⟨(some 83), .fieldAddr 0 (.tmp 82), none⟩,
    ⟨none, .store 1 (.tmp 83) (.tmp 81), none⟩])
  (.seq (.ops [⟨(some 84), .mov (.tmp 0), none⟩,
    ⟨(some 85), .fieldAddr 4 (.tmp 7), none⟩,
    ⟨(some 86), .load false 1 (.tmp 85), none⟩,
    ⟨(some 87), .indexAddr 7 (.tmp 86) (.const (.int .i64 0)), none⟩,
    ⟨(some 88), .load true 7 (.tmp 87), none⟩,
    ⟨(some 89), .load true 4 (.tmp 5), none⟩,
    ⟨(some 90), .call 142 [(.tmp 84), (.tmp 88), (.tmp 89)], none⟩,
    ⟨(some 6), .mov (.tmp 90), none⟩])
  .ret))
  (.seq (.ops [⟨(some 92), .bin .eql (.tmp 69) (.const (.int .i64 18)) (some (.int .i64)), none⟩,
    ⟨(some 91), .mov (.tmp 92), none⟩])
  (.cond (.tmp 91)
  (.seq (.ops [⟨(some 93), .fieldAddr 2 (.tmp 5), none⟩,
    ⟨(some 94), .load false 1 (.tmp 93), none⟩,
    ⟨(some 95), .bin .eql (.tmp 94) (.const (.string ⟨#[]⟩)) (some .string), none⟩,
    ⟨(some 96), .mov (.tmp 95), none⟩,
    ⟨(some 97), .fieldAddr 1 (.tmp 5), (some (96, true))⟩,
    ⟨(some 98), .load false 1 (.tmp 97), (some (96, true))⟩,
    ⟨(some 99), .bin .geq (.tmp 98) (.const (.int .i64 0)) (some (.int .i64)), (some (96, true))⟩,
    ⟨(some 100), .pick (.tmp 96) (.tmp 99) (.const (.bool false)), none⟩,
    ⟨(some 101), .mov (.tmp 100), none⟩,
    ⟨(some 102), .fieldAddr 1 (.tmp 5), (some (101, true))⟩,
    ⟨(some 103), .load false 1 (.tmp 102), (some (101, true))⟩,
    ⟨(some 104), .fieldAddr 4 (.tmp 7), (some (101, true))⟩,
    ⟨(some 105), .load false 1 (.tmp 104), (some (101, true))⟩,
    ⟨(some 106), .len 1 (.tmp 105), (some (101, true))⟩,
    ⟨(some 107), .bin .lss (.tmp 103) (.tmp 106) (some (.int .i64)), (some (101, true))⟩,
    ⟨(some 108), .pick (.tmp 101) (.tmp 107) (.const (.bool false)), none⟩,
    ⟨(some 109), .mov (.tmp 108), none⟩,
    ⟨(some 110), .fieldAddr 3 (.tmp 5), (some (109, true))⟩,
    ⟨(some 111), .load false 1 (.tmp 110), (some (109, true))⟩,
    ⟨(some 112), .len 1 (.tmp 111), (some (109, true))⟩,
    ⟨(some 113), .bin .eql (.tmp 112) (.const (.int .i64 1)) (some (.int .i64)), (some (109, true))⟩,
    ⟨(some 114), .pick (.tmp 109) (.tmp 113) (.const (.bool false)), none⟩,
    ⟨(some 115), .mov (.tmp 114), none⟩,
    ⟨(some 116), .mov (.tmp 0), (some (115, true))⟩,
    ⟨(some 117), .fieldAddr 4 (.tmp 7), (some (115, true))⟩,
    ⟨(some 118), .load false 1 (.tmp 117), (some (115, true))⟩,
    ⟨(some 119), .fieldAddr 1 (.tmp 5), (some (115, true))⟩,
    ⟨(some 120), .load false 1 (.tmp 119), (some (115, true))⟩,
    ⟨(some 121), .indexAddr 7 (.tmp 118) (.tmp 120), (some (115, true))⟩,
    ⟨(some 122), .load true 7 (.tmp 121), (some (115, true))⟩,
    ⟨(some 123), .fieldAddr 3 (.tmp 5), (some (115, true))⟩,
    ⟨(some 124), .load false 1 (.tmp 123), (some (115, true))⟩,
    ⟨(some 125), .indexAddr 4 (.tmp 124) (.const (.int .i64 0)), (some (115, true))⟩,
    ⟨(some 126), .load true 4 (.tmp 125), (some (115, true))⟩,
    ⟨(some 127), .call 142 [(.tmp 116), (.tmp 122), (.tmp 126)], (some (115, true))⟩,
    ⟨(some 128), .pick (.tmp 115) (.tmp 127) (.const (.bool false)), none⟩,
    ⟨(some 6), .mov (.tmp 128), none⟩])
  .ret)
  (.seq (.seq (.ops [⟨(some 130), .bin .eql (.tmp 69) (.const (.int .i64 15)) (some (.int .i64)), none⟩,
    ⟨(some 129), .mov (.tmp 130), none⟩])
  (.cond (.tmp 129)
  .skip
  (.seq (.ops [⟨(some 131), .bin .eql (.tmp 69) (.const (.int .i64 16)) (some (.int .i64)), none⟩,
    ⟨(some 129), .mov (.tmp 131), none⟩])
  (.cond (.tmp 129)
  .skip
  (.ops [⟨(some 132), .bin .eql (.tmp 69) (.const (.int .i64 17)) (some (.int .i64)), none⟩,
    ⟨(some 129), .mov (.tmp 132), none⟩])))))
  (.cond (.tmp 129)
  (.seq (.ops [⟨(some 133), .fieldAddr 1 (.tmp 5), none⟩,
    ⟨(some 134), .load false 1 (.tmp 133), none⟩,
    ⟨(some 135), .bin .eql (.tmp 134) (.const (.int .i64 0)) (some (.int .i64)), none⟩,
    ⟨(some 136), .mov (.tmp 135), none⟩,
    ⟨(some 137), .fieldAddr 2 (.tmp 5), (some (136, true))⟩,
    ⟨(some 138), .load false 1 (.tmp 137), (some (136, true))⟩,
    ⟨(some 139), .bin .eql (.tmp 138) (.const (.string ⟨#[]⟩)) (some .string), (some (136, true))⟩,
    ⟨(some 140), .pick (.tmp 136) (.tmp 139) (.const (.bool false)), none⟩,
    ⟨(some 141), .mov (.tmp 140), none⟩,
    ⟨(some 142), .mov (.tmp 0), (some (141, true))⟩,
    ⟨(some 143), .load true 5 (.tmp 7), (some (141, true))⟩,
    ⟨(some 144), .fieldAddr 3 (.tmp 5), (some (141, true))⟩,
    ⟨(some 145), .load false 1 (.tmp 144), (some (141, true))⟩,
    ⟨(some 146), .call 187 [(.tmp 142), (.tmp 143), (.tmp 145)], (some (141, true))⟩,
    ⟨(some 147), .pick (.tmp 141) (.tmp 146) (.const (.bool false)), none⟩,
    ⟨(some 6), .mov (.tmp 147), none⟩])
  .ret)
  (.seq (.seq (.ops [⟨(some 149), .bin .eql (.tmp 69) (.const (.int .i64 12)) (some (.int .i64)), none⟩,
    ⟨(some 148), .mov (.tmp 149), none⟩])
  (.cond (.tmp 148)
  .skip
  (.seq (.ops [⟨(some 150), .bin .eql (.tmp 69) (.const (.int .i64 13)) (some (.int .i64)), none⟩,
    ⟨(some 148), .mov (.tmp 150), none⟩])
  (.cond (.tmp 148)
  .skip
  (.ops [⟨(some 151), .bin .eql (.tmp 69) (.const (.int .i64 14)) (some (.int .i64)), none⟩,
    ⟨(some 148), .mov (.tmp 151), none⟩])))))
  (.cond (.tmp 148)
  (.seq (.ops [⟨(some 152), .fieldAddr 1 (.tmp 5), none⟩,
    ⟨(some 153), .load false 1 (.tmp 152), none⟩,
    ⟨(some 154), .bin .eql (.tmp 153) (.const (.int .i64 0)) (some (.int .i64)), none⟩,
    ⟨(some 155), .mov (.tmp 154), none⟩,
    ⟨(some 156), .fieldAddr 3 (.tmp 5), (some (155, true))⟩,
    ⟨(some 157), .load false 1 (.tmp 156), (some (155, true))⟩,
    ⟨(some 158), .len 1 (.tmp 157), (some (155, true))⟩,
    ⟨(some 159), .bin .eql (.tmp 158) (.const (.int .i64 0)) (some (.int .i64)), (some (155, true))⟩,
    ⟨(some 160), .pick (.tmp 155) (.tmp 159) (.const (.bool false)), none⟩,
    ⟨(some 161), .mov (.tmp 160), none⟩,
    ⟨(some 162), .fieldAddr 0 (.tmp 7), (some (161, true))⟩,
    ⟨(some 163), .load false 1 (.tmp 162), (some (161, true))⟩,
    ⟨(some 164), .bin .neq (.tmp 163) (.const (.int .i64 12)) (some (.int .i64)), (some (161, true))⟩,
    ⟨(some 165), .mov (.tmp 164), (some (161, true))⟩,
    ⟨(some 166), .fieldAddr 2 (.tmp 5), (some (165, false))⟩,
    ⟨(some 167), .load false 1 (.tmp 166), (some (165, false))⟩,
    ⟨(some 168), .call 36 [(.tmp 167)], (some (165, false))⟩,
    ⟨(some 169), .pick (.tmp 165) (.const (.bool true)) (.tmp 168), (some (161, true))⟩,
    ⟨(some 170), .pick (.tmp 161) (.tmp 169) (.const (.bool false)), none⟩,
    ⟨(some 171), .mov (.tmp 170), none⟩,
    ⟨(some 172), .fieldAddr 0 (.tmp 7), (some (171, true))⟩,
    ⟨(some 173), .load false 1 (.tmp 172), (some (171, true))⟩,
    ⟨(some 174), .bin .neq (.tmp 173) (.const (.int .i64 14)) (some (.int .i64)), (some (171, true))⟩,
    ⟨(some 175), .mov (.tmp 174), (some (171, true))⟩,
    ⟨(some 176), .fieldAddr 2 (.tmp 5), (some (175, false))⟩,
    ⟨(some 177), .load false 1 (.tmp 176), (some (175, false))⟩,
    ⟨(some 178), .len 0 (.tmp 177), (some (175, false))⟩,
    ⟨(some 179), .fieldAddr 1 (.tmp 7), (some (175, false))⟩,
    ⟨(some 180), .load false 1 (.tmp 179), (some (175, false))⟩,
    ⟨(some 181), .bin .eql (.tmp 178) (.tmp 180) (some (.int .i64)), (some (175, false))⟩,
    ⟨(some 182), .pick (.tmp 175) (.const (.bool true)) (.tmp 181), (some (171, true))⟩,
    ⟨(some 183), .pick (.tmp 171) (.tmp 182) (.const (.bool false)), none⟩,
    ⟨(some 6), .mov (.tmp 183), none⟩])
  .ret)
  .skip))))))))))
  (.seq (.seq (.ops [⟨(some 184), .fieldAddr 2 (.tmp 5), none⟩,
    ⟨(some 185), .load false 1 (.tmp 184), none⟩,
    ⟨(some 186), .bin .neq (.tmp 185) (.const (.string ⟨#[]⟩)) (some .string), none⟩,
    ⟨(some 187), .mov (.tmp 186), none⟩,
    ⟨(some 188), .fieldAddr 3 (.tmp 5), (some (187, false))⟩,
    ⟨(some 189), .load false 1 (.tmp 188), (some (187, false))⟩,
    ⟨(some 190), .len 1 (.tmp 189), (some (187, false))⟩,
    ⟨(some 191), .bin .gtr (.tmp 190) (.const (.int .i64 0)) (some (.int .i64)), (some (187, false))⟩,
    ⟨(some 192), .pick (.tmp 187) (.const (.bool true)) (.tmp 191), none⟩])
  (.cond (.tmp 192)
  (.seq (.ops [⟨(some 6), .mov (.const (.bool false)), none⟩])
  .ret)
  .skip))
  (.seq (.block 1 (.seq (.ops [⟨(some 194), .fieldAddr 0 (.tmp 7), none⟩,
    ⟨(some 195), .load false 1 (.tmp 194), none⟩,
    ⟨(some 196), .bin .eql (.tmp 195) (.const (.int .i64 2)) (some (.int .i64)), none⟩,
    ⟨(some 193), .mov (.tmp 196), none⟩])
  (.cond (.tmp 193)
  (.seq (.ops [⟨(some 197), .fieldAddr 1 (.tmp 5), none⟩,
    ⟨(some 198), .load false 1 (.tmp 197), none⟩,
    ⟨(some 199), .bin .eql (.tmp 198) (.const (.int .i64 0)) (some (.int .i64)), none⟩,
    ⟨(some 200), .mov (.tmp 199), none⟩,
    ⟨(some 201), .fieldAddr 1 (.tmp 5), (some (200, false))⟩,
    ⟨(some 202), .load false 1 (.tmp 201), (some (200, false))⟩,
    ⟨(some 203), .bin .eql (.tmp 202) (.const (.int .i64 1)) (some (.int .i64)), (some (200, false))⟩,
    ⟨(some 204), .pick (.tmp 200) (.const (.bool true)) (.tmp 203), none⟩,
    ⟨(some 6), .mov (.tmp 204), none⟩])
  .ret)
  (.seq (.ops [⟨(some 206), .fieldAddr 0 (.tmp 7), none⟩,
    ⟨(some 207), .load false 1 (.tmp 206), none⟩,
    ⟨(some 208), .bin .eql (.tmp 207) (.const (.int .i64 11)) (some (.int .i64)), none⟩,
    ⟨(some 205), .mov (.tmp 208), none⟩])
  (.cond (.tmp 205)
  (.seq (.ops [⟨(some 6), .mov (.const (.bool true)), none⟩])
  .ret)
  .skip)))))
  (.seq (.ops [⟨(some 209), .fieldAddr 0 (.tmp 7), none⟩,
    ⟨(some 210), .load false 1 (.tmp 209), none⟩,
    ⟨(some 211), .call 166 [(.tmp 210)], none⟩,
    ⟨(some 212), .mov (.tmp 211), none⟩,
    ⟨(some 213), .fieldAddr 0 (.tmp 7), (some (212, true))⟩,
    ⟨(some 214), .load false 1 (.tmp 213), (some (212, true))⟩,
    ⟨(some 215), .fieldAddr 1 (.tmp 5), (some (212, true))⟩,
    ⟨(some 216), .load false 1 (.tmp 215), (some (212, true))⟩,
    ⟨(some 217), .call 168 [(.tmp 214), (.tmp 216)], (some (212, true))⟩,
    ⟨(some 218), .pick (.tmp 212) (.tmp 217) (.const (.bool false)), none⟩,
    ⟨(some 6), .mov (.tmp 218), none⟩])
  .ret))))))))))⟩
theorem F142_ok : compF Tryz.prog 142 = some F142 := by kernel_rfl
/-- strconv.FormatInt -/
def F150 : FC := ⟨8, [.tmp 4],
  (.seq (.ops [⟨(some 4), .mov (.const (.string ⟨#[]⟩)), none⟩])
  (.seq (.ops [⟨(some 5), .mov (.tmp 0), none⟩,
    ⟨(some 6), .mov (.tmp 1), none⟩,
    ⟨(some 7), .call 192 [(.tmp 5), (.tmp 6)], none⟩,
    ⟨(some 4), .mov (.tmp 7), none⟩])
  .ret))⟩
theorem F150_ok : compF Tryz.prog 150 = some F150 := by kernel_rfl
/-- colonnade/value.floating -/
def F164 : FC := ⟨145, [.tmp 2, .tmp 3],
  (.seq (.ops [⟨(some 2), .mov (.const (.int .i64 0)), none⟩,
    ⟨(some 3), .mov (.const (.bool false)), none⟩])
  (.seq (.ops [⟨(some 21), .mov (.tmp 0), none⟩,
    ⟨(some 22), .call 203 [(.tmp 21), (.const (.string ⟨#[45]⟩))], none⟩,
    ⟨(some 20), .mov (.tmp 22), none⟩,
    ⟨(some 23), .extract (.tmp 20) 0, none⟩,
    ⟨(some 24), .extract (.tmp 20) 1, none⟩,
    ⟨(some 4), .mov (.tmp 23), none⟩,
    ⟨(some 5), .mov (.tmp 24), none⟩])
  (.seq (.ops [⟨(some 6), .mov (.const (.int .u64 0)), none⟩])
  (.seq (.seq (.ops [⟨(some 25), .mov (.tmp 5), none⟩])
  (.cond (.tmp 25)
  (.ops [⟨(some 6), .mov (.const (.int .u64 9223372036854775808)), none⟩])
  .skip))
  (.seq (.seq (.ops [⟨(some 27), .mov (.tmp 4), none⟩,
    ⟨(some 28), .call 203 [(.tmp 27), (.const (.string ⟨#[110, 97, 110]⟩))], none⟩,
    ⟨(some 26), .mov (.tmp 28), none⟩,
    ⟨(some 29), .extract (.tmp 26) 0, none⟩,
    ⟨(some 30), .extract (.tmp 26) 1, none⟩,
    ⟨(some 7), .mov (.tmp 29), none⟩,
    ⟨(some 8), .mov (.tmp 30), none⟩])
  (.seq (.ops [⟨(some 31), .mov (.tmp 8), none⟩])
  (.cond (.tmp 31)
  (.seq (.ops [⟨(some 33), .mov (.tmp 7), none⟩,
    ⟨(some 34), .call 165 [(.tmp 33), (.const (.int .i64 16)), (.const (.int .i64 64))], none⟩,
    ⟨(some 32), .mov (.tmp 34), none⟩,
    ⟨(some 35), .extract (.tmp 32) 0, none⟩,
    ⟨(some 36), .extract (.tmp 32) 1, none⟩,
    ⟨(some 9), .mov (.tmp 35), none⟩,
    ⟨(some 10), .mov (.tmp 36), none⟩])
  (.seq (.ops [⟨(some 37), .mov (.tmp 6), none⟩,
    ⟨(some 38), .mov (.tmp 9), none⟩,
    ⟨(some 39), .bin .or (.const (.int .u64 9218868437227405312)) (.tmp 38) (some (.int .u64)), none⟩,
    ⟨(some 40), .bin .or (.tmp 37) (.tmp 39) (some (.int .u64)), none⟩,
    ⟨(some 6), .mov (.tmp 40), none⟩])
  (.seq (.ops [⟨(some 41), .mov (.tmp 6), none⟩,
    ⟨(some 42), .conv .i64 (.tmp 41), none⟩,
    ⟨(some 43), .mov (.tmp 10), none⟩,
    ⟨(some 44), .bin .eql (.tmp 43) (.const .nilIface) (some (.interface #[("Error", 145)])), none⟩,
    ⟨(some 45), .mov (.tmp 44), none⟩,
    ⟨(some 46), .mov (.tmp 9), (some (45, true))⟩,
    ⟨(some 47), .bin .lss (.tmp 46) (.const (.int .u64 4503599627370496)) (some (.int .u64)), (some (45, true))⟩,
    ⟨(some 48), .pick (.tmp 45) (.tmp 47) (.const (.bool false)), none⟩,
    ⟨(some 49), .mov (.tmp 48), none⟩,
    ⟨(some 50), .mov (.tmp 6), (some (49, true))⟩,
    ⟨(some 51), .conv .i64 (.tmp 50), (some (49, true))⟩,
    ⟨(some 52), .call 145 [(.tmp 51)], (some (49, true))⟩,
    ⟨(some 53), .mov (.tmp 0), (some (49, true))⟩,
    ⟨(some 54), .bin .eql (.tmp 52) (.tmp 53) (some .string), (some (49, true))⟩,
    ⟨(some 55), .pick (.tmp 49) (.tmp 54) (.const (.bool false)), none⟩,
    ⟨(some 2), .mov (.tmp 42), none⟩,
    ⟨(some 3), .mov (.tmp 55), none⟩])
  .ret)))
  .skip)))
  (.seq (.seq (.ops [⟨(some 56), .mov (.tmp 4), none⟩,
    ⟨(some 57), .bin .eql (.tmp 56) (.const (.string ⟨#[105, 110, 102]⟩)) (some .string), none⟩])
  (.cond (.tmp 57)
  (.seq (.ops [⟨(some 58), .mov (.tmp 6), none⟩,
    ⟨(some 59), .bin .or (.tmp 58) (.const (.int .u64 9218868437227405312)) (some (.int .u64)), none⟩,
    ⟨(some 6), .mov (.tmp 59), none⟩])
  (.seq (.ops [⟨(some 60), .mov (.tmp 6), none⟩,
    ⟨(some 61), .conv .i64 (.tmp 60), none⟩,
    ⟨(some 2), .mov (.tmp 61), none⟩,
    ⟨(some 3), .mov (.const (.bool true)), none⟩])
  .ret))
  .skip))
  (.seq (.seq (.ops [⟨(some 62), .mov (.tmp 4), none⟩,
    ⟨(some 63), .bin .eql (.tmp 62) (.const (.string ⟨#[48, 112, 48]⟩)) (some .string), none⟩])
  (.cond (.tmp 63)
  (.seq (.ops [⟨(some 64), .mov (.tmp 6), none⟩,
    ⟨(some 65), .conv .i64 (.tmp 64), none⟩,
    ⟨(some 2), .mov (.tmp 65), none⟩,
    ⟨(some 3), .mov (.const (.bool true)), none⟩])
  .ret)
  .skip))
  (.seq (.ops [⟨(some 67), .mov (.tmp 4), none⟩,
    ⟨(some 68), .call 204 [(.tmp 67), (.const (.string ⟨#[112]⟩))], none⟩,
    ⟨(some 66), .mov (.tmp 68), none⟩,
    ⟨(some 69), .extract (.tmp 66) 0, none⟩,
    ⟨(some 70), .extract (.tmp 66) 1, none⟩,
    ⟨(some 71), .extract (.tmp 66) 2, none⟩,
    ⟨(some 11), .mov (.tmp 69), none⟩,
    ⟨(some 12), .mov (.tmp 70), none⟩,
    ⟨(some 13), .mov (.tmp 71), none⟩])
  (.seq (.ops [⟨(some 73), .mov (.tmp 11), none⟩,
    ⟨(some 74), .call 165 [(.tmp 73), (.const (.int .i64 10)), (.const (.int .i64 64))], none⟩,
    ⟨(some 72), .mov (.tmp 74), none⟩,
    ⟨(some 75), .extract (.tmp 72) 0, none⟩,
    ⟨(some 76), .extract (.tmp 72) 1, none⟩,
    ⟨(some 14), .mov (.tmp 75), none⟩,
    ⟨(some 15), .mov (.tmp 76), none⟩])
  (.seq (.ops [⟨(some 78), .mov (.tmp 12), none⟩,
    ⟨(some 79), .call 205 [(.tmp 78)], none⟩,
    ⟨(some 77), .mov (.tmp 79), none⟩,
    ⟨(some 80), .extract (.tmp 77) 0, none⟩,
    ⟨(some 81), .extract (.tmp 77) 1, none⟩,
    ⟨(some 16), .mov (.tmp 80), none⟩,
    ⟨(some 17), .mov (.tmp 81), none⟩])
  (.seq (.seq (.ops [⟨(some 82), .mov (.tmp 13), none⟩,
    ⟨(some 83), .un .not (.tmp 82), none⟩,
    ⟨(some 84), .mov (.tmp 83), none⟩,
    ⟨(some 85), .mov (.tmp 15), (some (84, false))⟩,
    ⟨(some 86), .bin .neq (.tmp 85) (.const .nilIface) (some (.interface #[("Error", 145)])), (some (84, false))⟩,
    ⟨(some 87), .pick (.tmp 84) (.const (.bool true)) (.tmp 86), none⟩,
    ⟨(some 88), .mov (.tmp 87), none⟩,
    ⟨(some 89), .mov (.tmp 17), (some (88, false))⟩,
    ⟨(some 90), .bin .neq (.tmp 89) (.const .nilIface) (some (.interface #[("Error", 145)])), (some (88, false))⟩,
    ⟨(some 91), .pick (.tmp 88) (.const (.bool true)) (.tmp 90), none⟩,
    ⟨(some 92), .mov (.tmp 91), none⟩,
    ⟨(some 93), .mov (.tmp 14), (some (92, false))⟩,
    ⟨(some 94), .bin .eql (.tmp 93) (.const (.int .u64 0)) (some (.int .u64)), (some (92, false))⟩,
    ⟨(some 95), .pick (.tmp 92) (.const (.bool true)) (.tmp 94), none⟩,
    ⟨(some 96), .mov (.tmp 95), none⟩,
    ⟨(some 97), .mov (.tmp 14), (some (96, false))⟩,
    ⟨(some 98), .bin .geq (.tmp 97) (.const (.int .u64 9007199254740992)) (some (.int .u64)), (some (96, false))⟩,
    ⟨(some 99), .pick (.tmp 96) (.const (.bool true)) (.tmp 98), none⟩,
    ⟨(some 100), .mov (.tmp 99), none⟩,
    ⟨(some 101), .mov (.tmp 16), (some (100, false))⟩,
    ⟨(some 102), .bin .lss (.tmp 101) (.const (.int .i64 (-1074))) (some (.int .i64)), (some (100, false))⟩,
    ⟨(some 103), .pick (.tmp 100) (.const (.bool true)) (.tmp 102), none⟩,
    ⟨(some 104), .mov (.tmp 103), none⟩,
    ⟨(some 105), .mov (.tmp 16), (some (104, false))⟩,
    ⟨(some 106), .bin .gtr (.tmp 105) (.const (.int .i64 1023)) (some (.int .i64)), (some (104, false))⟩,
    ⟨(some 107), .pick (.tmp 104) (.const (.bool true)) (.tmp 106), none⟩])
  (.cond (.tmp 107)
  (.seq (.ops [⟨(some 2), .mov (.const (.int .i64 0)), none⟩,
    ⟨(some 3), .mov (.const (.bool false)), none⟩])
  .ret)
  .skip))
  (.seq (.ops [⟨(some 108), .mov (.tmp 14), none⟩,
    ⟨(some 109), .call 206 [(.tmp 108)], none⟩,
    ⟨(some 18), .mov (.tmp 109), none⟩])
  (.seq (.seq (.ops [⟨(some 110), .mov (.tmp 16), none⟩,
    ⟨(some 111), .mov (.tmp 18), none⟩,
    ⟨(some 112), .bin .add (.tmp 110) (.tmp 111) (some (.int .i64)), none⟩,
    ⟨(some 113), .bin .sub (.tmp 112) (.const (.int .i64 1)) (some (.int .i64)), none⟩,
    ⟨(some 19), .mov (.tmp 113), none⟩])
  (.block 0 (.seq (.ops [⟨(some 121), .mov (.tmp 19), none⟩,
    ⟨(some 122), .bin .gtr (.tmp 121) (.const (.int .i64 1023)) (some (.int .i64)), none⟩,
    ⟨(some 120), .mov (.tmp 122), none⟩])
  (.cond (.tmp 120)
  (.seq (.ops [⟨(some 2), .mov (.const (.int .i64 0)), none⟩,
    ⟨(some 3), .mov (.const (.bool false)), none⟩])
  .ret)
  (.seq (.ops [⟨(some 124), .mov (.tmp 19), none⟩,
    ⟨(some 125), .bin .geq (.tmp 124) (.const (.int .i64 (-1022))) (some (.int .i64)), none⟩,
    ⟨(some 123), .mov (.tmp 125), none⟩])
  (.cond (.tmp 123)
  (.ops [⟨(some 126), .mov (.tmp 6), none⟩,
    ⟨(some 127), .mov (.tmp 19), none⟩,
    ⟨(some 128), .bin .add (.tmp 127) (.const (.int .i64 1023)) (some (.int .i64)), none⟩,
    ⟨(some 129), .conv .u64 (.tmp 128), none⟩,
    ⟨(some 130), .bin .shl (.tmp 129) (.const (.int .u64 52)) (some (.int .u64)), none⟩,
    ⟨(some 131), .mov (.tmp 14), none⟩,
    ⟨(some 132), .mov (.tmp 18), none⟩,
    ⟨(some 133), .bin .sub (.const (.int .i64 53)) (.tmp 132) (some (.int .i64)), none⟩,
    ⟨(some 134), .bin .shl (.tmp 131) (.tmp 133) (some (.int .u64)), none⟩,
    ⟨(some 135), .bin .and (.tmp 134) (.const (.int .u64 4503599627370495)) (some (.int .u64)), none⟩,
    ⟨(some 136), .bin .or (.tmp 130) (.tmp 135) (some (.int .u64)), none⟩,
    ⟨(some 137), .bin .or (.tmp 126) (.tmp 136) (some (.int .u64)), none⟩,
    ⟨(some 6), .mov (.tmp 137), none⟩])
  (.ops [⟨(some 114), .mov (.tmp 6), none⟩,
    ⟨(some 115), .mov (.tmp 14), none⟩,
    ⟨(some 116), .mov (.tmp 16), none⟩,
    ⟨(some 117), .bin .add (.tmp 116) (.const (.int .i64 1074)) (some (.int .i64)), none⟩,
    ⟨(some 118), .bin .shl (.tmp 115) (.tmp 117) (some (.int .u64)), none⟩,
    ⟨(some 119), .bin .or (.tmp 114) (.tmp 118) (some (.int .u64)), none⟩,
    ⟨(some 6), .mov (.tmp 119), none⟩])))))))
  (.seq (.ops [⟨(some 138), .mov (.tmp 6), none⟩,
    ⟨(some 139), .conv .i64 (.tmp 138), none⟩,
    ⟨(some 140), .mov (.tmp 6), none⟩,
    ⟨(some 141), .conv .i64 (.tmp 140), none⟩,
    ⟨(some 142), .call 145 [(.tmp 141)], none⟩,
    ⟨(some 143), .mov (.tmp 0), none⟩,
    ⟨(some 144), .bin .eql (.tmp 142) (.tmp 143) (some .string), none⟩,
    ⟨(some 2), .mov (.tmp 139), none⟩,
    ⟨(some 3), .mov (.tmp 144), none⟩])
  .ret))))))))))))))⟩
theorem F164_ok : compF Tryz.prog 164 = some F164 := by kernel_rfl
/-- strconv.ParseUint -/
def F165 : FC := ⟨26, [.tmp 6, .tmp 7],
  (.seq (.ops [⟨(some 6), .mov (.const (.int .u64 0)), none⟩,
    ⟨(some 7), .mov (.const .nilIface), none⟩])
  (.seq (.ops [⟨(some 11), .mov (.tmp 0), none⟩,
    ⟨(some 12), .mov (.tmp 1), none⟩,
    ⟨(some 13), .mov (.tmp 2), none⟩,
    ⟨(some 14), .call 207 [(.tmp 11), (.tmp 12), (.tmp 13)], none⟩,
    ⟨(some 10), .mov (.tmp 14), none⟩,
    ⟨(some 15), .extract (.tmp 10) 0, none⟩,
    ⟨(some 16), .extract (.tmp 10) 1, none⟩,
    ⟨(some 8), .mov (.tmp 15), none⟩,
    ⟨(some 9), .mov (.tmp 16), none⟩])
  (.seq (.seq (.ops [⟨(some 17), .mov (.tmp 9), none⟩,
    ⟨(some 18), .bin .neq (.tmp 17) (.const .nilIface) (some (.interface #[("Error", 145)])), none⟩])
  (.cond (.tmp 18)
  (.seq (.ops [⟨(some 19), .mov (.tmp 8), none⟩,
    ⟨(some 20), .mov (.tmp 0), none⟩,
    ⟨(some 21), .mov (.tmp 1), none⟩,
    ⟨(some 22), .mov (.tmp 2), none⟩,
    ⟨(some 23), .mov (.tmp 9), none⟩,
    ⟨(some 24), .call 208 [(.const (.string ⟨#[80, 97, 114, 115, 101, 85, 105, 110, 116]⟩)), (.tmp 20), (.tmp 21), (.tmp 22), (.tmp 23)], none⟩,
    ⟨(some 6), .mov (.tmp 19), none⟩,
    ⟨(some 7), .mov (.tmp 24), none⟩])
  .ret)
  .skip))
  (.seq (.ops [⟨(some 25), .mov (.tmp 8), none⟩,
    ⟨(some 6), .mov (.tmp 25), none⟩,
    ⟨(some 7), .mov (.const .nilIface), none⟩])
  .ret))))⟩
theorem F165_ok : compF Tryz.prog 165 = some F165 := by kernel_rfl
/-- colonnade/value.whole -/
def F166 : FC := ⟨9, [.tmp 2],
  (.seq (.ops [⟨(some 2), .mov (.const (.bool false)), none⟩])
  (.seq (.ops [⟨(some 3), .mov (.tmp 0), none⟩,
    ⟨(some 4), .bin .geq (.tmp 3) (.const (.int .i64 3)) (some (.int .i64)), none⟩,
    ⟨(some 5), .mov (.tmp 4), none⟩,
    ⟨(some 6), .mov (.tmp 0), (some (5, true))⟩,
    ⟨(some 7), .bin .leq (.tmp 6) (.const (.int .i64 10)) (some (.int .i64)), (some (5, true))⟩,
    ⟨(some 8), .pick (.tmp 5) (.tmp 7) (.const (.bool false)), none⟩,
    ⟨(some 2), .mov (.tmp 8), none⟩])
  .ret))⟩
theorem F166_ok : compF Tryz.prog 166 = some F166 := by kernel_rfl
/-- strconv.ParseInt -/
def F167 : FC := ⟨25, [.tmp 6, .tmp 7],
  (.seq (.ops [⟨(some 6), .mov (.const (.int .i64 0)), none⟩,
    ⟨(some 7), .mov (.const .nilIface), none⟩])
  (.seq (.ops [⟨(some 10), .mov (.tmp 0), none⟩,
    ⟨(some 11), .mov (.tmp 1), none⟩,
    ⟨(some 12), .mov (.tmp 2), none⟩,
    ⟨(some 13), .call 209 [(.tmp 10), (.tmp 11), (.tmp 12)], none⟩,
    ⟨(some 9), .mov (.tmp 13), none⟩,
    ⟨(some 14), .extract (.tmp 9) 0, none⟩,
    ⟨(some 15), .extract (.tmp 9) 1, none⟩,
    ⟨(some 8), .mov (.tmp 14), none⟩,
    ⟨(some 7), .mov (.tmp 15), none⟩])
  (.seq (.seq (.ops [⟨(some 16), .mov (.tmp 7), none⟩,
    ⟨(some 17), .bin .neq (.tmp 16) (.const .nilIface) (some (.interface #[("Error", 145)])), none⟩])
  (.cond (.tmp 17)
  (.seq (.ops [⟨(some 18), .mov (.tmp 8), none⟩,
    ⟨(some 19), .mov (.tmp 0), none⟩,
    ⟨(some 20), .mov (.tmp 1), none⟩,
    ⟨(some 21), .mov (.tmp 2), none⟩,
    ⟨(some 22), .mov (.tmp 7), none⟩,
    ⟨(some 23), .call 208 [(.const (.string ⟨#[80, 97, 114, 115, 101, 73, 110, 116]⟩)), (.tmp 19), (.tmp 20), (.tmp 21), (.tmp 22)], none⟩,
    ⟨(some 6), .mov (.tmp 18), none⟩,
    ⟨(some 7), .mov (.tmp 23), none⟩])
  .ret)
  .skip))
  (.seq (.ops [⟨(some 24), .mov (.tmp 8), none⟩,
    ⟨(some 6), .mov (.tmp 24), none⟩,
    ⟨(some 7), .mov (.const .nilIface), none⟩])
  .ret))))⟩
theorem F167_ok : compF Tryz.prog 167 = some F167 := by kernel_rfl
/-- colonnade/value.ranged -/
def F168 : FC := ⟨37, [.tmp 4],
  (.seq (.ops [⟨(some 4), .mov (.const (.bool false)), none⟩])
  (.seq (.ops [⟨(some 8), .mov (.tmp 0), none⟩,
    ⟨(some 9), .call 210 [(.tmp 8)], none⟩,
    ⟨(some 7), .mov (.tmp 9), none⟩,
    ⟨(some 10), .extract (.tmp 7) 0, none⟩,
    ⟨(some 11), .extract (.tmp 7) 1, none⟩,
    ⟨(some 5), .mov (.tmp 10), none⟩,
    ⟨(some 6), .mov (.tmp 11), none⟩])
  (.seq (.block 0 (.seq (.ops [⟨(some 13), .mov (.tmp 5), none⟩,
    ⟨(some 14), .bin .eql (.tmp 13) (.const (.int .i64 64)) (some (.int .i64)), none⟩,
    ⟨(some 12), .mov (.tmp 14), none⟩])
  (.cond (.tmp 12)
  (.seq (.ops [⟨(some 4), .mov (.const (.bool true)), none⟩])
  .ret)
  (.seq (.ops [⟨(some 16), .mov (.tmp 6), none⟩,
    ⟨(some 15), .mov (.tmp 16), none⟩])
  (.cond (.tmp 15)
  (.seq (.ops [⟨(some 17), .mov (.tmp 1), none⟩,
    ⟨(some 18), .mov (.tmp 5), none⟩,
    ⟨(some 19), .bin .sub (.tmp 18) (.const (.int .i64 1)) (some (.int .i64)), none⟩,
    ⟨(some 20), .bin .shl (.const (.int .i64 (-1))) (.tmp 19) (some (.int .i64)), none⟩,
    ⟨(some 21), .bin .geq (.tmp 17) (.tmp 20) (some (.int .i64)), none⟩,
    ⟨(some 22), .mov (.tmp 21), none⟩,
    ⟨(some 23), .mov (.tmp 1), (some (22, true))⟩,
    ⟨(some 24), .mov (.tmp 5), (some (22, true))⟩,
    ⟨(some 25), .bin .sub (.tmp 24) (.const (.int .i64 1)) (some (.int .i64)), (some (22, true))⟩,
    ⟨(some 26), .bin .shl (.const (.int .i64 1)) (.tmp 25) (some (.int .i64)), (some (22, true))⟩,
    ⟨(some 27), .bin .lss (.tmp 23) (.tmp 26) (some (.int .i64)), (some (22, true))⟩,
    ⟨(some 28), .pick (.tmp 22) (.tmp 27) (.const (.bool false)), none⟩,
    ⟨(some 4), .mov (.tmp 28), none⟩])
  .ret)
  .skip)))))
  (.seq (.ops [⟨(some 29), .mov (.tmp 1), none⟩,
    ⟨(some 30), .bin .geq (.tmp 29) (.const (.int .i64 0)) (some (.int .i64)), none⟩,
    ⟨(some 31), .mov (.tmp 30), none⟩,
    ⟨(some 32), .mov (.tmp 1), (some (31, true))⟩,
    ⟨(some 33), .mov (.tmp 5), (some (31, true))⟩,
    ⟨(some 34), .bin .shl (.const (.int .i64 1)) (.tmp 33) (some (.int .i64)), (some (31, true))⟩,
    ⟨(some 35), .bin .lss (.tmp 32) (.tmp 34) (some (.int .i64)), (some (31, true))⟩,
    ⟨(some 36), .pick (.tmp 31) (.tmp 35) (.const (.bool false)), none⟩,
    ⟨(some 4), .mov (.tmp 36), none⟩])
  .ret))))⟩
theorem F168_ok : compF Tryz.prog 168 = some F168 := by kernel_rfl
end Go.Proofs.YtpgeonghlabnhaaGreatDoor.Lin
