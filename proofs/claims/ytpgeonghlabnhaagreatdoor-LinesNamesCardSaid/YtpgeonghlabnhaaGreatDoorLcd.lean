/- The code that the call meets, as instructions. No conditions. -/
import Derived.Test.YtpgeonghlabnhaaGreatDoorEm22
import Derived.Test.YtpgeonghlabnhaaGreatDoorProg
import Derived.KernelRfl
set_option linter.unusedVariables false
namespace Go.Proofs.YtpgeonghlabnhaaGreatDoor.Lin
open Go Go.Proofs.YtpgeonghlabnhaaGreatDoor Go.Proofs.YtpgeonghlabnhaaGreatDoor.Em
/-- colonnade/value.Zero -/
def F178 : FC := ⟨16, [.cell 2 true 4, .tmp 3],
  (.seq (.ops [⟨(some 1), .box (.tmp 0), none⟩,
    ⟨(some 2), .alloc [(.bool false), (.int .i64 0), (.string ⟨#[]⟩), (.slice none 0 0)], none⟩,
    ⟨(some 3), .mov (.const (.int .i64 0)), none⟩])
  (.seq (.block 0 (.seq (.ops [⟨(some 5), .load true 7 (.tmp 1), none⟩,
    ⟨(some 6), .call 70 [(.tmp 5)], none⟩,
    ⟨(some 7), .un .not (.tmp 6), none⟩,
    ⟨(some 4), .mov (.tmp 7), none⟩])
  (.cond (.tmp 4)
  (.seq (.ops [⟨(some 8), .build [(.bool false), (.int .i64 0), (.string ⟨#[]⟩), (.slice none 0 0)] [], none⟩,
    ⟨none, .store 4 (.tmp 2) (.tmp 8), none⟩,
    ⟨(some 3), .mov (.const (.int .i64 5)), none⟩])
  .ret)
  (.seq (.ops [⟨(some 10), .load true 7 (.tmp 1), none⟩,
    ⟨(some 11), .call 213 [(.tmp 10)], none⟩,
    ⟨(some 12), .bin .gtr (.tmp 11) (.const (.int .i64 4194304)) (some (.int .i64)), none⟩,
    ⟨(some 9), .mov (.tmp 12), none⟩])
  (.cond (.tmp 9)
  (.seq (.ops [⟨(some 13), .build [(.bool false), (.int .i64 0), (.string ⟨#[]⟩), (.slice none 0 0)] [], none⟩,
    ⟨none, .store 4 (.tmp 2) (.tmp 13), none⟩,
    ⟨(some 3), .mov (.const (.int .i64 3)), none⟩])
  .ret)
  .skip)))))
  (.seq (.ops [⟨(some 14), .load true 7 (.tmp 1), none⟩,
    ⟨(some 15), .call 214 [(.tmp 14)], none⟩,
    ⟨none, .store 4 (.tmp 2) (.tmp 15), none⟩,
    ⟨(some 3), .mov (.const (.int .i64 0)), none⟩])
  .ret)))⟩
theorem F178_ok : compF Tryz.prog 178 = some F178 := by kernel_rfl
/-- colonnade/array.check -/
def F181 : FC := ⟨92, [.cell 4 true 3, .tmp 5],
  (.seq (.ops [⟨(some 2), .box (.tmp 0), none⟩,
    ⟨(some 3), .box (.tmp 1), none⟩,
    ⟨(some 4), .alloc [(.int .i64 0), (.slice none 0 0), (.int .i64 0)], none⟩,
    ⟨(some 5), .mov (.const (.slice none 0 0)), none⟩])
  (.seq (.seq (.ops [⟨(some 18), .load true 7 (.tmp 2), none⟩,
    ⟨(some 19), .load true 6 (.tmp 3), none⟩,
    ⟨(some 20), .call 215 [(.tmp 18), (.tmp 19)], none⟩,
    ⟨(some 6), .alloc [(.int .i64 0), (.slice none 0 0), (.int .i64 0)], none⟩,
    ⟨none, .store 3 (.tmp 6) (.tmp 20), none⟩])
  (.seq (.ops [⟨(some 21), .fieldAddr 0 (.tmp 6), none⟩,
    ⟨(some 22), .load false 1 (.tmp 21), none⟩,
    ⟨(some 23), .bin .neq (.tmp 22) (.const (.int .i64 0)) (some (.int .i64)), none⟩])
  (.cond (.tmp 23)
  (.seq (.ops [⟨(some 24), .load true 3 (.tmp 6), none⟩,
    ⟨none, .store 3 (.tmp 4) (.tmp 24), none⟩,
    ⟨(some 5), .mov (.const (.slice none 0 0)), none⟩])
  .ret)
  .skip)))
  (.seq (.seq (.ops [⟨(some 25), .load true 7 (.tmp 2), none⟩,
    ⟨(some 26), .load true 6 (.tmp 3), none⟩,
    ⟨(some 27), .call 216 [(.tmp 25), (.tmp 26)], none⟩,
    ⟨(some 7), .alloc [(.int .i64 0), (.slice none 0 0), (.int .i64 0)], none⟩,
    ⟨none, .store 3 (.tmp 7) (.tmp 27), none⟩])
  (.seq (.ops [⟨(some 28), .fieldAddr 0 (.tmp 7), none⟩,
    ⟨(some 29), .load false 1 (.tmp 28), none⟩,
    ⟨(some 30), .bin .neq (.tmp 29) (.const (.int .i64 0)) (some (.int .i64)), none⟩])
  (.cond (.tmp 30)
  (.seq (.ops [⟨(some 31), .load true 3 (.tmp 7), none⟩,
    ⟨none, .store 3 (.tmp 4) (.tmp 31), none⟩,
    ⟨(some 5), .mov (.const (.slice none 0 0)), none⟩])
  .ret)
  .skip)))
  (.seq (.ops [⟨(some 8), .mov (.const (.slice none 0 0)), none⟩])
  (.seq (.seq (.ops [⟨(some 32), .load true 6 (.tmp 3), none⟩,
    ⟨(some 33), .call 217 [(.tmp 32)], none⟩,
    ⟨(some 34), .len 1 (.tmp 33), none⟩,
    ⟨(some 35), .mov (.const (.int .i64 0)), none⟩])
  (.block 0 (.loop (.seq (.ops [⟨(some 36), .bin .lss (.tmp 35) (.tmp 34) (some (.int .i64)), none⟩])
  (.seq (.cond (.tmp 36)
  .skip
  (.exit 0))
  (.seq (.block 1 (.seq (.ops [⟨(some 37), .mov (.tmp 35), none⟩,
    ⟨(some 38), .indexAddr 6 (.tmp 33) (.tmp 35), none⟩,
    ⟨(some 39), .load true 6 (.tmp 38), none⟩,
    ⟨(some 10), .alloc [(.int .i64 0), (.int .i64 0), (.int .i64 0), (.slice none 0 0), (.slice none 0 0), (.slice none 0 0)], none⟩,
    ⟨(some 9), .mov (.tmp 37), none⟩,
    ⟨none, .store 6 (.tmp 10) (.tmp 39), none⟩])
  (.seq (.ops [⟨(some 41), .load true 7 (.tmp 2), none⟩,
    ⟨(some 42), .mov (.tmp 9), none⟩,
    ⟨(some 44), .load true 6 (.tmp 10), none⟩,
    ⟨(some 43), .call 218 [(.tmp 41), (.tmp 42)], none⟩,
    ⟨none, .again 44 true 6 (.tmp 10), none⟩,
    ⟨(some 45), .call 181 [(.tmp 43), (.tmp 44)], none⟩,
    ⟨(some 40), .mov (.tmp 45), none⟩,
    ⟨(some 46), .extract (.tmp 40) 0, none⟩,
    ⟨(some 47), .extract (.tmp 40) 1, none⟩,
    ⟨(some 11), .alloc [(.int .i64 0), (.slice none 0 0), (.int .i64 0)], none⟩,
    ⟨none, .store 3 (.tmp 11) (.tmp 46), none⟩,
    ⟨(some 12), .mov (.tmp 47), none⟩])
  (.seq (.seq (.ops [⟨(some 48), .fieldAddr 0 (.tmp 11), none⟩,
    ⟨(some 49), .load false 1 (.tmp 48), none⟩,
    ⟨(some 50), .bin .neq (.tmp 49) (.const (.int .i64 0)) (some (.int .i64)), none⟩])
  (.cond (.tmp 50)
  (.seq (.ops [⟨(some 51), .mov (.tmp 9), none⟩,
    ⟨(some 52), .buildSlice 1 1 [(.int .i64 0)] [(0, 1, (.tmp 51))], none⟩,
    ⟨(some 53), .fieldAddr 1 (.tmp 11), none⟩,
    ⟨(some 54), .load false 1 (.tmp 53), none⟩,
    ⟨(some 55), .append 1 8 (.tmp 52) (.tmp 54), none⟩,
    ⟨(some 56), .fieldAddr 1 (.tmp 11), none⟩,
    ⟨none, .store 1 (.tmp 56) (.tmp 55), none⟩])
  (.seq (.ops [⟨(some 57), .load true 3 (.tmp 11), none⟩,
    ⟨none, .store 3 (.tmp 4) (.tmp 57), none⟩,
    ⟨(some 5), .mov (.const (.slice none 0 0)), none⟩])
  .ret))
  .skip))
  (.ops [⟨(some 58), .mov (.tmp 8), none⟩,
    ⟨(some 59), .mov (.tmp 12), none⟩,
    ⟨(some 60), .buildSlice 1 1 [(.slice none 0 0)] [(0, 1, (.tmp 59))], none⟩,
    ⟨(some 61), .append 1 24 (.tmp 58) (.tmp 60), none⟩,
    ⟨(some 8), .mov (.tmp 61), none⟩])))))
  (.ops [⟨(some 62), .bin .add (.tmp 35) (.const (.int .i64 1)) (some (.int .i64)), none⟩,
    ⟨(some 35), .mov (.tmp 62), none⟩])))))))
  (.seq (.seq (.ops [⟨(some 63), .fieldAddr 2 (.tmp 2), none⟩,
    ⟨(some 64), .fieldAddr 0 (.tmp 63), none⟩,
    ⟨(some 65), .load false 1 (.tmp 64), none⟩,
    ⟨(some 66), .bin .eql (.tmp 65) (.const (.int .i64 20)) (some (.int .i64)), none⟩])
  (.cond (.tmp 66)
  (.seq (.ops [⟨(some 67), .load true 6 (.tmp 3), none⟩,
    ⟨(some 68), .call 219 [(.tmp 67)], none⟩,
    ⟨(some 13), .alloc [(.int .i64 0), (.slice none 0 0), (.int .i64 0)], none⟩,
    ⟨none, .store 3 (.tmp 13) (.tmp 68), none⟩])
  (.seq (.ops [⟨(some 69), .fieldAddr 0 (.tmp 13), none⟩,
    ⟨(some 70), .load false 1 (.tmp 69), none⟩,
    ⟨(some 71), .bin .neq (.tmp 70) (.const (.int .i64 0)) (some (.int .i64)), none⟩])
  (.cond (.tmp 71)
  (.seq (.ops [⟨(some 72), .load true 3 (.tmp 13), none⟩,
    ⟨none, .store 3 (.tmp 4) (.tmp 72), none⟩,
    ⟨(some 5), .mov (.const (.slice none 0 0)), none⟩])
  .ret)
  .skip)))
  .skip))
  (.seq (.ops [⟨(some 73), .load true 7 (.tmp 2), none⟩,
    ⟨(some 74), .load true 6 (.tmp 3), none⟩,
    ⟨(some 75), .mov (.tmp 8), none⟩,
    ⟨(some 76), .call 220 [(.tmp 73), (.tmp 74), (.tmp 75)], none⟩,
    ⟨(some 14), .mov (.tmp 76), none⟩])
  (.seq (.ops [⟨(some 15), .mov (.const (.int .i64 0)), none⟩])
  (.seq (.seq (.ops [⟨(some 77), .mov (.tmp 14), none⟩,
    ⟨(some 78), .len 1 (.tmp 77), none⟩,
    ⟨(some 79), .mov (.const (.int .i64 0)), none⟩])
  (.block 2 (.loop (.seq (.ops [⟨(some 80), .bin .lss (.tmp 79) (.tmp 78) (some (.int .i64)), none⟩])
  (.seq (.cond (.tmp 80)
  .skip
  (.exit 2))
  (.seq (.block 3 (.seq (.ops [⟨(some 81), .indexAddr 1 (.tmp 77) (.tmp 79), none⟩,
    ⟨(some 82), .load false 1 (.tmp 81), none⟩,
    ⟨(some 17), .mov (.tmp 82), none⟩])
  (.ops [⟨(some 83), .mov (.tmp 15), none⟩,
    ⟨(some 84), .mov (.tmp 17), none⟩,
    ⟨(some 85), .bin .add (.tmp 83) (.tmp 84) (some (.int .i64)), none⟩,
    ⟨(some 15), .mov (.tmp 85), none⟩])))
  (.ops [⟨(some 86), .bin .add (.tmp 79) (.const (.int .i64 1)) (some (.int .i64)), none⟩,
    ⟨(some 79), .mov (.tmp 86), none⟩])))))))
  (.seq (.seq (.ops [⟨(some 87), .mov (.tmp 15), none⟩,
    ⟨(some 88), .bin .gtr (.tmp 87) (.const (.int .i64 4194304)) (some (.int .i64)), none⟩])
  (.cond (.tmp 88)
  (.seq (.ops [⟨(some 89), .call 180 [(.const (.int .i64 3)), (.const (.int .i64 1))], none⟩,
    ⟨none, .store 3 (.tmp 4) (.tmp 89), none⟩,
    ⟨(some 5), .mov (.const (.slice none 0 0)), none⟩])
  .ret)
  .skip))
  (.seq (.ops [⟨(some 90), .build [(.int .i64 0), (.slice none 0 0), (.int .i64 0)] [], none⟩,
    ⟨(some 91), .mov (.tmp 14), none⟩,
    ⟨none, .store 3 (.tmp 4) (.tmp 90), none⟩,
    ⟨(some 5), .mov (.tmp 91), none⟩])
  .ret)))))))))))⟩
theorem F181_ok : compF Tryz.prog 181 = some F181 := by kernel_rfl
/-- colonnade/array.familyOf -/
def F182 : FC := ⟨32, [.tmp 2],
  (.seq (.ops [⟨(some 2), .mov (.const .nilIface), none⟩])
  (.seq (.seq (.ops [⟨(some 3), .mov (.tmp 0), none⟩])
  (.block 0 (.seq (.seq (.ops [⟨(some 5), .bin .eql (.tmp 3) (.const (.int .i64 12)) (some (.int .i64)), none⟩,
    ⟨(some 4), .mov (.tmp 5), none⟩])
  (.cond (.tmp 4)
  .skip
  (.ops [⟨(some 6), .bin .eql (.tmp 3) (.const (.int .i64 13)) (some (.int .i64)), none⟩,
    ⟨(some 4), .mov (.tmp 6), none⟩])))
  (.cond (.tmp 4)
  (.seq (.ops [⟨(some 7), .build [] [], none⟩,
    ⟨(some 8), .mkIface 328 (.tmp 7), none⟩,
    ⟨(some 2), .mov (.tmp 8), none⟩])
  .ret)
  (.seq (.seq (.ops [⟨(some 10), .bin .eql (.tmp 3) (.const (.int .i64 15)) (some (.int .i64)), none⟩,
    ⟨(some 9), .mov (.tmp 10), none⟩])
  (.cond (.tmp 9)
  .skip
  (.ops [⟨(some 11), .bin .eql (.tmp 3) (.const (.int .i64 16)) (some (.int .i64)), none⟩,
    ⟨(some 9), .mov (.tmp 11), none⟩])))
  (.cond (.tmp 9)
  (.seq (.ops [⟨(some 12), .build [] [], none⟩,
    ⟨(some 13), .mkIface 329 (.tmp 12), none⟩,
    ⟨(some 2), .mov (.tmp 13), none⟩])
  .ret)
  (.seq (.ops [⟨(some 15), .bin .eql (.tmp 3) (.const (.int .i64 17)) (some (.int .i64)), none⟩,
    ⟨(some 14), .mov (.tmp 15), none⟩])
  (.cond (.tmp 14)
  (.seq (.ops [⟨(some 16), .build [] [], none⟩,
    ⟨(some 17), .mkIface 330 (.tmp 16), none⟩,
    ⟨(some 2), .mov (.tmp 17), none⟩])
  .ret)
  (.seq (.ops [⟨(some 19), .bin .eql (.tmp 3) (.const (.int .i64 18)) (some (.int .i64)), none⟩,
    ⟨(some 18), .mov (.tmp 19), none⟩])
  (.cond (.tmp 18)
  (.seq (.ops [⟨(some 20), .build [] [], none⟩,
    ⟨(some 21), .mkIface 331 (.tmp 20), none⟩,
    ⟨(some 2), .mov (.tmp 21), none⟩])
  .ret)
  (.seq (.ops [⟨(some 23), .bin .eql (.tmp 3) (.const (.int .i64 19)) (some (.int .i64)), none⟩,
    ⟨(some 22), .mov (.tmp 23), none⟩])
  (.cond (.tmp 22)
  (.seq (.ops [⟨(some 24), .build [] [], none⟩,
    ⟨(some 25), .mkIface 332 (.tmp 24), none⟩,
    ⟨(some 2), .mov (.tmp 25), none⟩])
  .ret)
  (.seq (.ops [⟨(some 27), .bin .eql (.tmp 3) (.const (.int .i64 20)) (some (.int .i64)), none⟩,
    ⟨(some 26), .mov (.tmp 27), none⟩])
  (.cond (.tmp 26)
  (.seq (.ops [⟨(some 28), .build [] [], none⟩,
    ⟨(some 29), .mkIface 333 (.tmp 28), none⟩,
    ⟨(some 2), .mov (.tmp 29), none⟩])
  .ret)
  .skip))))))))))))))
  (.seq (.ops [⟨(some 30), .build [] [], none⟩,
    ⟨(some 31), .mkIface 334 (.tmp 30), none⟩,
    ⟨(some 2), .mov (.tmp 31), none⟩])
  .ret)))⟩
theorem F182_ok : compF Tryz.prog 182 = some F182 := by kernel_rfl
/-- slices.Clone[[][]byte,[]byte] -/
def F183 : FC := ⟨8, [.tmp 2],
  (.seq (.ops [⟨(some 2), .mov (.const (.slice none 0 0)), none⟩])
  (.seq (.seq (.ops [⟨(some 3), .mov (.tmp 0), none⟩,
    ⟨(some 4), .bin .eql (.tmp 3) (.const (.slice none 0 0)) (some (.slice 87)), none⟩])
  (.cond (.tmp 4)
  (.seq (.ops [⟨(some 2), .mov (.const (.slice none 0 0)), none⟩])
  .ret)
  .skip))
  (.seq (.ops [⟨(some 5), .buildSlice 1 0 [] [], none⟩,
    ⟨(some 6), .mov (.tmp 0), none⟩,
    ⟨(some 7), .append 1 24 (.tmp 5) (.tmp 6), none⟩,
    ⟨(some 2), .mov (.tmp 7), none⟩])
  .ret)))⟩
theorem F183_ok : compF Tryz.prog 183 = some F183 := by kernel_rfl
/-- colonnade/array.copiedList -/
def F184 : FC := ⟨19, [.tmp 2],
  (.seq (.ops [⟨(some 2), .mov (.const (.slice none 0 0)), none⟩])
  (.seq (.ops [⟨(some 3), .mov (.const (.slice none 0 0)), none⟩])
  (.seq (.seq (.ops [⟨(some 6), .mov (.tmp 0), none⟩,
    ⟨(some 7), .len 1 (.tmp 6), none⟩,
    ⟨(some 8), .mov (.const (.int .i64 0)), none⟩])
  (.block 0 (.loop (.seq (.ops [⟨(some 9), .bin .lss (.tmp 8) (.tmp 7) (some (.int .i64)), none⟩])
  (.seq (.cond (.tmp 9)
  .skip
  (.exit 0))
  (.seq (.block 1 (.seq (.ops [⟨(some 10), .indexAddr 6 (.tmp 6) (.tmp 8), none⟩,
    ⟨(some 11), .load true 6 (.tmp 10), none⟩,
    ⟨(some 5), .alloc [(.int .i64 0), (.int .i64 0), (.int .i64 0), (.slice none 0 0), (.slice none 0 0), (.slice none 0 0)], none⟩,
    ⟨none, .store 6 (.tmp 5) (.tmp 11), none⟩])
  (.ops [⟨(some 12), .mov (.tmp 3), none⟩,
    ⟨(some 13), .load true 6 (.tmp 5), none⟩,
    ⟨(some 14), .call 138 [(.tmp 13)], none⟩,
    ⟨(some 15), .buildSlice 6 1 [(.int .i64 0), (.int .i64 0), (.int .i64 0), (.slice none 0 0), (.slice none 0 0), (.slice none 0 0)] [(0, 6, (.tmp 14))], none⟩,
    ⟨(some 16), .append 6 96 (.tmp 12) (.tmp 15), none⟩,
    ⟨(some 3), .mov (.tmp 16), none⟩])))
  (.ops [⟨(some 17), .bin .add (.tmp 8) (.const (.int .i64 1)) (some (.int .i64)), none⟩,
    ⟨(some 8), .mov (.tmp 17), none⟩])))))))
  (.seq (.ops [⟨(some 18), .mov (.tmp 3), none⟩,
    ⟨(some 2), .mov (.tmp 18), none⟩])
  .ret))))⟩
theorem F184_ok : compF Tryz.prog 184 = some F184 := by kernel_rfl
/-- (*colonnade/array.Array).nullAt -/
def F185 : FC := ⟨47, [.tmp 4],
  (.seq (.ops [⟨(some 4), .mov (.const (.bool false)), none⟩])
  (.seq (.seq (.ops [⟨(some 7), .mov (.tmp 0), none⟩,
    ⟨(some 8), .nilCheck (.tmp 7), none⟩,
    ⟨(some 9), .fieldAddr 0 (.tmp 8), none⟩,
    ⟨(some 10), .fieldAddr 2 (.tmp 9), none⟩,
    ⟨(some 11), .fieldAddr 0 (.tmp 10), none⟩,
    ⟨(some 12), .load false 1 (.tmp 11), none⟩,
    ⟨(some 13), .bin .eql (.tmp 12) (.const (.int .i64 1)) (some (.int .i64)), none⟩])
  (.cond (.tmp 13)
  (.seq (.ops [⟨(some 4), .mov (.const (.bool true)), none⟩])
  .ret)
  .skip))
  (.seq (.seq (.ops [⟨(some 14), .mov (.tmp 0), none⟩,
    ⟨(some 15), .nilCheck (.tmp 14), none⟩,
    ⟨(some 16), .fieldAddr 0 (.tmp 15), none⟩,
    ⟨(some 17), .fieldAddr 2 (.tmp 16), none⟩,
    ⟨(some 18), .fieldAddr 0 (.tmp 17), none⟩,
    ⟨(some 19), .load false 1 (.tmp 18), none⟩,
    ⟨(some 20), .call 221 [(.tmp 19)], none⟩,
    ⟨(some 21), .un .not (.tmp 20), none⟩,
    ⟨(some 22), .mov (.tmp 21), none⟩,
    ⟨(some 23), .mov (.tmp 0), (some (22, false))⟩,
    ⟨(some 24), .nilCheck (.tmp 23), (some (22, false))⟩,
    ⟨(some 25), .fieldAddr 7 (.tmp 24), (some (22, false))⟩,
    ⟨(some 26), .fieldAddr 3 (.tmp 25), (some (22, false))⟩,
    ⟨(some 27), .load false 1 (.tmp 26), (some (22, false))⟩,
    ⟨(some 28), .indexAddr 1 (.tmp 27) (.const (.int .i64 0)), (some (22, false))⟩,
    ⟨(some 29), .load false 1 (.tmp 28), (some (22, false))⟩,
    ⟨(some 30), .len 1 (.tmp 29), (some (22, false))⟩,
    ⟨(some 31), .bin .eql (.tmp 30) (.const (.int .i64 0)) (some (.int .i64)), (some (22, false))⟩,
    ⟨(some 32), .pick (.tmp 22) (.const (.bool true)) (.tmp 31), none⟩])
  (.cond (.tmp 32)
  (.seq (.ops [⟨(some 4), .mov (.const (.bool false)), none⟩])
  .ret)
  .skip))
  (.seq (.ops [⟨(some 34), .mov (.tmp 0), none⟩,
    ⟨(some 35), .call 222 [(.tmp 34), (.const (.int .i64 0))], none⟩,
    ⟨(some 36), .mov (.tmp 1), none⟩,
    ⟨(some 37), .bin .quo (.tmp 36) (.const (.int .i64 8)) (some (.int .i64)), none⟩,
    ⟨(some 38), .call 223 [(.tmp 35), (.tmp 37)], none⟩,
    ⟨(some 33), .mov (.tmp 38), none⟩,
    ⟨(some 39), .extract (.tmp 33) 0, none⟩,
    ⟨(some 40), .extract (.tmp 33) 1, none⟩,
    ⟨(some 5), .mov (.tmp 39), none⟩,
    ⟨(some 6), .mov (.tmp 40), none⟩])
  (.seq (.ops [⟨(some 41), .mov (.tmp 5), none⟩,
    ⟨(some 42), .mov (.tmp 1), none⟩,
    ⟨(some 43), .bin .rem (.tmp 42) (.const (.int .i64 8)) (some (.int .i64)), none⟩,
    ⟨(some 44), .bin .shr (.tmp 41) (.tmp 43) (some (.int .u8)), none⟩,
    ⟨(some 45), .bin .and (.tmp 44) (.const (.int .u8 1)) (some (.int .u8)), none⟩,
    ⟨(some 46), .bin .eql (.tmp 45) (.const (.int .u8 0)) (some (.int .u8)), none⟩,
    ⟨(some 4), .mov (.tmp 46), none⟩])
  .ret)))))⟩
theorem F185_ok : compF Tryz.prog 185 = some F185 := by kernel_rfl
/-- colonnade/array.weigh -/
def F186 : FC := ⟨16, [],
  (.seq (.ops [⟨(some 4), .mov (.tmp 0), none⟩,
    ⟨(some 5), .nilCheck (.tmp 4), none⟩,
    ⟨(some 6), .load false 1 (.tmp 5), none⟩,
    ⟨(some 7), .mov (.tmp 1), none⟩,
    ⟨(some 8), .bin .sub (.tmp 6) (.tmp 7) (some (.int .i64)), none⟩,
    ⟨(some 9), .nilCheck (.tmp 4), none⟩,
    ⟨none, .store 1 (.tmp 9) (.tmp 8), none⟩])
  (.seq (.ops [⟨(some 10), .mov (.tmp 0), none⟩,
    ⟨(some 11), .nilCheck (.tmp 10), none⟩,
    ⟨(some 12), .load false 1 (.tmp 11), none⟩,
    ⟨(some 13), .bin .lss (.tmp 12) (.const (.int .i64 0)) (some (.int .i64)), none⟩])
  (.cond (.tmp 13)
  (.ops [⟨(some 14), .build [] [], none⟩,
    ⟨(some 15), .mkIface 262 (.tmp 14), none⟩,
    ⟨none, .panic (.tmp 15), none⟩])
  .skip)))⟩
theorem F186_ok : compF Tryz.prog 186 = some F186 := by kernel_rfl
/-- internal/strconv.FormatInt -/
def F192 : FC := ⟨54, [.tmp 4],
  (.seq (.ops [⟨(some 4), .mov (.const (.string ⟨#[]⟩)), none⟩])
  (.seq (.seq (.ops [⟨(some 10), .mov (.tmp 1), none⟩,
    ⟨(some 11), .bin .eql (.tmp 10) (.const (.int .i64 10)) (some (.int .i64)), none⟩])
  (.cond (.tmp 11)
  (.seq (.seq (.ops [⟨(some 12), .mov (.tmp 0), none⟩,
    ⟨(some 13), .bin .leq (.const (.int .i64 0)) (.tmp 12) (some (.int .i64)), none⟩,
    ⟨(some 14), .mov (.tmp 13), none⟩,
    ⟨(some 15), .mov (.tmp 0), (some (14, true))⟩,
    ⟨(some 16), .bin .lss (.tmp 15) (.const (.int .i64 100)) (some (.int .i64)), (some (14, true))⟩,
    ⟨(some 17), .pick (.tmp 14) (.tmp 16) (.const (.bool false)), none⟩])
  (.cond (.tmp 17)
  (.seq (.ops [⟨(some 18), .mov (.tmp 0), none⟩,
    ⟨(some 19), .call 224 [(.tmp 18)], none⟩,
    ⟨(some 4), .mov (.tmp 19), none⟩])
  .ret)
  .skip))
  (.seq (.ops [⟨(some 5), .alloc [(.int .u8 0), (.int .u8 0), (.int .u8 0), (.int .u8 0), (.int .u8 0), (.int .u8 0), (.int .u8 0), (.int .u8 0), (.int .u8 0), (.int .u8 0), (.int .u8 0), (.int .u8 0), (.int .u8 0), (.int .u8 0), (.int .u8 0), (.int .u8 0), (.int .u8 0), (.int .u8 0), (.int .u8 0), (.int .u8 0), (.int .u8 0), (.int .u8 0), (.int .u8 0), (.int .u8 0)], none⟩])
  (.seq (.ops [⟨(some 20), .mov (.tmp 0), none⟩,
    ⟨(some 21), .conv .u64 (.tmp 20), none⟩,
    ⟨(some 6), .mov (.tmp 21), none⟩])
  (.seq (.seq (.ops [⟨(some 22), .mov (.tmp 0), none⟩,
    ⟨(some 23), .bin .lss (.tmp 22) (.const (.int .i64 0)) (some (.int .i64)), none⟩])
  (.cond (.tmp 23)
  (.ops [⟨(some 24), .mov (.tmp 6), none⟩,
    ⟨(some 25), .un .neg (.tmp 24), none⟩,
    ⟨(some 6), .mov (.tmp 25), none⟩])
  .skip))
  (.seq (.ops [⟨(some 26), .mov (.tmp 6), none⟩,
    ⟨(some 27), .call 225 [(.tmp 26)], none⟩,
    ⟨(some 7), .mov (.tmp 27), none⟩])
  (.seq (.ops [⟨(some 28), .mov (.tmp 7), none⟩,
    ⟨(some 29), .bin .add (.const (.int .i64 1)) (.tmp 28) (some (.int .i64)), none⟩,
    ⟨(some 30), .bad, none⟩,
    ⟨(some 31), .mov (.tmp 6), none⟩,
    ⟨(some 32), .call 226 [(.tmp 30), (.tmp 31)], none⟩])
  (.seq (.seq (.ops [⟨(some 33), .mov (.tmp 0), none⟩,
    ⟨(some 34), .bin .lss (.tmp 33) (.const (.int .i64 0)) (some (.int .i64)), none⟩])
  (.cond (.tmp 34)
  (.seq (.ops [⟨(some 35), .indexAddrArr 1 24 (.tmp 5) (.const (.int .i64 0)), none⟩,
    ⟨none, .store 1 (.tmp 35) (.const (.int .u8 45)), none⟩])
  (.seq (.ops [⟨(some 36), .mov (.tmp 7), none⟩,
    ⟨(some 37), .bin .add (.const (.int .i64 1)) (.tmp 36) (some (.int .i64)), none⟩,
    ⟨(some 38), .bad, none⟩,
    ⟨(some 39), .b2s (.tmp 38), none⟩,
    ⟨(some 4), .mov (.tmp 39), none⟩])
  .ret))
  .skip))
  (.seq (.ops [⟨(some 40), .mov (.tmp 7), none⟩,
    ⟨(some 41), .bin .add (.const (.int .i64 1)) (.tmp 40) (some (.int .i64)), none⟩,
    ⟨(some 42), .bad, none⟩,
    ⟨(some 43), .b2s (.tmp 42), none⟩,
    ⟨(some 4), .mov (.tmp 43), none⟩])
  .ret))))))))
  .skip))
  (.seq (.ops [⟨(some 45), .mov (.tmp 0), none⟩,
    ⟨(some 46), .conv .u64 (.tmp 45), none⟩,
    ⟨(some 47), .mov (.tmp 1), none⟩,
    ⟨(some 48), .mov (.tmp 0), none⟩,
    ⟨(some 49), .bin .lss (.tmp 48) (.const (.int .i64 0)) (some (.int .i64)), none⟩,
    ⟨(some 50), .call 227 [(.const (.slice none 0 0)), (.tmp 46), (.tmp 47), (.tmp 49), (.const (.bool false))], none⟩,
    ⟨(some 44), .mov (.tmp 50), none⟩,
    ⟨(some 51), .extract (.tmp 44) 0, none⟩,
    ⟨(some 52), .extract (.tmp 44) 1, none⟩,
    ⟨(some 8), .mov (.tmp 51), none⟩,
    ⟨(some 9), .mov (.tmp 52), none⟩])
  (.seq (.ops [⟨(some 53), .mov (.tmp 9), none⟩,
    ⟨(some 4), .mov (.tmp 53), none⟩])
  .ret))))⟩
theorem F192_ok : compF Tryz.prog 192 = some F192 := by kernel_rfl
/-- internal/stringslite.Index -/
def F199 : FC := ⟨143, [.tmp 4],
  (.seq (.ops [⟨(some 4), .mov (.const (.int .i64 0)), none⟩])
  (.seq (.ops [⟨(some 14), .mov (.tmp 1), none⟩,
    ⟨(some 15), .len 0 (.tmp 14), none⟩,
    ⟨(some 5), .mov (.tmp 15), none⟩])
  (.seq (.block 0 (.seq (.ops [⟨(some 17), .mov (.tmp 5), none⟩,
    ⟨(some 18), .bin .eql (.tmp 17) (.const (.int .i64 0)) (some (.int .i64)), none⟩,
    ⟨(some 19), .mov (.tmp 18), none⟩,
    ⟨(some 20), .mov (.tmp 1), (some (19, false))⟩,
    ⟨(some 21), .mov (.tmp 0), (some (19, false))⟩,
    ⟨(some 22), .bin .eql (.tmp 20) (.tmp 21) (some .string), (some (19, false))⟩,
    ⟨(some 23), .pick (.tmp 19) (.const (.bool true)) (.tmp 22), none⟩,
    ⟨(some 16), .mov (.tmp 23), none⟩])
  (.cond (.tmp 16)
  (.seq (.ops [⟨(some 4), .mov (.const (.int .i64 0)), none⟩])
  .ret)
  (.seq (.ops [⟨(some 25), .mov (.tmp 5), none⟩,
    ⟨(some 26), .bin .eql (.tmp 25) (.const (.int .i64 1)) (some (.int .i64)), none⟩,
    ⟨(some 24), .mov (.tmp 26), none⟩])
  (.cond (.tmp 24)
  (.seq (.ops [⟨(some 27), .mov (.tmp 0), none⟩,
    ⟨(some 28), .mov (.tmp 1), none⟩,
    ⟨(some 29), .indexStr (.tmp 28) (.const (.int .i64 0)), none⟩,
    ⟨(some 30), .call 229 [(.tmp 27), (.tmp 29)], none⟩,
    ⟨(some 4), .mov (.tmp 30), none⟩])
  .ret)
  (.seq (.ops [⟨(some 32), .mov (.tmp 5), none⟩,
    ⟨(some 33), .mov (.tmp 0), none⟩,
    ⟨(some 34), .len 0 (.tmp 33), none⟩,
    ⟨(some 35), .bin .geq (.tmp 32) (.tmp 34) (some (.int .i64)), none⟩,
    ⟨(some 31), .mov (.tmp 35), none⟩])
  (.cond (.tmp 31)
  (.seq (.ops [⟨(some 4), .mov (.const (.int .i64 (-1))), none⟩])
  .ret)
  (.seq (.ops [⟨(some 37), .mov (.tmp 5), none⟩,
    ⟨(some 38), .load false 1 (.global 3), none⟩,
    ⟨(some 39), .bin .leq (.tmp 37) (.tmp 38) (some (.int .i64)), none⟩,
    ⟨(some 40), .mov (.tmp 39), none⟩,
    ⟨(some 41), .mov (.tmp 0), (some (40, true))⟩,
    ⟨(some 42), .len 0 (.tmp 41), (some (40, true))⟩,
    ⟨(some 43), .bin .leq (.tmp 42) (.const (.int .i64 64)) (some (.int .i64)), (some (40, true))⟩,
    ⟨(some 44), .pick (.tmp 40) (.tmp 43) (.const (.bool false)), none⟩,
    ⟨(some 36), .mov (.tmp 44), none⟩])
  (.cond (.tmp 36)
  (.seq (.ops [⟨(some 45), .mov (.tmp 0), none⟩,
    ⟨(some 46), .mov (.tmp 1), none⟩,
    ⟨(some 47), .bad, none⟩,
    ⟨(some 4), .mov (.tmp 47), none⟩])
  .ret)
  .skip)))))))))
  (.seq (.ops [⟨(some 48), .mov (.tmp 1), none⟩,
    ⟨(some 49), .indexStr (.tmp 48) (.const (.int .i64 0)), none⟩,
    ⟨(some 6), .mov (.tmp 49), none⟩])
  (.seq (.ops [⟨(some 50), .mov (.tmp 1), none⟩,
    ⟨(some 51), .indexStr (.tmp 50) (.const (.int .i64 1)), none⟩,
    ⟨(some 7), .mov (.tmp 51), none⟩])
  (.seq (.ops [⟨(some 8), .mov (.const (.int .i64 0)), none⟩])
  (.seq (.ops [⟨(some 52), .mov (.tmp 0), none⟩,
    ⟨(some 53), .len 0 (.tmp 52), none⟩,
    ⟨(some 54), .mov (.tmp 5), none⟩,
    ⟨(some 55), .bin .sub (.tmp 53) (.tmp 54) (some (.int .i64)), none⟩,
    ⟨(some 56), .bin .add (.tmp 55) (.const (.int .i64 1)) (some (.int .i64)), none⟩,
    ⟨(some 9), .mov (.tmp 56), none⟩])
  (.seq (.ops [⟨(some 10), .mov (.const (.int .i64 0)), none⟩])
  (.seq (.block 1 (.loop (.seq (.seq (.ops [⟨(some 57), .mov (.tmp 8), none⟩,
    ⟨(some 58), .mov (.tmp 9), none⟩,
    ⟨(some 59), .bin .lss (.tmp 57) (.tmp 58) (some (.int .i64)), none⟩])
  (.cond (.tmp 59)
  .skip
  (.exit 1)))
  (.block 2 (.seq (.seq (.ops [⟨(some 60), .mov (.tmp 0), none⟩,
    ⟨(some 61), .mov (.tmp 8), none⟩,
    ⟨(some 62), .indexStr (.tmp 60) (.tmp 61), none⟩,
    ⟨(some 63), .mov (.tmp 6), none⟩,
    ⟨(some 64), .bin .neq (.tmp 62) (.tmp 63) (some (.int .u8)), none⟩])
  (.cond (.tmp 64)
  (.seq (.ops [⟨(some 65), .mov (.tmp 0), none⟩,
    ⟨(some 66), .mov (.tmp 8), none⟩,
    ⟨(some 67), .bin .add (.tmp 66) (.const (.int .i64 1)) (some (.int .i64)), none⟩,
    ⟨(some 68), .mov (.tmp 9), none⟩,
    ⟨(some 69), .sliceStr (.tmp 65) (some (.tmp 67)) (some (.tmp 68)), none⟩,
    ⟨(some 70), .mov (.tmp 6), none⟩,
    ⟨(some 71), .call 229 [(.tmp 69), (.tmp 70)], none⟩,
    ⟨(some 11), .mov (.tmp 71), none⟩])
  (.seq (.seq (.ops [⟨(some 72), .mov (.tmp 11), none⟩,
    ⟨(some 73), .bin .lss (.tmp 72) (.const (.int .i64 0)) (some (.int .i64)), none⟩])
  (.cond (.tmp 73)
  (.seq (.ops [⟨(some 4), .mov (.const (.int .i64 (-1))), none⟩])
  .ret)
  .skip))
  (.ops [⟨(some 74), .mov (.tmp 8), none⟩,
    ⟨(some 75), .mov (.tmp 11), none⟩,
    ⟨(some 76), .bin .add (.tmp 75) (.const (.int .i64 1)) (some (.int .i64)), none⟩,
    ⟨(some 77), .bin .add (.tmp 74) (.tmp 76) (some (.int .i64)), none⟩,
    ⟨(some 8), .mov (.tmp 77), none⟩])))
  .skip))
  (.seq (.seq (.ops [⟨(some 78), .mov (.tmp 0), none⟩,
    ⟨(some 79), .mov (.tmp 8), none⟩,
    ⟨(some 80), .bin .add (.tmp 79) (.const (.int .i64 1)) (some (.int .i64)), none⟩,
    ⟨(some 81), .indexStr (.tmp 78) (.tmp 80), none⟩,
    ⟨(some 82), .mov (.tmp 7), none⟩,
    ⟨(some 83), .bin .eql (.tmp 81) (.tmp 82) (some (.int .u8)), none⟩,
    ⟨(some 84), .mov (.tmp 83), none⟩,
    ⟨(some 85), .mov (.tmp 0), (some (84, true))⟩,
    ⟨(some 86), .mov (.tmp 8), (some (84, true))⟩,
    ⟨(some 87), .mov (.tmp 8), (some (84, true))⟩,
    ⟨(some 88), .mov (.tmp 5), (some (84, true))⟩,
    ⟨(some 89), .bin .add (.tmp 87) (.tmp 88) (some (.int .i64)), (some (84, true))⟩,
    ⟨(some 90), .sliceStr (.tmp 85) (some (.tmp 86)) (some (.tmp 89)), (some (84, true))⟩,
    ⟨(some 91), .mov (.tmp 1), (some (84, true))⟩,
    ⟨(some 92), .bin .eql (.tmp 90) (.tmp 91) (some .string), (some (84, true))⟩,
    ⟨(some 93), .pick (.tmp 84) (.tmp 92) (.const (.bool false)), none⟩])
  (.cond (.tmp 93)
  (.seq (.ops [⟨(some 94), .mov (.tmp 8), none⟩,
    ⟨(some 4), .mov (.tmp 94), none⟩])
  .ret)
  .skip))
  (.seq (.ops [⟨(some 95), .mov (.tmp 8), none⟩,
    ⟨(some 96), .bin .add (.tmp 95) (.const (.int .i64 1)) (some (.int .i64)), none⟩,
    ⟨(some 8), .mov (.tmp 96), none⟩])
  (.seq (.ops [⟨(some 97), .mov (.tmp 10), none⟩,
    ⟨(some 98), .bin .add (.tmp 97) (.const (.int .i64 1)) (some (.int .i64)), none⟩,
    ⟨(some 10), .mov (.tmp 98), none⟩])
  (.seq (.ops [⟨(some 99), .mov (.tmp 5), none⟩,
    ⟨(some 100), .load false 1 (.global 3), none⟩,
    ⟨(some 101), .bin .leq (.tmp 99) (.tmp 100) (some (.int .i64)), none⟩,
    ⟨(some 102), .mov (.tmp 101), none⟩,
    ⟨(some 103), .mov (.tmp 10), (some (102, true))⟩,
    ⟨(some 104), .mov (.tmp 8), (some (102, true))⟩,
    ⟨(some 105), .call 195 [(.tmp 104)], (some (102, true))⟩,
    ⟨(some 106), .bin .gtr (.tmp 103) (.tmp 105) (some (.int .i64)), (some (102, true))⟩,
    ⟨(some 107), .pick (.tmp 102) (.tmp 106) (.const (.bool false)), none⟩])
  (.cond (.tmp 107)
  (.seq (.ops [⟨(some 108), .mov (.tmp 0), none⟩,
    ⟨(some 109), .mov (.tmp 8), none⟩,
    ⟨(some 110), .sliceStr (.tmp 108) (some (.tmp 109)) none, none⟩,
    ⟨(some 111), .mov (.tmp 1), none⟩,
    ⟨(some 112), .bad, none⟩,
    ⟨(some 12), .mov (.tmp 112), none⟩])
  (.seq (.seq (.ops [⟨(some 113), .mov (.tmp 12), none⟩,
    ⟨(some 114), .bin .geq (.tmp 113) (.const (.int .i64 0)) (some (.int .i64)), none⟩])
  (.cond (.tmp 114)
  (.seq (.ops [⟨(some 115), .mov (.tmp 12), none⟩,
    ⟨(some 116), .mov (.tmp 8), none⟩,
    ⟨(some 117), .bin .add (.tmp 115) (.tmp 116) (some (.int .i64)), none⟩,
    ⟨(some 4), .mov (.tmp 117), none⟩])
  .ret)
  .skip))
  (.seq (.ops [⟨(some 4), .mov (.const (.int .i64 (-1))), none⟩])
  .ret)))
  (.seq (.ops [⟨(some 118), .mov (.tmp 5), none⟩,
    ⟨(some 119), .load false 1 (.global 3), none⟩,
    ⟨(some 120), .bin .gtr (.tmp 118) (.tmp 119) (some (.int .i64)), none⟩,
    ⟨(some 121), .mov (.tmp 120), none⟩,
    ⟨(some 122), .mov (.tmp 10), (some (121, true))⟩,
    ⟨(some 123), .mov (.tmp 8), (some (121, true))⟩,
    ⟨(some 124), .bin .shr (.tmp 123) (.const (.int .u64 4)) (some (.int .i64)), (some (121, true))⟩,
    ⟨(some 125), .bin .add (.const (.int .i64 4)) (.tmp 124) (some (.int .i64)), (some (121, true))⟩,
    ⟨(some 126), .bin .geq (.tmp 122) (.tmp 125) (some (.int .i64)), (some (121, true))⟩,
    ⟨(some 127), .pick (.tmp 121) (.tmp 126) (.const (.bool false)), none⟩,
    ⟨(some 128), .mov (.tmp 127), none⟩,
    ⟨(some 129), .mov (.tmp 8), (some (128, true))⟩,
    ⟨(some 130), .mov (.tmp 9), (some (128, true))⟩,
    ⟨(some 131), .bin .lss (.tmp 129) (.tmp 130) (some (.int .i64)), (some (128, true))⟩,
    ⟨(some 132), .pick (.tmp 128) (.tmp 131) (.const (.bool false)), none⟩])
  (.cond (.tmp 132)
  (.seq (.ops [⟨(some 133), .mov (.tmp 0), none⟩,
    ⟨(some 134), .mov (.tmp 8), none⟩,
    ⟨(some 135), .sliceStr (.tmp 133) (some (.tmp 134)) none, none⟩,
    ⟨(some 136), .mov (.tmp 1), none⟩,
    ⟨(some 137), .call 230 [(.tmp 135), (.tmp 136)], none⟩,
    ⟨(some 13), .mov (.tmp 137), none⟩])
  (.seq (.seq (.ops [⟨(some 138), .mov (.tmp 13), none⟩,
    ⟨(some 139), .bin .lss (.tmp 138) (.const (.int .i64 0)) (some (.int .i64)), none⟩])
  (.cond (.tmp 139)
  (.seq (.ops [⟨(some 4), .mov (.const (.int .i64 (-1))), none⟩])
  .ret)
  .skip))
  (.seq (.ops [⟨(some 140), .mov (.tmp 8), none⟩,
    ⟨(some 141), .mov (.tmp 13), none⟩,
    ⟨(some 142), .bin .add (.tmp 140) (.tmp 141) (some (.int .i64)), none⟩,
    ⟨(some 4), .mov (.tmp 142), none⟩])
  .ret)))
  .skip))))))))))))
  (.seq (.ops [⟨(some 4), .mov (.const (.int .i64 (-1))), none⟩])
  .ret))))))))))⟩
theorem F199_ok : compF Tryz.prog 199 = some F199 := by kernel_rfl
/-- internal/stringslite.HasPrefix -/
def F201 : FC := ⟨18, [.tmp 4],
  (.seq (.ops [⟨(some 4), .mov (.const (.bool false)), none⟩])
  (.seq (.ops [⟨(some 5), .mov (.tmp 0), none⟩,
    ⟨(some 6), .len 0 (.tmp 5), none⟩,
    ⟨(some 7), .mov (.tmp 1), none⟩,
    ⟨(some 8), .len 0 (.tmp 7), none⟩,
    ⟨(some 9), .bin .geq (.tmp 6) (.tmp 8) (some (.int .i64)), none⟩,
    ⟨(some 10), .mov (.tmp 9), none⟩,
    ⟨(some 11), .mov (.tmp 0), (some (10, true))⟩,
    ⟨(some 12), .mov (.tmp 1), (some (10, true))⟩,
    ⟨(some 13), .len 0 (.tmp 12), (some (10, true))⟩,
    ⟨(some 14), .sliceStr (.tmp 11) none (some (.tmp 13)), (some (10, true))⟩,
    ⟨(some 15), .mov (.tmp 1), (some (10, true))⟩,
    ⟨(some 16), .bin .eql (.tmp 14) (.tmp 15) (some .string), (some (10, true))⟩,
    ⟨(some 17), .pick (.tmp 10) (.tmp 16) (.const (.bool false)), none⟩,
    ⟨(some 4), .mov (.tmp 17), none⟩])
  .ret))⟩
theorem F201_ok : compF Tryz.prog 201 = some F201 := by kernel_rfl
/-- strings.CutPrefix -/
def F203 : FC := ⟨11, [.tmp 4, .tmp 5],
  (.seq (.ops [⟨(some 4), .mov (.const (.string ⟨#[]⟩)), none⟩,
    ⟨(some 5), .mov (.const (.bool false)), none⟩])
  (.seq (.ops [⟨(some 6), .mov (.tmp 0), none⟩,
    ⟨(some 7), .mov (.tmp 1), none⟩,
    ⟨(some 8), .call 231 [(.tmp 6), (.tmp 7)], none⟩,
    ⟨(some 9), .extract (.tmp 8) 0, none⟩,
    ⟨(some 10), .extract (.tmp 8) 1, none⟩,
    ⟨(some 4), .mov (.tmp 9), none⟩,
    ⟨(some 5), .mov (.tmp 10), none⟩])
  .ret))⟩
theorem F203_ok : compF Tryz.prog 203 = some F203 := by kernel_rfl
/-- strings.Cut -/
def F204 : FC := ⟨13, [.tmp 4, .tmp 5, .tmp 6],
  (.seq (.ops [⟨(some 4), .mov (.const (.string ⟨#[]⟩)), none⟩,
    ⟨(some 5), .mov (.const (.string ⟨#[]⟩)), none⟩,
    ⟨(some 6), .mov (.const (.bool false)), none⟩])
  (.seq (.ops [⟨(some 7), .mov (.tmp 0), none⟩,
    ⟨(some 8), .mov (.tmp 1), none⟩,
    ⟨(some 9), .call 232 [(.tmp 7), (.tmp 8)], none⟩,
    ⟨(some 10), .extract (.tmp 9) 0, none⟩,
    ⟨(some 11), .extract (.tmp 9) 1, none⟩,
    ⟨(some 12), .extract (.tmp 9) 2, none⟩,
    ⟨(some 4), .mov (.tmp 10), none⟩,
    ⟨(some 5), .mov (.tmp 11), none⟩,
    ⟨(some 6), .mov (.tmp 12), none⟩])
  .ret))⟩
theorem F204_ok : compF Tryz.prog 204 = some F204 := by kernel_rfl
/-- strconv.Atoi -/
def F205 : FC := ⟨18, [.tmp 2, .tmp 3],
  (.seq (.ops [⟨(some 2), .mov (.const (.int .i64 0)), none⟩,
    ⟨(some 3), .mov (.const .nilIface), none⟩])
  (.seq (.ops [⟨(some 7), .mov (.tmp 0), none⟩,
    ⟨(some 8), .call 233 [(.tmp 7)], none⟩,
    ⟨(some 6), .mov (.tmp 8), none⟩,
    ⟨(some 9), .extract (.tmp 6) 0, none⟩,
    ⟨(some 10), .extract (.tmp 6) 1, none⟩,
    ⟨(some 4), .mov (.tmp 9), none⟩,
    ⟨(some 5), .mov (.tmp 10), none⟩])
  (.seq (.seq (.ops [⟨(some 11), .mov (.tmp 5), none⟩,
    ⟨(some 12), .bin .neq (.tmp 11) (.const .nilIface) (some (.interface #[("Error", 145)])), none⟩])
  (.cond (.tmp 12)
  (.seq (.ops [⟨(some 13), .mov (.tmp 4), none⟩,
    ⟨(some 14), .mov (.tmp 0), none⟩,
    ⟨(some 15), .mov (.tmp 5), none⟩,
    ⟨(some 16), .call 208 [(.const (.string ⟨#[65, 116, 111, 105]⟩)), (.tmp 14), (.const (.int .i64 0)), (.const (.int .i64 0)), (.tmp 15)], none⟩,
    ⟨(some 2), .mov (.tmp 13), none⟩,
    ⟨(some 3), .mov (.tmp 16), none⟩])
  .ret)
  .skip))
  (.seq (.ops [⟨(some 17), .mov (.tmp 4), none⟩,
    ⟨(some 2), .mov (.tmp 17), none⟩,
    ⟨(some 3), .mov (.const .nilIface), none⟩])
  .ret))))⟩
theorem F205_ok : compF Tryz.prog 205 = some F205 := by kernel_rfl
/-- internal/strconv.ParseUint -/
def F207 : FC := ⟨172, [.tmp 6, .tmp 7],
  (.seq (.ops [⟨(some 6), .mov (.const (.int .u64 0)), none⟩,
    ⟨(some 7), .mov (.const .nilIface), none⟩])
  (.seq (.seq (.ops [⟨(some 18), .mov (.tmp 0), none⟩,
    ⟨(some 19), .bin .eql (.tmp 18) (.const (.string ⟨#[]⟩)) (some .string), none⟩])
  (.cond (.tmp 19)
  (.seq (.ops [⟨(some 20), .mkIface 344 (.const (.int .i64 2)), none⟩,
    ⟨(some 6), .mov (.const (.int .u64 0)), none⟩,
    ⟨(some 7), .mov (.tmp 20), none⟩])
  .ret)
  .skip))
  (.seq (.ops [⟨(some 21), .mov (.tmp 1), none⟩,
    ⟨(some 22), .bin .eql (.tmp 21) (.const (.int .i64 0)) (some (.int .i64)), none⟩,
    ⟨(some 8), .mov (.tmp 22), none⟩])
  (.seq (.ops [⟨(some 23), .mov (.tmp 0), none⟩,
    ⟨(some 9), .mov (.tmp 23), none⟩])
  (.seq (.block 0 (.seq (.ops [⟨(some 26), .mov (.tmp 1), none⟩,
    ⟨(some 27), .bin .leq (.const (.int .i64 2)) (.tmp 26) (some (.int .i64)), none⟩,
    ⟨(some 28), .mov (.tmp 27), none⟩,
    ⟨(some 29), .mov (.tmp 1), (some (28, true))⟩,
    ⟨(some 30), .bin .leq (.tmp 29) (.const (.int .i64 36)) (some (.int .i64)), (some (28, true))⟩,
    ⟨(some 31), .pick (.tmp 28) (.tmp 30) (.const (.bool false)), none⟩,
    ⟨(some 25), .mov (.tmp 31), none⟩])
  (.cond (.tmp 25)
  .skip
  (.seq (.ops [⟨(some 33), .mov (.tmp 1), none⟩,
    ⟨(some 34), .bin .eql (.tmp 33) (.const (.int .i64 0)) (some (.int .i64)), none⟩,
    ⟨(some 32), .mov (.tmp 34), none⟩])
  (.cond (.tmp 32)
  (.seq (.ops [⟨(some 1), .mov (.const (.int .i64 10)), none⟩])
  (.seq (.ops [⟨(some 35), .mov (.tmp 0), none⟩,
    ⟨(some 36), .indexStr (.tmp 35) (.const (.int .i64 0)), none⟩,
    ⟨(some 37), .bin .eql (.tmp 36) (.const (.int .u8 48)) (some (.int .u8)), none⟩])
  (.cond (.tmp 37)
  (.block 1 (.seq (.ops [⟨(some 41), .mov (.tmp 0), none⟩,
    ⟨(some 42), .len 0 (.tmp 41), none⟩,
    ⟨(some 43), .bin .geq (.tmp 42) (.const (.int .i64 3)) (some (.int .i64)), none⟩,
    ⟨(some 44), .mov (.tmp 43), none⟩,
    ⟨(some 45), .mov (.tmp 0), (some (44, true))⟩,
    ⟨(some 46), .indexStr (.tmp 45) (.const (.int .i64 1)), (some (44, true))⟩,
    ⟨(some 47), .call 234 [(.tmp 46)], (some (44, true))⟩,
    ⟨(some 48), .bin .eql (.tmp 47) (.const (.int .u8 98)) (some (.int .u8)), (some (44, true))⟩,
    ⟨(some 49), .pick (.tmp 44) (.tmp 48) (.const (.bool false)), none⟩,
    ⟨(some 40), .mov (.tmp 49), none⟩])
  (.cond (.tmp 40)
  (.seq (.ops [⟨(some 1), .mov (.const (.int .i64 2)), none⟩])
  (.ops [⟨(some 50), .mov (.tmp 0), none⟩,
    ⟨(some 51), .sliceStr (.tmp 50) (some (.const (.int .i64 2))) none, none⟩,
    ⟨(some 0), .mov (.tmp 51), none⟩]))
  (.seq (.ops [⟨(some 53), .mov (.tmp 0), none⟩,
    ⟨(some 54), .len 0 (.tmp 53), none⟩,
    ⟨(some 55), .bin .geq (.tmp 54) (.const (.int .i64 3)) (some (.int .i64)), none⟩,
    ⟨(some 56), .mov (.tmp 55), none⟩,
    ⟨(some 57), .mov (.tmp 0), (some (56, true))⟩,
    ⟨(some 58), .indexStr (.tmp 57) (.const (.int .i64 1)), (some (56, true))⟩,
    ⟨(some 59), .call 234 [(.tmp 58)], (some (56, true))⟩,
    ⟨(some 60), .bin .eql (.tmp 59) (.const (.int .u8 111)) (some (.int .u8)), (some (56, true))⟩,
    ⟨(some 61), .pick (.tmp 56) (.tmp 60) (.const (.bool false)), none⟩,
    ⟨(some 52), .mov (.tmp 61), none⟩])
  (.cond (.tmp 52)
  (.seq (.ops [⟨(some 1), .mov (.const (.int .i64 8)), none⟩])
  (.ops [⟨(some 62), .mov (.tmp 0), none⟩,
    ⟨(some 63), .sliceStr (.tmp 62) (some (.const (.int .i64 2))) none, none⟩,
    ⟨(some 0), .mov (.tmp 63), none⟩]))
  (.seq (.ops [⟨(some 65), .mov (.tmp 0), none⟩,
    ⟨(some 66), .len 0 (.tmp 65), none⟩,
    ⟨(some 67), .bin .geq (.tmp 66) (.const (.int .i64 3)) (some (.int .i64)), none⟩,
    ⟨(some 68), .mov (.tmp 67), none⟩,
    ⟨(some 69), .mov (.tmp 0), (some (68, true))⟩,
    ⟨(some 70), .indexStr (.tmp 69) (.const (.int .i64 1)), (some (68, true))⟩,
    ⟨(some 71), .call 234 [(.tmp 70)], (some (68, true))⟩,
    ⟨(some 72), .bin .eql (.tmp 71) (.const (.int .u8 120)) (some (.int .u8)), (some (68, true))⟩,
    ⟨(some 73), .pick (.tmp 68) (.tmp 72) (.const (.bool false)), none⟩,
    ⟨(some 64), .mov (.tmp 73), none⟩])
  (.cond (.tmp 64)
  (.seq (.ops [⟨(some 1), .mov (.const (.int .i64 16)), none⟩])
  (.ops [⟨(some 74), .mov (.tmp 0), none⟩,
    ⟨(some 75), .sliceStr (.tmp 74) (some (.const (.int .i64 2))) none, none⟩,
    ⟨(some 0), .mov (.tmp 75), none⟩]))
  (.seq (.ops [⟨(some 1), .mov (.const (.int .i64 8)), none⟩])
  (.ops [⟨(some 38), .mov (.tmp 0), none⟩,
    ⟨(some 39), .sliceStr (.tmp 38) (some (.const (.int .i64 1))) none, none⟩,
    ⟨(some 0), .mov (.tmp 39), none⟩])))))))))
  .skip)))
  (.seq (.ops [⟨(some 24), .mkIface 344 (.const (.int .i64 3)), none⟩,
    ⟨(some 6), .mov (.const (.int .u64 0)), none⟩,
    ⟨(some 7), .mov (.tmp 24), none⟩])
  .ret))))))
  (.seq (.seq (.ops [⟨(some 76), .mov (.tmp 2), none⟩,
    ⟨(some 77), .bin .eql (.tmp 76) (.const (.int .i64 0)) (some (.int .i64)), none⟩])
  (.cond (.tmp 77)
  (.ops [⟨(some 2), .mov (.const (.int .i64 64)), none⟩])
  (.seq (.ops [⟨(some 78), .mov (.tmp 2), none⟩,
    ⟨(some 79), .bin .lss (.tmp 78) (.const (.int .i64 0)) (some (.int .i64)), none⟩,
    ⟨(some 80), .mov (.tmp 79), none⟩,
    ⟨(some 81), .mov (.tmp 2), (some (80, false))⟩,
    ⟨(some 82), .bin .gtr (.tmp 81) (.const (.int .i64 64)) (some (.int .i64)), (some (80, false))⟩,
    ⟨(some 83), .pick (.tmp 80) (.const (.bool true)) (.tmp 82), none⟩])
  (.cond (.tmp 83)
  (.seq (.ops [⟨(some 84), .mkIface 344 (.const (.int .i64 4)), none⟩,
    ⟨(some 6), .mov (.const (.int .u64 0)), none⟩,
    ⟨(some 7), .mov (.tmp 84), none⟩])
  .ret)
  .skip))))
  (.seq (.ops [⟨(some 10), .mov (.const (.int .u64 0)), none⟩])
  (.seq (.seq (.ops [⟨(some 85), .mov (.tmp 1), none⟩])
  (.block 2 (.seq (.ops [⟨(some 91), .bin .eql (.tmp 85) (.const (.int .i64 10)) (some (.int .i64)), none⟩,
    ⟨(some 90), .mov (.tmp 91), none⟩])
  (.cond (.tmp 90)
  (.ops [⟨(some 10), .mov (.const (.int .u64 1844674407370955162)), none⟩])
  (.seq (.ops [⟨(some 93), .bin .eql (.tmp 85) (.const (.int .i64 16)) (some (.int .i64)), none⟩,
    ⟨(some 92), .mov (.tmp 93), none⟩])
  (.cond (.tmp 92)
  (.ops [⟨(some 10), .mov (.const (.int .u64 1152921504606846976)), none⟩])
  (.ops [⟨(some 86), .mov (.tmp 1), none⟩,
    ⟨(some 87), .conv .u64 (.tmp 86), none⟩,
    ⟨(some 88), .bin .quo (.const (.int .u64 18446744073709551615)) (.tmp 87) (some (.int .u64)), none⟩,
    ⟨(some 89), .bin .add (.tmp 88) (.const (.int .u64 1)) (some (.int .u64)), none⟩,
    ⟨(some 10), .mov (.tmp 89), none⟩])))))))
  (.seq (.ops [⟨(some 94), .mov (.tmp 2), none⟩,
    ⟨(some 95), .conv .u64 (.tmp 94), none⟩,
    ⟨(some 96), .bin .shl (.const (.int .u64 1)) (.tmp 95) (some (.int .u64)), none⟩,
    ⟨(some 97), .bin .sub (.tmp 96) (.const (.int .u64 1)) (some (.int .u64)), none⟩,
    ⟨(some 11), .mov (.tmp 97), none⟩])
  (.seq (.ops [⟨(some 12), .mov (.const (.bool false)), none⟩])
  (.seq (.ops [⟨(some 13), .mov (.const (.int .u64 0)), none⟩])
  (.seq (.seq (.ops [⟨(some 98), .mov (.tmp 0), none⟩,
    ⟨(some 99), .s2b (.tmp 98), none⟩,
    ⟨(some 100), .len 1 (.tmp 99), none⟩,
    ⟨(some 101), .mov (.const (.int .i64 0)), none⟩])
  (.block 3 (.loop (.seq (.ops [⟨(some 102), .bin .lss (.tmp 101) (.tmp 100) (some (.int .i64)), none⟩])
  (.seq (.cond (.tmp 102)
  .skip
  (.exit 3))
  (.seq (.block 4 (.seq (.ops [⟨(some 103), .indexAddr 1 (.tmp 99) (.tmp 101), none⟩,
    ⟨(some 104), .load false 1 (.tmp 103), none⟩,
    ⟨(some 15), .mov (.tmp 104), none⟩])
  (.seq (.ops [⟨(some 16), .mov (.const (.int .u8 0)), none⟩])
  (.seq (.block 5 (.seq (.ops [⟨(some 107), .mov (.tmp 15), none⟩,
    ⟨(some 108), .bin .eql (.tmp 107) (.const (.int .u8 95)) (some (.int .u8)), none⟩,
    ⟨(some 109), .mov (.tmp 108), none⟩,
    ⟨(some 110), .mov (.tmp 8), (some (109, true))⟩,
    ⟨(some 111), .pick (.tmp 109) (.tmp 110) (.const (.bool false)), none⟩,
    ⟨(some 106), .mov (.tmp 111), none⟩])
  (.cond (.tmp 106)
  (.seq (.ops [⟨(some 12), .mov (.const (.bool true)), none⟩])
  (.exit 4))
  (.seq (.ops [⟨(some 113), .mov (.tmp 15), none⟩,
    ⟨(some 114), .bin .leq (.const (.int .u8 48)) (.tmp 113) (some (.int .u8)), none⟩,
    ⟨(some 115), .mov (.tmp 114), none⟩,
    ⟨(some 116), .mov (.tmp 15), (some (115, true))⟩,
    ⟨(some 117), .bin .leq (.tmp 116) (.const (.int .u8 57)) (some (.int .u8)), (some (115, true))⟩,
    ⟨(some 118), .pick (.tmp 115) (.tmp 117) (.const (.bool false)), none⟩,
    ⟨(some 112), .mov (.tmp 118), none⟩])
  (.cond (.tmp 112)
  (.ops [⟨(some 119), .mov (.tmp 15), none⟩,
    ⟨(some 120), .bin .sub (.tmp 119) (.const (.int .u8 48)) (some (.int .u8)), none⟩,
    ⟨(some 16), .mov (.tmp 120), none⟩])
  (.seq (.ops [⟨(some 122), .mov (.tmp 15), none⟩,
    ⟨(some 123), .call 234 [(.tmp 122)], none⟩,
    ⟨(some 124), .bin .leq (.const (.int .u8 97)) (.tmp 123) (some (.int .u8)), none⟩,
    ⟨(some 125), .mov (.tmp 124), none⟩,
    ⟨(some 126), .mov (.tmp 15), (some (125, true))⟩,
    ⟨(some 127), .call 234 [(.tmp 126)], (some (125, true))⟩,
    ⟨(some 128), .bin .leq (.tmp 127) (.const (.int .u8 122)) (some (.int .u8)), (some (125, true))⟩,
    ⟨(some 129), .pick (.tmp 125) (.tmp 128) (.const (.bool false)), none⟩,
    ⟨(some 121), .mov (.tmp 129), none⟩])
  (.cond (.tmp 121)
  (.ops [⟨(some 130), .mov (.tmp 15), none⟩,
    ⟨(some 131), .call 234 [(.tmp 130)], none⟩,
    ⟨(some 132), .bin .sub (.tmp 131) (.const (.int .u8 97)) (some (.int .u8)), none⟩,
    ⟨(some 133), .bin .add (.tmp 132) (.const (.int .u8 10)) (some (.int .u8)), none⟩,
    ⟨(some 16), .mov (.tmp 133), none⟩])
  (.seq (.ops [⟨(some 105), .mkIface 344 (.const (.int .i64 2)), none⟩,
    ⟨(some 6), .mov (.const (.int .u64 0)), none⟩,
    ⟨(some 7), .mov (.tmp 105), none⟩])
  .ret))))))))
  (.seq (.seq (.ops [⟨(some 134), .mov (.tmp 16), none⟩,
    ⟨(some 135), .mov (.tmp 1), none⟩,
    ⟨(some 136), .conv .u8 (.tmp 135), none⟩,
    ⟨(some 137), .bin .geq (.tmp 134) (.tmp 136) (some (.int .u8)), none⟩])
  (.cond (.tmp 137)
  (.seq (.ops [⟨(some 138), .mkIface 344 (.const (.int .i64 2)), none⟩,
    ⟨(some 6), .mov (.const (.int .u64 0)), none⟩,
    ⟨(some 7), .mov (.tmp 138), none⟩])
  .ret)
  .skip))
  (.seq (.seq (.ops [⟨(some 139), .mov (.tmp 13), none⟩,
    ⟨(some 140), .mov (.tmp 10), none⟩,
    ⟨(some 141), .bin .geq (.tmp 139) (.tmp 140) (some (.int .u64)), none⟩])
  (.cond (.tmp 141)
  (.seq (.ops [⟨(some 142), .mov (.tmp 11), none⟩,
    ⟨(some 143), .mkIface 344 (.const (.int .i64 1)), none⟩,
    ⟨(some 6), .mov (.tmp 142), none⟩,
    ⟨(some 7), .mov (.tmp 143), none⟩])
  .ret)
  .skip))
  (.seq (.ops [⟨(some 144), .mov (.tmp 13), none⟩,
    ⟨(some 145), .mov (.tmp 1), none⟩,
    ⟨(some 146), .conv .u64 (.tmp 145), none⟩,
    ⟨(some 147), .bin .mul (.tmp 144) (.tmp 146) (some (.int .u64)), none⟩,
    ⟨(some 13), .mov (.tmp 147), none⟩])
  (.seq (.ops [⟨(some 148), .mov (.tmp 13), none⟩,
    ⟨(some 149), .mov (.tmp 16), none⟩,
    ⟨(some 150), .conv .u64 (.tmp 149), none⟩,
    ⟨(some 151), .bin .add (.tmp 148) (.tmp 150) (some (.int .u64)), none⟩,
    ⟨(some 17), .mov (.tmp 151), none⟩])
  (.seq (.seq (.ops [⟨(some 152), .mov (.tmp 17), none⟩,
    ⟨(some 153), .mov (.tmp 13), none⟩,
    ⟨(some 154), .bin .lss (.tmp 152) (.tmp 153) (some (.int .u64)), none⟩,
    ⟨(some 155), .mov (.tmp 154), none⟩,
    ⟨(some 156), .mov (.tmp 17), (some (155, false))⟩,
    ⟨(some 157), .mov (.tmp 11), (some (155, false))⟩,
    ⟨(some 158), .bin .gtr (.tmp 156) (.tmp 157) (some (.int .u64)), (some (155, false))⟩,
    ⟨(some 159), .pick (.tmp 155) (.const (.bool true)) (.tmp 158), none⟩])
  (.cond (.tmp 159)
  (.seq (.ops [⟨(some 160), .mov (.tmp 11), none⟩,
    ⟨(some 161), .mkIface 344 (.const (.int .i64 1)), none⟩,
    ⟨(some 6), .mov (.tmp 160), none⟩,
    ⟨(some 7), .mov (.tmp 161), none⟩])
  .ret)
  .skip))
  (.ops [⟨(some 162), .mov (.tmp 17), none⟩,
    ⟨(some 13), .mov (.tmp 162), none⟩]))))))))))
  (.ops [⟨(some 163), .bin .add (.tmp 101) (.const (.int .i64 1)) (some (.int .i64)), none⟩,
    ⟨(some 101), .mov (.tmp 163), none⟩])))))))
  (.seq (.seq (.ops [⟨(some 164), .mov (.tmp 12), none⟩,
    ⟨(some 165), .mov (.tmp 164), none⟩,
    ⟨(some 166), .mov (.tmp 9), (some (165, true))⟩,
    ⟨(some 167), .call 235 [(.tmp 166)], (some (165, true))⟩,
    ⟨(some 168), .un .not (.tmp 167), (some (165, true))⟩,
    ⟨(some 169), .pick (.tmp 165) (.tmp 168) (.const (.bool false)), none⟩])
  (.cond (.tmp 169)
  (.seq (.ops [⟨(some 170), .mkIface 344 (.const (.int .i64 2)), none⟩,
    ⟨(some 6), .mov (.const (.int .u64 0)), none⟩,
    ⟨(some 7), .mov (.tmp 170), none⟩])
  .ret)
  .skip))
  (.seq (.ops [⟨(some 171), .mov (.tmp 13), none⟩,
    ⟨(some 6), .mov (.tmp 171), none⟩,
    ⟨(some 7), .mov (.const .nilIface), none⟩])
  .ret))))))))))))))⟩
theorem F207_ok : compF Tryz.prog 207 = some F207 := by kernel_rfl
/-- strconv.toError -/
def F208 : FC := ⟨43, [.tmp 10],
  (.seq (.ops [⟨(some 10), .mov (.const .nilIface), none⟩])
  (.seq (.seq (.ops [⟨(some 11), .mov (.tmp 4), none⟩])
  (.block 0 (.seq (.ops [⟨(some 13), .mkIface 344 (.const (.int .i64 2)), none⟩,
    ⟨(some 14), .ieq .eql [2, 3, 5, 6, 12, 21, 28, 168, 216, 344, 363, 402, 403, 405, 406, 427] (.tmp 11) (.tmp 13), none⟩,
    ⟨(some 12), .mov (.tmp 14), none⟩])
  (.cond (.tmp 12)
  (.seq (.ops [⟨(some 15), .mov (.tmp 0), none⟩,
    ⟨(some 16), .mov (.tmp 1), none⟩,
    ⟨(some 17), .call 236 [(.tmp 15), (.tmp 16)], none⟩,
    ⟨(some 18), .mkIface 346 (.tmp 17), none⟩,
    ⟨(some 10), .mov (.tmp 18), none⟩])
  .ret)
  (.seq (.ops [⟨(some 20), .mkIface 344 (.const (.int .i64 1)), none⟩,
    ⟨(some 21), .ieq .eql [2, 3, 5, 6, 12, 21, 28, 168, 216, 344, 363, 402, 403, 405, 406, 427] (.tmp 11) (.tmp 20), none⟩,
    ⟨(some 19), .mov (.tmp 21), none⟩])
  (.cond (.tmp 19)
  (.seq (.ops [⟨(some 22), .mov (.tmp 0), none⟩,
    ⟨(some 23), .mov (.tmp 1), none⟩,
    ⟨(some 24), .call 237 [(.tmp 22), (.tmp 23)], none⟩,
    ⟨(some 25), .mkIface 346 (.tmp 24), none⟩,
    ⟨(some 10), .mov (.tmp 25), none⟩])
  .ret)
  (.seq (.ops [⟨(some 27), .mkIface 344 (.const (.int .i64 3)), none⟩,
    ⟨(some 28), .ieq .eql [2, 3, 5, 6, 12, 21, 28, 168, 216, 344, 363, 402, 403, 405, 406, 427] (.tmp 11) (.tmp 27), none⟩,
    ⟨(some 26), .mov (.tmp 28), none⟩])
  (.cond (.tmp 26)
  (.seq (.ops [⟨(some 29), .mov (.tmp 0), none⟩,
    ⟨(some 30), .mov (.tmp 1), none⟩,
    ⟨(some 31), .mov (.tmp 2), none⟩,
    ⟨(some 32), .call 238 [(.tmp 29), (.tmp 30), (.tmp 31)], none⟩,
    ⟨(some 33), .mkIface 346 (.tmp 32), none⟩,
    ⟨(some 10), .mov (.tmp 33), none⟩])
  .ret)
  (.seq (.ops [⟨(some 35), .mkIface 344 (.const (.int .i64 4)), none⟩,
    ⟨(some 36), .ieq .eql [2, 3, 5, 6, 12, 21, 28, 168, 216, 344, 363, 402, 403, 405, 406, 427] (.tmp 11) (.tmp 35), none⟩,
    ⟨(some 34), .mov (.tmp 36), none⟩])
  (.cond (.tmp 34)
  (.seq (.ops [⟨(some 37), .mov (.tmp 0), none⟩,
    ⟨(some 38), .mov (.tmp 1), none⟩,
    ⟨(some 39), .mov (.tmp 3), none⟩,
    ⟨(some 40), .call 239 [(.tmp 37), (.tmp 38), (.tmp 39)], none⟩,
    ⟨(some 41), .mkIface 346 (.tmp 40), none⟩,
    ⟨(some 10), .mov (.tmp 41), none⟩])
  .ret)
  .skip))))))))))
  (.seq (.ops [⟨(some 42), .mov (.tmp 4), none⟩,
    ⟨(some 10), .mov (.tmp 42), none⟩])
  .ret)))⟩
theorem F208_ok : compF Tryz.prog 208 = some F208 := by kernel_rfl
/-- internal/strconv.ParseInt -/
def F209 : FC := ⟨73, [.tmp 6, .tmp 7],
  (.seq (.ops [⟨(some 6), .mov (.const (.int .i64 0)), none⟩,
    ⟨(some 7), .mov (.const .nilIface), none⟩])
  (.seq (.seq (.ops [⟨(some 12), .mov (.tmp 0), none⟩,
    ⟨(some 13), .bin .eql (.tmp 12) (.const (.string ⟨#[]⟩)) (some .string), none⟩])
  (.cond (.tmp 13)
  (.seq (.ops [⟨(some 14), .mkIface 344 (.const (.int .i64 2)), none⟩,
    ⟨(some 6), .mov (.const (.int .i64 0)), none⟩,
    ⟨(some 7), .mov (.tmp 14), none⟩])
  .ret)
  .skip))
  (.seq (.ops [⟨(some 8), .mov (.const (.bool false)), none⟩])
  (.seq (.seq (.ops [⟨(some 15), .mov (.tmp 0), none⟩,
    ⟨(some 16), .indexStr (.tmp 15) (.const (.int .i64 0)), none⟩])
  (.block 0 (.seq (.ops [⟨(some 18), .bin .eql (.tmp 16) (.const (.int .u8 43)) (some (.int .u8)), none⟩,
    ⟨(some 17), .mov (.tmp 18), none⟩])
  (.cond (.tmp 17)
  (.ops [⟨(some 19), .mov (.tmp 0), none⟩,
    ⟨(some 20), .sliceStr (.tmp 19) (some (.const (.int .i64 1))) none, none⟩,
    ⟨(some 0), .mov (.tmp 20), none⟩])
  (.seq (.ops [⟨(some 22), .bin .eql (.tmp 16) (.const (.int .u8 45)) (some (.int .u8)), none⟩,
    ⟨(some 21), .mov (.tmp 22), none⟩])
  (.cond (.tmp 21)
  (.seq (.ops [⟨(some 23), .mov (.tmp 0), none⟩,
    ⟨(some 24), .sliceStr (.tmp 23) (some (.const (.int .i64 1))) none, none⟩,
    ⟨(some 0), .mov (.tmp 24), none⟩])
  (.ops [⟨(some 8), .mov (.const (.bool true)), none⟩]))
  .skip))))))
  (.seq (.ops [⟨(some 9), .mov (.const (.int .u64 0)), none⟩])
  (.seq (.ops [⟨(some 26), .mov (.tmp 0), none⟩,
    ⟨(some 27), .mov (.tmp 1), none⟩,
    ⟨(some 28), .mov (.tmp 2), none⟩,
    ⟨(some 29), .call 207 [(.tmp 26), (.tmp 27), (.tmp 28)], none⟩,
    ⟨(some 25), .mov (.tmp 29), none⟩,
    ⟨(some 30), .extract (.tmp 25) 0, none⟩,
    ⟨(some 31), .extract (.tmp 25) 1, none⟩,
    ⟨(some 9), .mov (.tmp 30), none⟩,
    ⟨(some 7), .mov (.tmp 31), none⟩])
  (.seq (.seq (.ops [⟨(some 32), .mov (.tmp 7), none⟩,
    ⟨(some 33), .bin .neq (.tmp 32) (.const .nilIface) (some (.interface #[("Error", 145)])), none⟩,
    ⟨(some 34), .mov (.tmp 33), none⟩,
    ⟨(some 35), .mov (.tmp 7), (some (34, true))⟩,
    ⟨(some 36), .mkIface 344 (.const (.int .i64 1)), (some (34, true))⟩,
    ⟨(some 37), .ieq .neq [2, 3, 5, 6, 12, 21, 28, 168, 216, 344, 363, 402, 403, 405, 406, 427] (.tmp 35) (.tmp 36), (some (34, true))⟩,
    ⟨(some 38), .pick (.tmp 34) (.tmp 37) (.const (.bool false)), none⟩])
  (.cond (.tmp 38)
  (.seq (.ops [⟨(some 39), .mov (.tmp 7), none⟩,
    ⟨(some 6), .mov (.const (.int .i64 0)), none⟩,
    ⟨(some 7), .mov (.tmp 39), none⟩])
  .ret)
  .skip))
  (.seq (.seq (.ops [⟨(some 40), .mov (.tmp 2), none⟩,
    ⟨(some 41), .bin .eql (.tmp 40) (.const (.int .i64 0)) (some (.int .i64)), none⟩])
  (.cond (.tmp 41)
  (.ops [⟨(some 2), .mov (.const (.int .i64 64)), none⟩])
  .skip))
  (.seq (.ops [⟨(some 42), .mov (.tmp 2), none⟩,
    ⟨(some 43), .bin .sub (.tmp 42) (.const (.int .i64 1)) (some (.int .i64)), none⟩,
    ⟨(some 44), .conv .u64 (.tmp 43), none⟩,
    ⟨(some 45), .bin .shl (.const (.int .u64 1)) (.tmp 44) (some (.int .u64)), none⟩,
    ⟨(some 10), .mov (.tmp 45), none⟩])
  (.seq (.seq (.ops [⟨(some 46), .mov (.tmp 8), none⟩,
    ⟨(some 47), .un .not (.tmp 46), none⟩,
    ⟨(some 48), .mov (.tmp 47), none⟩,
    ⟨(some 49), .mov (.tmp 9), (some (48, true))⟩,
    ⟨(some 50), .mov (.tmp 10), (some (48, true))⟩,
    ⟨(some 51), .bin .geq (.tmp 49) (.tmp 50) (some (.int .u64)), (some (48, true))⟩,
    ⟨(some 52), .pick (.tmp 48) (.tmp 51) (.const (.bool false)), none⟩])
  (.cond (.tmp 52)
  (.seq (.ops [⟨(some 53), .mov (.tmp 10), none⟩,
    ⟨(some 54), .bin .sub (.tmp 53) (.const (.int .u64 1)) (some (.int .u64)), none⟩,
    ⟨(some 55), .conv .i64 (.tmp 54), none⟩,
    ⟨(some 56), .mkIface 344 (.const (.int .i64 1)), none⟩,
    ⟨(some 6), .mov (.tmp 55), none⟩,
    ⟨(some 7), .mov (.tmp 56), none⟩])
  .ret)
  .skip))
  (.seq (.seq (.ops [⟨(some 57), .mov (.tmp 8), none⟩,
    ⟨(some 58), .mov (.tmp 57), none⟩,
    ⟨(some 59), .mov (.tmp 9), (some (58, true))⟩,
    ⟨(some 60), .mov (.tmp 10), (some (58, true))⟩,
    ⟨(some 61), .bin .gtr (.tmp 59) (.tmp 60) (some (.int .u64)), (some (58, true))⟩,
    ⟨(some 62), .pick (.tmp 58) (.tmp 61) (.const (.bool false)), none⟩])
  (.cond (.tmp 62)
  (.seq (.ops [⟨(some 63), .mov (.tmp 10), none⟩,
    ⟨(some 64), .conv .i64 (.tmp 63), none⟩,
    ⟨(some 65), .un .neg (.tmp 64), none⟩,
    ⟨(some 66), .mkIface 344 (.const (.int .i64 1)), none⟩,
    ⟨(some 6), .mov (.tmp 65), none⟩,
    ⟨(some 7), .mov (.tmp 66), none⟩])
  .ret)
  .skip))
  (.seq (.ops [⟨(some 67), .mov (.tmp 9), none⟩,
    ⟨(some 68), .conv .i64 (.tmp 67), none⟩,
    ⟨(some 11), .mov (.tmp 68), none⟩])
  (.seq (.seq (.ops [⟨(some 69), .mov (.tmp 8), none⟩])
  (.cond (.tmp 69)
  (.ops [⟨(some 70), .mov (.tmp 11), none⟩,
    ⟨(some 71), .un .neg (.tmp 70), none⟩,
    ⟨(some 11), .mov (.tmp 71), none⟩])
  .skip))
  (.seq (.ops [⟨(some 72), .mov (.tmp 11), none⟩,
    ⟨(some 6), .mov (.tmp 72), none⟩,
    ⟨(some 7), .mov (.const .nilIface), none⟩])
  .ret))))))))))))))⟩
theorem F209_ok : compF Tryz.prog 209 = some F209 := by kernel_rfl
/-- colonnade/value.sized -/
def F210 : FC := ⟨16, [.tmp 2, .tmp 3],
  (.seq (.ops [⟨(some 2), .mov (.const (.int .i64 0)), none⟩,
    ⟨(some 3), .mov (.const (.bool false)), none⟩])
  (.seq (.seq (.ops [⟨(some 4), .mov (.tmp 0), none⟩,
    ⟨(some 5), .bin .geq (.tmp 4) (.const (.int .i64 3)) (some (.int .i64)), none⟩,
    ⟨(some 6), .mov (.tmp 5), none⟩,
    ⟨(some 7), .mov (.tmp 0), (some (6, true))⟩,
    ⟨(some 8), .bin .leq (.tmp 7) (.const (.int .i64 6)) (some (.int .i64)), (some (6, true))⟩,
    ⟨(some 9), .pick (.tmp 6) (.tmp 8) (.const (.bool false)), none⟩])
  (.cond (.tmp 9)
  (.seq (.ops [⟨(some 10), .mov (.tmp 0), none⟩,
    ⟨(some 11), .bin .sub (.tmp 10) (.const (.int .i64 3)) (some (.int .i64)), none⟩,
    ⟨(some 12), .bin .shl (.const (.int .i64 8)) (.tmp 11) (some (.int .i64)), none⟩,
    ⟨(some 2), .mov (.tmp 12), none⟩,
    ⟨(some 3), .mov (.const (.bool true)), none⟩])
  .ret)
  .skip))
  (.seq (.ops [⟨(some 13), .mov (.tmp 0), none⟩,
    ⟨(some 14), .bin .sub (.tmp 13) (.const (.int .i64 7)) (some (.int .i64)), none⟩,
    ⟨(some 15), .bin .shl (.const (.int .i64 8)) (.tmp 14) (some (.int .i64)), none⟩,
    ⟨(some 2), .mov (.tmp 15), none⟩,
    ⟨(some 3), .mov (.const (.bool false)), none⟩])
  .ret)))⟩
theorem F210_ok : compF Tryz.prog 210 = some F210 := by kernel_rfl
/-- colonnade/value.weight -/
def F213 : FC := ⟨64, [.tmp 2],
  (.seq (.ops [⟨(some 1), .box (.tmp 0), none⟩,
    ⟨(some 2), .mov (.const (.int .i64 0)), none⟩])
  (.seq (.seq (.ops [⟨(some 7), .load true 7 (.tmp 1), none⟩,
    ⟨(some 8), .call 110 [(.tmp 7)], none⟩])
  (.cond (.tmp 8)
  (.seq (.ops [⟨(some 2), .mov (.const (.int .i64 16)), none⟩])
  .ret)
  .skip))
  (.seq (.ops [⟨(some 9), .fieldAddr 2 (.tmp 1), none⟩,
    ⟨(some 10), .load true 5 (.tmp 9), none⟩,
    ⟨(some 3), .alloc [(.int .i64 0), (.int .i64 0), (.int .i64 0), (.int .i64 0), (.slice none 0 0)], none⟩,
    ⟨none, .store 5 (.tmp 3) (.tmp 10), none⟩])
  (.seq (.ops [⟨(some 4), .mov (.const (.int .i64 16)), none⟩])
  (.seq (.seq (.ops [⟨(some 11), .fieldAddr 0 (.tmp 3), none⟩,
    ⟨(some 12), .load false 1 (.tmp 11), none⟩])
  (.block 0 (.seq (.ops [⟨(some 14), .bin .eql (.tmp 12) (.const (.int .i64 14)) (some (.int .i64)), none⟩,
    ⟨(some 13), .mov (.tmp 14), none⟩])
  (.cond (.tmp 13)
  (.ops [⟨(some 15), .mov (.tmp 4), none⟩,
    ⟨(some 16), .fieldAddr 1 (.tmp 3), none⟩,
    ⟨(some 17), .load false 1 (.tmp 16), none⟩,
    ⟨(some 18), .bin .add (.tmp 15) (.tmp 17) (some (.int .i64)), none⟩,
    ⟨(some 4), .mov (.tmp 18), none⟩])
  (.seq (.ops [⟨(some 20), .bin .eql (.tmp 12) (.const (.int .i64 16)) (some (.int .i64)), none⟩,
    ⟨(some 19), .mov (.tmp 20), none⟩])
  (.cond (.tmp 19)
  (.ops [⟨(some 21), .mov (.tmp 4), none⟩,
    ⟨(some 22), .fieldAddr 1 (.tmp 3), none⟩,
    ⟨(some 23), .load false 1 (.tmp 22), none⟩,
    ⟨(some 24), .fieldAddr 4 (.tmp 3), none⟩,
    ⟨(some 25), .load false 1 (.tmp 24), none⟩,
    ⟨(some 26), .indexAddr 7 (.tmp 25) (.const (.int .i64 0)), none⟩,
    ⟨(some 27), .load true 7 (.tmp 26), none⟩,
    ⟨(some 28), .call 213 [(.tmp 27)], none⟩,
    ⟨none, .again 23 false 1 (.tmp 22), none⟩,
    ⟨(some 29), .bin .mul (.tmp 23) (.tmp 28) (some (.int .i64)), none⟩,
    ⟨(some 30), .bin .add (.tmp 21) (.tmp 29) (some (.int .i64)), none⟩,
    ⟨(some 4), .mov (.tmp 30), none⟩])
  (.seq (.ops [⟨(some 32), .bin .eql (.tmp 12) (.const (.int .i64 17)) (some (.int .i64)), none⟩,
    ⟨(some 31), .mov (.tmp 32), none⟩])
  (.cond (.tmp 31)
  (.seq (.ops [⟨(some 33), .fieldAddr 4 (.tmp 3), none⟩,
    ⟨(some 34), .load false 1 (.tmp 33), none⟩,
    ⟨(some 35), .len 1 (.tmp 34), none⟩,
    ⟨(some 36), .mov (.const (.int .i64 0)), none⟩])
  (.block 1 (.loop (.seq (.ops [⟨(some 37), .bin .lss (.tmp 36) (.tmp 35) (some (.int .i64)), none⟩])
  (.seq (.cond (.tmp 37)
  .skip
  (.exit 1))
  (.seq (.block 2 (.seq (.ops [⟨(some 38), .indexAddr 7 (.tmp 34) (.tmp 36), none⟩,
    ⟨(some 39), .load true 7 (.tmp 38), none⟩,
    ⟨(some 6), .alloc [(.string ⟨#[]⟩), (.bool false), (.int .i64 0), (.int .i64 0), (.int .i64 0), (.int .i64 0), (.slice none 0 0)], none⟩,
    ⟨none, .store 7 (.tmp 6) (.tmp 39), none⟩])
  (.ops [⟨(some 40), .mov (.tmp 4), none⟩,
    ⟨(some 41), .load true 7 (.tmp 6), none⟩,
    ⟨(some 42), .call 213 [(.tmp 41)], none⟩,
    ⟨(some 43), .bin .add (.tmp 40) (.tmp 42) (some (.int .i64)), none⟩,
    ⟨(some 4), .mov (.tmp 43), none⟩])))
  (.ops [⟨(some 44), .bin .add (.tmp 36) (.const (.int .i64 1)) (some (.int .i64)), none⟩,
    ⟨(some 36), .mov (.tmp 44), none⟩])))))))
  (.seq (.ops [⟨(some 46), .bin .eql (.tmp 12) (.const (.int .i64 18)) (some (.int .i64)), none⟩,
    ⟨(some 45), .mov (.tmp 46), none⟩])
  (.cond (.tmp 45)
  (.ops [⟨(some 47), .mov (.tmp 4), none⟩,
    ⟨(some 48), .fieldAddr 4 (.tmp 3), none⟩,
    ⟨(some 49), .load false 1 (.tmp 48), none⟩,
    ⟨(some 50), .indexAddr 7 (.tmp 49) (.const (.int .i64 0)), none⟩,
    ⟨(some 51), .load true 7 (.tmp 50), none⟩,
    ⟨(some 52), .call 213 [(.tmp 51)], none⟩,
    ⟨(some 53), .bin .add (.tmp 47) (.tmp 52) (some (.int .i64)), none⟩,
    ⟨(some 4), .mov (.tmp 53), none⟩])
  (.seq (.seq (.ops [⟨(some 55), .bin .eql (.tmp 12) (.const (.int .i64 19)) (some (.int .i64)), none⟩,
    ⟨(some 54), .mov (.tmp 55), none⟩])
  (.cond (.tmp 54)
  .skip
  (.ops [⟨(some 56), .bin .eql (.tmp 12) (.const (.int .i64 20)) (some (.int .i64)), none⟩,
    ⟨(some 54), .mov (.tmp 56), none⟩])))
  (.cond (.tmp 54)
  (.ops [⟨(some 57), .fieldAddr 4 (.tmp 3), none⟩,
    ⟨(some 58), .load false 1 (.tmp 57), none⟩,
    ⟨(some 59), .indexAddr 7 (.tmp 58) (.const (.int .i64 0)), none⟩,
    ⟨(some 60), .load true 7 (.tmp 59), none⟩,
    ⟨(some 61), .call 213 [(.tmp 60)], none⟩,
    ⟨(some 4), .mov (.tmp 61), none⟩])
  .skip))))))))))))
  (.seq (.ops [⟨(some 62), .mov (.tmp 4), none⟩,
    ⟨(some 63), .minmax false (.tmp 62) [(.const (.int .i64 4194305))], none⟩,
    ⟨(some 2), .mov (.tmp 63), none⟩])
  .ret))))))⟩
theorem F213_ok : compF Tryz.prog 213 = some F213 := by kernel_rfl
/-- colonnade/value.zero -/
def F214 : FC := ⟨72, [.cell 2 true 4],
  (.seq (.ops [⟨(some 1), .box (.tmp 0), none⟩,
    ⟨(some 2), .alloc [(.bool false), (.int .i64 0), (.string ⟨#[]⟩), (.slice none 0 0)], none⟩])
  (.seq (.seq (.ops [⟨(some 7), .load true 7 (.tmp 1), none⟩,
    ⟨(some 8), .call 110 [(.tmp 7)], none⟩])
  (.cond (.tmp 8)
  (.seq (.ops [⟨(some 9), .build [(.bool false), (.int .i64 0), (.string ⟨#[]⟩), (.slice none 0 0)] [(0, 1, (.const (.bool true)))], none⟩,
    ⟨none, .store 4 (.tmp 2) (.tmp 9), none⟩])
  .ret)
  .skip))
  (.seq (.ops [⟨(some 3), .alloc [(.bool false), (.int .i64 0), (.string ⟨#[]⟩), (.slice none 0 0)], none⟩])
  (.seq (.ops [⟨(some 10), .fieldAddr 2 (.tmp 1), none⟩,
    ⟨(some 11), .load true 5 (.tmp 10), none⟩,
    ⟨(some 4), .alloc [(.int .i64 0), (.int .i64 0), (.int .i64 0), (.int .i64 0), (.slice none 0 0)], none⟩,
    ⟨none, .store 5 (.tmp 4) (.tmp 11), none⟩])
  (.seq (.seq (.ops [⟨(some 12), .fieldAddr 0 (.tmp 4), none⟩,
    ⟨(some 13), .load false 1 (.tmp 12), none⟩])
  (.block 0 (.seq (.ops [⟨(some 15), .bin .eql (.tmp 13) (.const (.int .i64 14)) (some (.int .i64)), none⟩,
    ⟨(some 14), .mov (.tmp 15), none⟩])
  (.cond (.tmp 14)
  (.ops [⟨(some 16), .fieldAddr 1 (.tmp 4), none⟩,
    ⟨(some 17), .load false 1 (.tmp 16), none⟩,
    ⟨(some 18), .call 240 [(.const (.string ⟨#[0]⟩)), (.tmp 17)], none⟩,
    ⟨(some 19), .fieldAddr 2 (.tmp 3), none⟩,
    ⟨none, .store 1 (.tmp 19) (.tmp 18), none⟩])
  (.seq (.ops [⟨(some 21), .bin .eql (.tmp 13) (.const (.int .i64 16)) (some (.int .i64)), none⟩,
    ⟨(some 20), .mov (.tmp 21), none⟩])
  (.cond (.tmp 20)
  (.seq (.ops [⟨(some 22), .fieldAddr 1 (.tmp 4), none⟩,
    ⟨(some 23), .load false 1 (.tmp 22), none⟩,
    ⟨(some 24), .mov (.const (.int .i64 0)), none⟩])
  (.block 1 (.loop (.seq (.ops [⟨(some 25), .bin .lss (.tmp 24) (.tmp 23) (some (.int .i64)), none⟩])
  (.seq (.cond (.tmp 25)
  .skip
  (.exit 1))
  (.seq (.block 2 (.ops [⟨(some 26), .fieldAddr 3 (.tmp 3), none⟩,
    ⟨(some 27), .load false 1 (.tmp 26), none⟩,
    ⟨(some 28), .fieldAddr 4 (.tmp 4), none⟩,
    ⟨(some 29), .load false 1 (.tmp 28), none⟩,
    ⟨(some 30), .indexAddr 7 (.tmp 29) (.const (.int .i64 0)), none⟩,
    ⟨(some 31), .load true 7 (.tmp 30), none⟩,
    ⟨(some 32), .call 214 [(.tmp 31)], none⟩,
    ⟨none, .again 27 false 1 (.tmp 26), none⟩,
    ⟨(some 33), .buildSlice 4 1 [(.bool false), (.int .i64 0), (.string ⟨#[]⟩), (.slice none 0 0)] [(0, 4, (.tmp 32))], none⟩,
    ⟨none, .again 27 false 1 (.tmp 26), none⟩,
    ⟨(some 34), .append 4 56 (.tmp 27) (.tmp 33), none⟩,
    ⟨(some 35), .fieldAddr 3 (.tmp 3), none⟩,
    ⟨none, .store 1 (.tmp 35) (.tmp 34), none⟩]))
  (.ops [⟨(some 36), .bin .add (.tmp 24) (.const (.int .i64 1)) (some (.int .i64)), none⟩,
    ⟨(some 24), .mov (.tmp 36), none⟩])))))))
  (.seq (.ops [⟨(some 38), .bin .eql (.tmp 13) (.const (.int .i64 17)) (some (.int .i64)), none⟩,
    ⟨(some 37), .mov (.tmp 38), none⟩])
  (.cond (.tmp 37)
  (.seq (.ops [⟨(some 39), .fieldAddr 4 (.tmp 4), none⟩,
    ⟨(some 40), .load false 1 (.tmp 39), none⟩,
    ⟨(some 41), .len 1 (.tmp 40), none⟩,
    ⟨(some 42), .mov (.const (.int .i64 0)), none⟩])
  (.block 3 (.loop (.seq (.ops [⟨(some 43), .bin .lss (.tmp 42) (.tmp 41) (some (.int .i64)), none⟩])
  (.seq (.cond (.tmp 43)
  .skip
  (.exit 3))
  (.seq (.block 4 (.seq (.ops [⟨(some 44), .indexAddr 7 (.tmp 40) (.tmp 42), none⟩,
    ⟨(some 45), .load true 7 (.tmp 44), none⟩,
    ⟨(some 6), .alloc [(.string ⟨#[]⟩), (.bool false), (.int .i64 0), (.int .i64 0), (.int .i64 0), (.int .i64 0), (.slice none 0 0)], none⟩,
    ⟨none, .store 7 (.tmp 6) (.tmp 45), none⟩])
  (.ops [⟨(some 46), .fieldAddr 3 (.tmp 3), none⟩,
    ⟨(some 47), .load false 1 (.tmp 46), none⟩,
    ⟨(some 48), .load true 7 (.tmp 6), none⟩,
    ⟨(some 49), .call 214 [(.tmp 48)], none⟩,
    ⟨none, .again 47 false 1 (.tmp 46), none⟩,
    ⟨(some 50), .buildSlice 4 1 [(.bool false), (.int .i64 0), (.string ⟨#[]⟩), (.slice none 0 0)] [(0, 4, (.tmp 49))], none⟩,
    ⟨none, .again 47 false 1 (.tmp 46), none⟩,
    ⟨(some 51), .append 4 56 (.tmp 47) (.tmp 50), none⟩,
    ⟨(some 52), .fieldAddr 3 (.tmp 3), none⟩,
    ⟨none, .store 1 (.tmp 52) (.tmp 51), none⟩])))
  (.ops [⟨(some 53), .bin .add (.tmp 42) (.const (.int .i64 1)) (some (.int .i64)), none⟩,
    ⟨(some 42), .mov (.tmp 53), none⟩])))))))
  (.seq (.ops [⟨(some 55), .bin .eql (.tmp 13) (.const (.int .i64 18)) (some (.int .i64)), none⟩,
    ⟨(some 54), .mov (.tmp 55), none⟩])
  (.cond (.tmp 54)
  (.ops [⟨(some 56), .fieldAddr 4 (.tmp 4), none⟩,
    ⟨(some 57), .load false 1 (.tmp 56), none⟩,
    ⟨(some 58), .indexAddr 7 (.tmp 57) (.const (.int .i64 0)), none⟩,
    ⟨(some 59), .load true 7 (.tmp 58), none⟩,
    ⟨(some 60), .call 214 [(.tmp 59)], none⟩,
    ⟨(some 61), .buildSlice 4 1 [(.bool false), (.int .i64 0), (.string ⟨#[]⟩), (.slice none 0 0)] [(0, 4, (.tmp 60))], none⟩,
    ⟨(some 62), .fieldAddr 3 (.tmp 3), none⟩,
    ⟨none, .store 1 (.tmp 62) (.tmp 61), none⟩])
  (.seq (.seq (.ops [⟨(some 64), .bin .eql (.tmp 13) (.const (.int .i64 19)) (some (.int .i64)), none⟩,
    ⟨(some 63), .mov (.tmp 64), none⟩])
  (.cond (.tmp 63)
  .skip
  (.ops [⟨(some 65), .bin .eql (.tmp 13) (.const (.int .i64 20)) (some (.int .i64)), none⟩,
    ⟨(some 63), .mov (.tmp 65), none⟩])))
  (.cond (.tmp 63)
  (.seq (.ops [⟨(some 66), .fieldAddr 4 (.tmp 4), none⟩,
    ⟨(some 67), .load false 1 (.tmp 66), none⟩,
    ⟨(some 68), .indexAddr 7 (.tmp 67) (.const (.int .i64 0)), none⟩,
    ⟨(some 69), .load true 7 (.tmp 68), none⟩,
    ⟨(some 70), .call 214 [(.tmp 69)], none⟩,
    ⟨none, .store 4 (.tmp 2) (.tmp 70), none⟩])
  .ret)
  .skip))))))))))))
  (.seq (.ops [⟨(some 71), .load true 4 (.tmp 3), none⟩,
    ⟨none, .store 4 (.tmp 2) (.tmp 71), none⟩])
  .ret))))))⟩
theorem F214_ok : compF Tryz.prog 214 = some F214 := by kernel_rfl
/-- colonnade/array.sizes -/
def F215 : FC := ⟨161, [.cell 4 true 3],
  (.seq (.ops [⟨(some 2), .box (.tmp 0), none⟩,
    ⟨(some 3), .box (.tmp 1), none⟩,
    ⟨(some 4), .alloc [(.int .i64 0), (.slice none 0 0), (.int .i64 0)], none⟩])
  (.seq (.ops [⟨(some 16), .fieldAddr 2 (.tmp 2), none⟩,
    ⟨(some 17), .load true 5 (.tmp 16), none⟩,
    ⟨(some 18), .call 241 [(.tmp 17)], none⟩,
    ⟨(some 15), .mov (.tmp 18), none⟩,
    ⟨(some 19), .extract (.tmp 15) 0, none⟩,
    ⟨(some 20), .extract (.tmp 15) 1, none⟩,
    ⟨(some 21), .extract (.tmp 15) 2, none⟩,
    ⟨(some 5), .mov (.tmp 19), none⟩,
    ⟨(some 6), .mov (.tmp 20), none⟩,
    ⟨(some 7), .mov (.tmp 21), none⟩])
  (.seq (.ops [⟨(some 22), .fieldAddr 1 (.tmp 3), none⟩,
    ⟨(some 23), .load false 1 (.tmp 22), none⟩,
    ⟨(some 24), .fieldAddr 0 (.tmp 3), none⟩,
    ⟨(some 25), .load false 1 (.tmp 24), none⟩,
    ⟨(some 26), .bin .add (.tmp 23) (.tmp 25) (some (.int .i64)), none⟩,
    ⟨(some 8), .mov (.tmp 26), none⟩])
  (.seq (.block 0 (.seq (.ops [⟨(some 28), .fieldAddr 3 (.tmp 3), none⟩,
    ⟨(some 29), .load false 1 (.tmp 28), none⟩,
    ⟨(some 30), .len 1 (.tmp 29), none⟩,
    ⟨(some 31), .mov (.tmp 5), none⟩,
    ⟨(some 32), .bin .neq (.tmp 30) (.tmp 31) (some (.int .i64)), none⟩,
    ⟨(some 33), .mov (.tmp 32), none⟩,
    ⟨(some 34), .fieldAddr 4 (.tmp 3), (some (33, false))⟩,
    ⟨(some 35), .load false 1 (.tmp 34), (some (33, false))⟩,
    ⟨(some 36), .len 1 (.tmp 35), (some (33, false))⟩,
    ⟨(some 37), .mov (.tmp 6), (some (33, false))⟩,
    ⟨(some 38), .bin .neq (.tmp 36) (.tmp 37) (some (.int .i64)), (some (33, false))⟩,
    ⟨(some 39), .pick (.tmp 33) (.const (.bool true)) (.tmp 38), none⟩,
    ⟨(some 40), .mov (.tmp 39), none⟩,
    ⟨(some 41), .fieldAddr 5 (.tmp 3), (some (40, false))⟩,
    ⟨(some 42), .load false 1 (.tmp 41), (some (40, false))⟩,
    ⟨(some 43), .len 1 (.tmp 42), (some (40, false))⟩,
    ⟨(some 44), .mov (.tmp 7), (some (40, false))⟩,
    ⟨(some 45), .bin .neq (.tmp 43) (.tmp 44) (some (.int .i64)), (some (40, false))⟩,
    ⟨(some 46), .pick (.tmp 40) (.const (.bool true)) (.tmp 45), none⟩,
    ⟨(some 27), .mov (.tmp 46), none⟩])
  (.cond (.tmp 27)
  (.seq (.ops [⟨(some 47), .call 180 [(.const (.int .i64 80)), (.const (.int .i64 0))], none⟩,
    ⟨none, .store 3 (.tmp 4) (.tmp 47), none⟩])
  .ret)
  (.seq (.ops [⟨(some 49), .fieldAddr 0 (.tmp 3), none⟩,
    ⟨(some 50), .load false 1 (.tmp 49), none⟩,
    ⟨(some 51), .bin .lss (.tmp 50) (.const (.int .i64 0)) (some (.int .i64)), none⟩,
    ⟨(some 52), .mov (.tmp 51), none⟩,
    ⟨(some 53), .fieldAddr 1 (.tmp 3), (some (52, false))⟩,
    ⟨(some 54), .load false 1 (.tmp 53), (some (52, false))⟩,
    ⟨(some 55), .bin .lss (.tmp 54) (.const (.int .i64 0)) (some (.int .i64)), (some (52, false))⟩,
    ⟨(some 56), .pick (.tmp 52) (.const (.bool true)) (.tmp 55), none⟩,
    ⟨(some 57), .mov (.tmp 56), none⟩,
    ⟨(some 58), .fieldAddr 2 (.tmp 3), (some (57, false))⟩,
    ⟨(some 59), .load false 1 (.tmp 58), (some (57, false))⟩,
    ⟨(some 60), .bin .lss (.tmp 59) (.const (.int .i64 0)) (some (.int .i64)), (some (57, false))⟩,
    ⟨(some 61), .pick (.tmp 57) (.const (.bool true)) (.tmp 60), none⟩,
    ⟨(some 62), .mov (.tmp 61), none⟩,
    ⟨(some 63), .fieldAddr 2 (.tmp 3), (some (62, false))⟩,
    ⟨(some 64), .load false 1 (.tmp 63), (some (62, false))⟩,
    ⟨(some 65), .fieldAddr 0 (.tmp 3), (some (62, false))⟩,
    ⟨(some 66), .load false 1 (.tmp 65), (some (62, false))⟩,
    ⟨(some 67), .bin .gtr (.tmp 64) (.tmp 66) (some (.int .i64)), (some (62, false))⟩,
    ⟨(some 68), .pick (.tmp 62) (.const (.bool true)) (.tmp 67), none⟩,
    ⟨(some 48), .mov (.tmp 68), none⟩])
  (.cond (.tmp 48)
  (.seq (.ops [⟨(some 69), .call 180 [(.const (.int .i64 81)), (.const (.int .i64 0))], none⟩,
    ⟨none, .store 3 (.tmp 4) (.tmp 69), none⟩])
  .ret)
  (.seq (.ops [⟨(some 71), .fieldAddr 0 (.tmp 3), none⟩,
    ⟨(some 72), .load false 1 (.tmp 71), none⟩,
    ⟨(some 73), .bin .gtr (.tmp 72) (.const (.int .i64 4096)) (some (.int .i64)), none⟩,
    ⟨(some 74), .mov (.tmp 73), none⟩,
    ⟨(some 75), .fieldAddr 1 (.tmp 3), (some (74, false))⟩,
    ⟨(some 76), .load false 1 (.tmp 75), (some (74, false))⟩,
    ⟨(some 77), .bin .gtr (.tmp 76) (.const (.int .i64 4096)) (some (.int .i64)), (some (74, false))⟩,
    ⟨(some 78), .pick (.tmp 74) (.const (.bool true)) (.tmp 77), none⟩,
    ⟨(some 79), .mov (.tmp 78), none⟩,
    ⟨(some 80), .mov (.tmp 8), (some (79, false))⟩,
    ⟨(some 81), .bin .gtr (.tmp 80) (.const (.int .i64 4096)) (some (.int .i64)), (some (79, false))⟩,
    ⟨(some 82), .pick (.tmp 79) (.const (.bool true)) (.tmp 81), none⟩,
    ⟨(some 70), .mov (.tmp 82), none⟩])
  (.cond (.tmp 70)
  (.seq (.ops [⟨(some 83), .call 180 [(.const (.int .i64 3)), (.const (.int .i64 0))], none⟩,
    ⟨none, .store 3 (.tmp 4) (.tmp 83), none⟩])
  .ret)
  .skip)))))))
  (.seq (.seq (.ops [⟨(some 84), .fieldAddr 3 (.tmp 3), none⟩,
    ⟨(some 85), .load false 1 (.tmp 84), none⟩,
    ⟨(some 86), .len 1 (.tmp 85), none⟩,
    ⟨(some 87), .mov (.const (.int .i64 0)), none⟩])
  (.block 1 (.loop (.seq (.ops [⟨(some 88), .bin .lss (.tmp 87) (.tmp 86) (some (.int .i64)), none⟩])
  (.seq (.cond (.tmp 88)
  .skip
  (.exit 1))
  (.seq (.block 2 (.seq (.ops [⟨(some 89), .mov (.tmp 87), none⟩,
    ⟨(some 90), .indexAddr 1 (.tmp 85) (.tmp 87), none⟩,
    ⟨(some 91), .load false 1 (.tmp 90), none⟩,
    ⟨(some 9), .mov (.tmp 89), none⟩,
    ⟨(some 10), .mov (.tmp 91), none⟩])
  (.seq (.ops [⟨(some 92), .mov (.tmp 10), none⟩,
    ⟨(some 93), .len 1 (.tmp 92), none⟩,
    ⟨(some 94), .bin .gtr (.tmp 93) (.const (.int .i64 65536)) (some (.int .i64)), none⟩])
  (.cond (.tmp 94)
  (.seq (.ops [⟨(some 95), .mov (.tmp 9), none⟩,
    ⟨(some 96), .call 180 [(.const (.int .i64 4)), (.tmp 95)], none⟩,
    ⟨none, .store 3 (.tmp 4) (.tmp 96), none⟩])
  .ret)
  .skip))))
  (.ops [⟨(some 97), .bin .add (.tmp 87) (.const (.int .i64 1)) (some (.int .i64)), none⟩,
    ⟨(some 87), .mov (.tmp 97), none⟩])))))))
  (.seq (.seq (.ops [⟨(some 98), .fieldAddr 3 (.tmp 3), none⟩,
    ⟨(some 99), .load false 1 (.tmp 98), none⟩,
    ⟨(some 100), .len 1 (.tmp 99), none⟩,
    ⟨(some 101), .mov (.const (.int .i64 0)), none⟩])
  (.block 3 (.loop (.seq (.ops [⟨(some 102), .bin .lss (.tmp 101) (.tmp 100) (some (.int .i64)), none⟩])
  (.seq (.cond (.tmp 102)
  .skip
  (.exit 3))
  (.seq (.block 4 (.seq (.ops [⟨(some 103), .mov (.tmp 101), none⟩,
    ⟨(some 104), .indexAddr 1 (.tmp 99) (.tmp 101), none⟩,
    ⟨(some 105), .load false 1 (.tmp 104), none⟩,
    ⟨(some 11), .mov (.tmp 103), none⟩,
    ⟨(some 12), .mov (.tmp 105), none⟩])
  (.seq (.ops [⟨(some 106), .mov (.tmp 12), none⟩,
    ⟨(some 107), .len 1 (.tmp 106), none⟩,
    ⟨(some 108), .fieldAddr 2 (.tmp 2), none⟩,
    ⟨(some 109), .load true 5 (.tmp 108), none⟩,
    ⟨(some 110), .mov (.tmp 11), none⟩,
    ⟨(some 111), .mov (.tmp 8), none⟩,
    ⟨(some 112), .mov (.tmp 12), none⟩,
    ⟨(some 113), .len 1 (.tmp 112), none⟩,
    ⟨(some 114), .call 242 [(.tmp 109), (.tmp 110), (.tmp 111), (.tmp 113)], none⟩,
    ⟨(some 115), .bin .lss (.tmp 107) (.tmp 114) (some (.int .i64)), none⟩])
  (.cond (.tmp 115)
  (.seq (.ops [⟨(some 116), .mov (.tmp 11), none⟩,
    ⟨(some 117), .call 180 [(.const (.int .i64 82)), (.tmp 116)], none⟩,
    ⟨none, .store 3 (.tmp 4) (.tmp 117), none⟩])
  .ret)
  .skip))))
  (.ops [⟨(some 118), .bin .add (.tmp 101) (.const (.int .i64 1)) (some (.int .i64)), none⟩,
    ⟨(some 101), .mov (.tmp 118), none⟩])))))))
  (.seq (.seq (.ops [⟨(some 119), .fieldAddr 4 (.tmp 3), none⟩,
    ⟨(some 120), .load false 1 (.tmp 119), none⟩,
    ⟨(some 121), .len 1 (.tmp 120), none⟩,
    ⟨(some 122), .mov (.const (.int .i64 0)), none⟩])
  (.block 5 (.loop (.seq (.ops [⟨(some 123), .bin .lss (.tmp 122) (.tmp 121) (some (.int .i64)), none⟩])
  (.seq (.cond (.tmp 123)
  .skip
  (.exit 5))
  (.seq (.block 6 (.seq (.ops [⟨(some 124), .mov (.tmp 122), none⟩,
    ⟨(some 125), .indexAddr 6 (.tmp 120) (.tmp 122), none⟩,
    ⟨(some 126), .load true 6 (.tmp 125), none⟩,
    ⟨(some 14), .alloc [(.int .i64 0), (.int .i64 0), (.int .i64 0), (.slice none 0 0), (.slice none 0 0), (.slice none 0 0)], none⟩,
    ⟨(some 13), .mov (.tmp 124), none⟩,
    ⟨none, .store 6 (.tmp 14) (.tmp 126), none⟩])
  (.seq (.ops [⟨(some 127), .fieldAddr 2 (.tmp 2), none⟩,
    ⟨(some 128), .fieldAddr 0 (.tmp 127), none⟩,
    ⟨(some 129), .load false 1 (.tmp 128), none⟩,
    ⟨(some 130), .bin .eql (.tmp 129) (.const (.int .i64 16)) (some (.int .i64)), none⟩,
    ⟨(some 131), .mov (.tmp 130), none⟩,
    ⟨(some 132), .fieldAddr 0 (.tmp 14), (some (131, true))⟩,
    ⟨(some 133), .load false 1 (.tmp 132), (some (131, true))⟩,
    ⟨(some 134), .mov (.tmp 8), (some (131, true))⟩,
    ⟨(some 135), .fieldAddr 2 (.tmp 2), (some (131, true))⟩,
    ⟨(some 136), .fieldAddr 1 (.tmp 135), (some (131, true))⟩,
    ⟨(some 137), .load false 1 (.tmp 136), (some (131, true))⟩,
    ⟨(some 138), .bin .mul (.tmp 134) (.tmp 137) (some (.int .i64)), (some (131, true))⟩,
    ⟨(some 139), .bin .lss (.tmp 133) (.tmp 138) (some (.int .i64)), (some (131, true))⟩,
    ⟨(some 140), .pick (.tmp 131) (.tmp 139) (.const (.bool false)), none⟩,
    ⟨(some 141), .mov (.tmp 140), none⟩,
    ⟨(some 142), .fieldAddr 2 (.tmp 2), (some (141, false))⟩,
    ⟨(some 143), .fieldAddr 0 (.tmp 142), (some (141, false))⟩,
    ⟨(some 144), .load false 1 (.tmp 143), (some (141, false))⟩,
    ⟨(some 145), .bin .eql (.tmp 144) (.const (.int .i64 17)) (some (.int .i64)), (some (141, false))⟩,
    ⟨(some 146), .mov (.tmp 145), (some (141, false))⟩,
    ⟨(some 147), .fieldAddr 0 (.tmp 14), (some (146, true))⟩,
    ⟨(some 148), .load false 1 (.tmp 147), (some (146, true))⟩,
    ⟨(some 149), .mov (.tmp 8), (some (146, true))⟩,
    ⟨(some 150), .bin .lss (.tmp 148) (.tmp 149) (some (.int .i64)), (some (146, true))⟩,
    ⟨(some 151), .pick (.tmp 146) (.tmp 150) (.const (.bool false)), (some (141, false))⟩,
    ⟨(some 152), .pick (.tmp 141) (.const (.bool true)) (.tmp 151), none⟩])
  (.cond (.tmp 152)
  (.seq (.ops [⟨(some 153), .mov (.tmp 5), none⟩,
    ⟨(some 154), .mov (.tmp 13), none⟩,
    ⟨(some 155), .bin .add (.tmp 153) (.tmp 154) (some (.int .i64)), none⟩,
    ⟨(some 156), .call 180 [(.const (.int .i64 82)), (.tmp 155)], none⟩,
    ⟨none, .store 3 (.tmp 4) (.tmp 156), none⟩])
  .ret)
  .skip))))
  (.ops [⟨(some 157), .bin .add (.tmp 122) (.const (.int .i64 1)) (some (.int .i64)), none⟩,
    ⟨(some 122), .mov (.tmp 157), none⟩])))))))
  (.seq (.ops [⟨(some 158), .load true 7 (.tmp 2), none⟩,
    ⟨(some 159), .load true 6 (.tmp 3), none⟩,
    ⟨(some 160), .call 243 [(.tmp 158), (.tmp 159)], none⟩,
    ⟨none, .store 3 (.tmp 4) (.tmp 160), none⟩])
  .ret))))))))⟩
theorem F215_ok : compF Tryz.prog 215 = some F215 := by kernel_rfl
/-- colonnade/array.rows -/
def F216 : FC := ⟨95, [.cell 4 true 3],
  (.seq (.ops [⟨(some 2), .box (.tmp 0), none⟩,
    ⟨(some 3), .box (.tmp 1), none⟩,
    ⟨(some 4), .alloc [(.int .i64 0), (.slice none 0 0), (.int .i64 0)], none⟩])
  (.seq (.seq (.ops [⟨(some 11), .fieldAddr 2 (.tmp 2), none⟩,
    ⟨(some 12), .fieldAddr 0 (.tmp 11), none⟩,
    ⟨(some 13), .load false 1 (.tmp 12), none⟩])
  (.block 0 (.seq (.seq (.ops [⟨(some 15), .bin .eql (.tmp 13) (.const (.int .i64 12)) (some (.int .i64)), none⟩,
    ⟨(some 14), .mov (.tmp 15), none⟩])
  (.cond (.tmp 14)
  .skip
  (.seq (.ops [⟨(some 16), .bin .eql (.tmp 13) (.const (.int .i64 13)) (some (.int .i64)), none⟩,
    ⟨(some 14), .mov (.tmp 16), none⟩])
  (.cond (.tmp 14)
  .skip
  (.ops [⟨(some 17), .bin .eql (.tmp 13) (.const (.int .i64 15)) (some (.int .i64)), none⟩,
    ⟨(some 14), .mov (.tmp 17), none⟩])))))
  (.cond (.tmp 14)
  (.seq (.ops [⟨(some 18), .load true 7 (.tmp 2), none⟩,
    ⟨(some 19), .load true 6 (.tmp 3), none⟩,
    ⟨(some 20), .call 244 [(.tmp 18), (.tmp 19)], none⟩,
    ⟨none, .store 3 (.tmp 4) (.tmp 20), none⟩])
  .ret)
  (.seq (.ops [⟨(some 22), .bin .eql (.tmp 13) (.const (.int .i64 18)) (some (.int .i64)), none⟩,
    ⟨(some 21), .mov (.tmp 22), none⟩])
  (.cond (.tmp 21)
  (.seq (.ops [⟨(some 23), .fieldAddr 0 (.tmp 3), none⟩,
    ⟨(some 24), .load false 1 (.tmp 23), none⟩,
    ⟨(some 25), .mov (.const (.int .i64 0)), none⟩])
  (.block 1 (.loop (.seq (.ops [⟨(some 26), .bin .lss (.tmp 25) (.tmp 24) (some (.int .i64)), none⟩])
  (.seq (.cond (.tmp 26)
  .skip
  (.exit 1))
  (.seq (.block 2 (.seq (.ops [⟨(some 27), .mov (.tmp 25), none⟩,
    ⟨(some 5), .mov (.tmp 27), none⟩])
  (.seq (.ops [⟨(some 28), .fieldAddr 1 (.tmp 3), none⟩,
    ⟨(some 29), .load false 1 (.tmp 28), none⟩,
    ⟨(some 30), .mov (.tmp 5), none⟩,
    ⟨(some 31), .bin .add (.tmp 29) (.tmp 30) (some (.int .i64)), none⟩,
    ⟨(some 6), .mov (.tmp 31), none⟩])
  (.seq (.ops [⟨(some 32), .fieldAddr 3 (.tmp 3), none⟩,
    ⟨(some 33), .load false 1 (.tmp 32), none⟩,
    ⟨(some 34), .indexAddr 1 (.tmp 33) (.const (.int .i64 0)), none⟩,
    ⟨(some 35), .load false 1 (.tmp 34), none⟩,
    ⟨(some 36), .mov (.tmp 6), none⟩,
    ⟨(some 37), .indexAddr 1 (.tmp 35) (.tmp 36), none⟩,
    ⟨(some 38), .load false 1 (.tmp 37), none⟩,
    ⟨(some 39), .conv .i64 (.tmp 38), none⟩,
    ⟨(some 7), .mov (.tmp 39), none⟩])
  (.seq (.seq (.ops [⟨(some 40), .mov (.tmp 7), none⟩,
    ⟨(some 41), .fieldAddr 4 (.tmp 3), none⟩,
    ⟨(some 42), .load false 1 (.tmp 41), none⟩,
    ⟨(some 43), .len 1 (.tmp 42), none⟩,
    ⟨(some 44), .bin .geq (.tmp 40) (.tmp 43) (some (.int .i64)), none⟩])
  (.cond (.tmp 44)
  (.seq (.ops [⟨(some 45), .mov (.tmp 5), none⟩,
    ⟨(some 46), .call 180 [(.const (.int .i64 85)), (.tmp 45)], none⟩,
    ⟨none, .store 3 (.tmp 4) (.tmp 46), none⟩])
  .ret)
  .skip))
  (.seq (.ops [⟨(some 47), .fieldAddr 3 (.tmp 3), none⟩,
    ⟨(some 48), .load false 1 (.tmp 47), none⟩,
    ⟨(some 49), .indexAddr 1 (.tmp 48) (.const (.int .i64 1)), none⟩,
    ⟨(some 50), .load false 1 (.tmp 49), none⟩,
    ⟨(some 51), .mov (.tmp 6), none⟩,
    ⟨(some 52), .call 245 [(.tmp 50), (.tmp 51)], none⟩,
    ⟨(some 8), .mov (.tmp 52), none⟩])
  (.seq (.ops [⟨(some 53), .mov (.tmp 8), none⟩,
    ⟨(some 54), .bin .lss (.tmp 53) (.const (.int .i64 0)) (some (.int .i64)), none⟩,
    ⟨(some 55), .mov (.tmp 54), none⟩,
    ⟨(some 56), .mov (.tmp 8), (some (55, false))⟩,
    ⟨(some 57), .fieldAddr 4 (.tmp 3), (some (55, false))⟩,
    ⟨(some 58), .load false 1 (.tmp 57), (some (55, false))⟩,
    ⟨(some 59), .mov (.tmp 7), (some (55, false))⟩,
    ⟨(some 60), .indexAddr 6 (.tmp 58) (.tmp 59), (some (55, false))⟩,
    ⟨(some 61), .fieldAddr 0 (.tmp 60), (some (55, false))⟩,
    ⟨(some 62), .load false 1 (.tmp 61), (some (55, false))⟩,
    ⟨(some 63), .bin .geq (.tmp 56) (.tmp 62) (some (.int .i64)), (some (55, false))⟩,
    ⟨(some 64), .pick (.tmp 55) (.const (.bool true)) (.tmp 63), none⟩])
  (.cond (.tmp 64)
  (.seq (.ops [⟨(some 65), .mov (.tmp 5), none⟩,
    ⟨(some 66), .call 180 [(.const (.int .i64 83)), (.tmp 65)], none⟩,
    ⟨none, .store 3 (.tmp 4) (.tmp 66), none⟩])
  .ret)
  .skip))))))))
  (.ops [⟨(some 67), .bin .add (.tmp 25) (.const (.int .i64 1)) (some (.int .i64)), none⟩,
    ⟨(some 25), .mov (.tmp 67), none⟩])))))))
  (.seq (.ops [⟨(some 69), .bin .eql (.tmp 13) (.const (.int .i64 19)) (some (.int .i64)), none⟩,
    ⟨(some 68), .mov (.tmp 69), none⟩])
  (.cond (.tmp 68)
  (.seq (.ops [⟨(some 70), .fieldAddr 0 (.tmp 3), none⟩,
    ⟨(some 71), .load false 1 (.tmp 70), none⟩,
    ⟨(some 72), .mov (.const (.int .i64 0)), none⟩])
  (.block 3 (.loop (.seq (.ops [⟨(some 73), .bin .lss (.tmp 72) (.tmp 71) (some (.int .i64)), none⟩])
  (.seq (.cond (.tmp 73)
  .skip
  (.exit 3))
  (.seq (.block 4 (.seq (.ops [⟨(some 74), .mov (.tmp 72), none⟩,
    ⟨(some 9), .mov (.tmp 74), none⟩])
  (.seq (.ops [⟨(some 75), .fieldAddr 1 (.tmp 3), none⟩,
    ⟨(some 76), .load false 1 (.tmp 75), none⟩,
    ⟨(some 77), .mov (.tmp 9), none⟩,
    ⟨(some 78), .bin .add (.tmp 76) (.tmp 77) (some (.int .i64)), none⟩,
    ⟨(some 10), .mov (.tmp 78), none⟩])
  (.seq (.ops [⟨(some 79), .load true 7 (.tmp 2), none⟩,
    ⟨(some 80), .load true 6 (.tmp 3), none⟩,
    ⟨(some 81), .mov (.tmp 10), none⟩,
    ⟨(some 82), .call 246 [(.tmp 79), (.tmp 80), (.tmp 81)], none⟩,
    ⟨(some 83), .un .not (.tmp 82), none⟩,
    ⟨(some 84), .mov (.tmp 83), none⟩,
    ⟨(some 85), .load true 7 (.tmp 2), (some (84, true))⟩,
    ⟨(some 86), .load true 6 (.tmp 3), (some (84, true))⟩,
    ⟨(some 87), .mov (.tmp 10), (some (84, true))⟩,
    ⟨(some 88), .call 247 [(.tmp 85), (.tmp 86), (.tmp 87)], (some (84, true))⟩,
    ⟨(some 89), .bin .lss (.tmp 88) (.const (.int .i64 0)) (some (.int .i64)), (some (84, true))⟩,
    ⟨(some 90), .pick (.tmp 84) (.tmp 89) (.const (.bool false)), none⟩])
  (.cond (.tmp 90)
  (.seq (.ops [⟨(some 91), .mov (.tmp 9), none⟩,
    ⟨(some 92), .call 180 [(.const (.int .i64 86)), (.tmp 91)], none⟩,
    ⟨none, .store 3 (.tmp 4) (.tmp 92), none⟩])
  .ret)
  .skip)))))
  (.ops [⟨(some 93), .bin .add (.tmp 72) (.const (.int .i64 1)) (some (.int .i64)), none⟩,
    ⟨(some 72), .mov (.tmp 93), none⟩])))))))
  .skip))))))))
  (.seq (.ops [⟨(some 94), .build [(.int .i64 0), (.slice none 0 0), (.int .i64 0)] [], none⟩,
    ⟨none, .store 3 (.tmp 4) (.tmp 94), none⟩])
  .ret)))⟩
theorem F216_ok : compF Tryz.prog 216 = some F216 := by kernel_rfl
end Go.Proofs.YtpgeonghlabnhaaGreatDoor.Lin
