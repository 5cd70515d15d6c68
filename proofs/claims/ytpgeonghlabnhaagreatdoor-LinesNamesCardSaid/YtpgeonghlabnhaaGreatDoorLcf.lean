/- The code that the call meets, as instructions. No conditions. -/
import Derived.Test.YtpgeonghlabnhaaGreatDoorEm22
import Derived.Test.YtpgeonghlabnhaaGreatDoorProg
import Derived.KernelRfl
set_option linter.unusedVariables false
namespace Go.Proofs.YtpgeonghlabnhaaGreatDoor.Lin
open Go Go.Proofs.YtpgeonghlabnhaaGreatDoor Go.Proofs.YtpgeonghlabnhaaGreatDoor.Em
/-- colonnade/kind.copied -/
def F275 : FC := ⟨25, [.tmp 2],
  (.seq (.ops [⟨(some 2), .mov (.const (.slice none 0 0)), none⟩])
  (.seq (.ops [⟨(some 3), .mov (.const (.slice none 0 0)), none⟩])
  (.seq (.seq (.ops [⟨(some 6), .mov (.tmp 0), none⟩,
    ⟨(some 7), .len 1 (.tmp 6), none⟩,
    ⟨(some 8), .mov (.const (.int .i64 0)), none⟩])
  (.block 0 (.loop (.seq (.ops [⟨(some 9), .bin .lss (.tmp 8) (.tmp 7) (some (.int .i64)), none⟩])
  (.seq (.cond (.tmp 9)
  .skip
  (.exit 0))
  (.seq (.block 1 (.seq (.ops [⟨(some 10), .indexAddr 7 (.tmp 6) (.tmp 8), none⟩,
    ⟨(some 11), .load true 7 (.tmp 10), none⟩,
    ⟨(some 5), .alloc [(.string ⟨#[]⟩), (.bool false), (.int .i64 0), (.int .i64 0), (.int .i64 0), (.int .i64 0), (.slice none 0 0)], none⟩,
    ⟨none, .store 7 (.tmp 5) (.tmp 11), none⟩])
  (.seq (.ops [⟨(some 12), .fieldAddr 2 (.tmp 5), none⟩,
    ⟨(some 13), .fieldAddr 4 (.tmp 12), none⟩,
    ⟨(some 14), .load false 1 (.tmp 13), none⟩,
    ⟨(some 15), .call 275 [(.tmp 14)], none⟩,
    ⟨(some 16), .fieldAddr 2 (.tmp 5), none⟩,
    ⟨(some 17), .fieldAddr 4 (.tmp 16), none⟩,
    ⟨none, .store 1 (.tmp 17) (.tmp 15), none⟩])
  (.ops [⟨(some 18), .mov (.tmp 3), none⟩,
    ⟨(some 19), .load true 7 (.tmp 5), none⟩,
    ⟨(some 20), .buildSlice 7 1 [(.string ⟨#[]⟩), (.bool false), (.int .i64 0), (.int .i64 0), (.int .i64 0), (.int .i64 0), (.slice none 0 0)] [(0, 7, (.tmp 19))], none⟩,
    ⟨(some 21), .append 7 80 (.tmp 18) (.tmp 20), none⟩,
    ⟨(some 3), .mov (.tmp 21), none⟩]))))
  (.ops [⟨(some 22), .bin .add (.tmp 8) (.const (.int .i64 1)) (some (.int .i64)), none⟩,
    ⟨(some 8), .mov (.tmp 22), none⟩])))))))
  (.seq (.ops [⟨(some 23), .mov (.tmp 3), none⟩,
    ⟨(some 24), .call 278 [(.tmp 23)], none⟩,
    ⟨(some 2), .mov (.tmp 24), none⟩])
  .ret))))⟩
theorem F275_ok : compF Tryz.prog 275 = some F275 := by kernel_rfl
/-- colonnade/bits.bit -/
def F277 : FC := ⟨15, [.tmp 4],
  (.seq (.ops [⟨(some 4), .mov (.const (.bool false)), none⟩])
  (.seq (.ops [⟨(some 5), .mov (.tmp 0), none⟩,
    ⟨(some 6), .mov (.tmp 1), none⟩,
    ⟨(some 7), .bin .quo (.tmp 6) (.const (.int .i64 8)) (some (.int .i64)), none⟩,
    ⟨(some 8), .indexAddr 1 (.tmp 5) (.tmp 7), none⟩,
    ⟨(some 9), .load false 1 (.tmp 8), none⟩,
    ⟨(some 10), .mov (.tmp 1), none⟩,
    ⟨(some 11), .bin .rem (.tmp 10) (.const (.int .i64 8)) (some (.int .i64)), none⟩,
    ⟨(some 12), .bin .shr (.tmp 9) (.tmp 11) (some (.int .u8)), none⟩,
    ⟨(some 13), .bin .and (.tmp 12) (.const (.int .u8 1)) (some (.int .u8)), none⟩,
    ⟨(some 14), .bin .eql (.tmp 13) (.const (.int .u8 1)) (some (.int .u8)), none⟩,
    ⟨(some 4), .mov (.tmp 14), none⟩])
  .ret))⟩
theorem F277_ok : compF Tryz.prog 277 = some F277 := by kernel_rfl
/-- slices.Clip[[]colonnade/api.Field,colonnade/api.Field] -/
def F278 : FC := ⟨9, [.tmp 2],
  (.seq (.ops [⟨(some 2), .mov (.const (.slice none 0 0)), none⟩])
  (.seq (.ops [⟨(some 3), .mov (.tmp 0), none⟩,
    ⟨(some 4), .mov (.tmp 0), none⟩,
    ⟨(some 5), .len 1 (.tmp 4), none⟩,
    ⟨(some 6), .mov (.tmp 0), none⟩,
    ⟨(some 7), .len 1 (.tmp 6), none⟩,
    ⟨(some 8), .slice 7 (.tmp 3) none (some (.tmp 5)) (some (.tmp 7)), none⟩,
    ⟨(some 2), .mov (.tmp 8), none⟩])
  .ret))⟩
theorem F278_ok : compF Tryz.prog 278 = some F278 := by kernel_rfl
/-- (*colonnade/build.base).data -/
def F305 : FC := ⟨15, [.cell 4 true 6],
  (.seq (.ops [⟨(some 4), .alloc [(.int .i64 0), (.int .i64 0), (.int .i64 0), (.slice none 0 0), (.slice none 0 0), (.slice none 0 0)], none⟩])
  (.seq (.ops [⟨(some 5), .mov (.tmp 0), none⟩,
    ⟨(some 6), .nilCheck (.tmp 5), none⟩,
    ⟨(some 7), .fieldAddr 7 (.tmp 6), none⟩,
    ⟨(some 8), .load false 1 (.tmp 7), none⟩,
    ⟨(some 9), .mov (.tmp 0), none⟩,
    ⟨(some 10), .nilCheck (.tmp 9), none⟩,
    ⟨(some 11), .fieldAddr 8 (.tmp 10), none⟩,
    ⟨(some 12), .load false 1 (.tmp 11), none⟩,
    ⟨(some 13), .mov (.tmp 1), none⟩,
    ⟨(some 14), .build [(.int .i64 0), (.int .i64 0), (.int .i64 0), (.slice none 0 0), (.slice none 0 0), (.slice none 0 0)] [(0, 1, (.tmp 8)), (2, 1, (.tmp 12)), (3, 1, (.tmp 13))], none⟩,
    ⟨none, .store 6 (.tmp 4) (.tmp 14), none⟩])
  .ret))⟩
theorem F305_ok : compF Tryz.prog 305 = some F305 := by kernel_rfl
/-- (*colonnade/build.base).marked -/
def F306 : FC := ⟨27, [.tmp 2],
  (.seq (.ops [⟨(some 1), .box (.tmp 0), none⟩,
    ⟨(some 2), .mov (.const .nilFunc), none⟩])
  (.seq (.ops [⟨(some 5), .load false 1 (.tmp 1), none⟩,
    ⟨(some 6), .nilCheck (.tmp 5), none⟩,
    ⟨(some 7), .load true 16 (.tmp 6), none⟩,
    ⟨(some 3), .alloc [(.string ⟨#[]⟩), (.bool false), (.int .i64 0), (.int .i64 0), (.int .i64 0), (.int .i64 0), (.slice none 0 0), (.int .i64 0), (.int .i64 0), (.slice none 0 0), (.int .i64 0), (.bool false), (.int .i64 0), (.string ⟨#[]⟩), (.slice none 0 0), (.bool false)], none⟩,
    ⟨none, .store 16 (.tmp 3) (.tmp 7), none⟩])
  (.seq (.ops [⟨(some 4), .alloc [(.int .u8 0)], none⟩,
    ⟨none, .store 1 (.tmp 4) (.const (.int .u8 0)), none⟩])
  (.seq (.seq (.ops [⟨(some 8), .load false 1 (.tmp 1), none⟩,
    ⟨(some 9), .nilCheck (.tmp 8), none⟩,
    ⟨(some 10), .fieldAddr 9 (.tmp 9), none⟩,
    ⟨(some 11), .load false 1 (.tmp 10), none⟩,
    ⟨(some 12), .len 1 (.tmp 11), none⟩,
    ⟨(some 13), .bin .gtr (.tmp 12) (.const (.int .i64 0)) (some (.int .i64)), none⟩])
  (.cond (.tmp 13)
  (.ops [⟨(some 14), .load false 1 (.tmp 1), none⟩,
    ⟨(some 15), .nilCheck (.tmp 14), none⟩,
    ⟨(some 16), .fieldAddr 9 (.tmp 15), none⟩,
    ⟨(some 17), .load false 1 (.tmp 16), none⟩,
    ⟨(some 18), .load false 1 (.tmp 1), none⟩,
    ⟨(some 19), .nilCheck (.tmp 18), none⟩,
    ⟨(some 20), .fieldAddr 9 (.tmp 19), none⟩,
    ⟨(some 21), .load false 1 (.tmp 20), none⟩,
    ⟨(some 22), .len 1 (.tmp 21), none⟩,
    ⟨(some 23), .bin .sub (.tmp 22) (.const (.int .i64 1)) (some (.int .i64)), none⟩,
    ⟨(some 24), .indexAddr 1 (.tmp 17) (.tmp 23), none⟩,
    ⟨(some 25), .load false 1 (.tmp 24), none⟩,
    ⟨none, .store 1 (.tmp 4) (.tmp 25), none⟩])
  .skip))
  (.seq (.ops [⟨(some 26), .mkFunc (.func 309) [] [(.tmp 3), (.tmp 1), (.tmp 4)], none⟩,
    ⟨(some 2), .mov (.tmp 26), none⟩])
  .ret)))))⟩
theorem F306_ok : compF Tryz.prog 306 = some F306 := by kernel_rfl
/-- (*colonnade/build.base).row -/
def F307 : FC := ⟨59, [.tmp 4],
  (.seq (.ops [⟨(some 4), .mov (.const (.int .i64 0)), none⟩])
  (.seq (.seq (.ops [⟨(some 5), .mov (.tmp 0), none⟩,
    ⟨(some 6), .nilCheck (.tmp 5), none⟩,
    ⟨(some 7), .fieldAddr 7 (.tmp 6), none⟩,
    ⟨(some 8), .load false 1 (.tmp 7), none⟩,
    ⟨(some 9), .bin .geq (.tmp 8) (.const (.int .i64 4096)) (some (.int .i64)), none⟩])
  (.cond (.tmp 9)
  (.seq (.ops [⟨(some 4), .mov (.const (.int .i64 3)), none⟩])
  .ret)
  .skip))
  (.seq (.seq (.ops [⟨(some 10), .mov (.tmp 0), none⟩,
    ⟨(some 11), .nilCheck (.tmp 10), none⟩,
    ⟨(some 12), .fieldAddr 7 (.tmp 11), none⟩,
    ⟨(some 13), .load false 1 (.tmp 12), none⟩,
    ⟨(some 14), .bin .rem (.tmp 13) (.const (.int .i64 8)) (some (.int .i64)), none⟩,
    ⟨(some 15), .bin .eql (.tmp 14) (.const (.int .i64 0)) (some (.int .i64)), none⟩])
  (.cond (.tmp 15)
  (.ops [⟨(some 16), .mov (.tmp 0), none⟩,
    ⟨(some 17), .mov (.tmp 0), none⟩,
    ⟨(some 18), .nilCheck (.tmp 17), none⟩,
    ⟨(some 19), .fieldAddr 9 (.tmp 18), none⟩,
    ⟨(some 20), .load false 1 (.tmp 19), none⟩,
    ⟨(some 21), .buildSlice 1 1 [(.int .u8 0)] [(0, 1, (.const (.int .u8 0)))], none⟩,
    ⟨(some 22), .appendB (.tmp 20) (.tmp 21), none⟩,
    ⟨(some 23), .nilCheck (.tmp 16), none⟩,
    ⟨(some 24), .fieldAddr 9 (.tmp 23), none⟩,
    ⟨none, .store 1 (.tmp 24) (.tmp 22), none⟩])
  .skip))
  (.seq (.seq (.ops [⟨(some 25), .mov (.tmp 1), none⟩])
  (.cond (.tmp 25)
  (.ops [⟨(some 26), .mov (.tmp 0), none⟩,
    ⟨(some 27), .nilCheck (.tmp 26), none⟩,
    ⟨(some 28), .fieldAddr 8 (.tmp 27), none⟩,
    ⟨(some 29), .load false 1 (.tmp 28), none⟩,
    ⟨(some 30), .bin .add (.tmp 29) (.const (.int .i64 1)) (some (.int .i64)), none⟩,
    ⟨(some 31), .nilCheck (.tmp 26), none⟩,
    ⟨(some 32), .fieldAddr 8 (.tmp 31), none⟩,
    ⟨none, .store 1 (.tmp 32) (.tmp 30), none⟩])
  (.ops [⟨(some 33), .mov (.tmp 0), none⟩,
    ⟨(some 34), .nilCheck (.tmp 33), none⟩,
    ⟨(some 35), .fieldAddr 9 (.tmp 34), none⟩,
    ⟨(some 36), .load false 1 (.tmp 35), none⟩,
    ⟨(some 37), .mov (.tmp 0), none⟩,
    ⟨(some 38), .nilCheck (.tmp 37), none⟩,
    ⟨(some 39), .fieldAddr 7 (.tmp 38), none⟩,
    ⟨(some 40), .load false 1 (.tmp 39), none⟩,
    ⟨(some 41), .bin .quo (.tmp 40) (.const (.int .i64 8)) (some (.int .i64)), none⟩,
    ⟨(some 42), .indexAddr 1 (.tmp 36) (.tmp 41), none⟩,
    ⟨(some 43), .load false 1 (.tmp 42), none⟩,
    ⟨(some 44), .mov (.tmp 0), none⟩,
    ⟨(some 45), .nilCheck (.tmp 44), none⟩,
    ⟨(some 46), .fieldAddr 7 (.tmp 45), none⟩,
    ⟨(some 47), .load false 1 (.tmp 46), none⟩,
    ⟨(some 48), .bin .rem (.tmp 47) (.const (.int .i64 8)) (some (.int .i64)), none⟩,
    ⟨(some 49), .bin .shl (.const (.int .u8 1)) (.tmp 48) (some (.int .u8)), none⟩,
    ⟨(some 50), .bin .or (.tmp 43) (.tmp 49) (some (.int .u8)), none⟩,
    ⟨(some 51), .indexAddr 1 (.tmp 36) (.tmp 41), none⟩,
    ⟨none, .store 1 (.tmp 51) (.tmp 50), none⟩])))
  (.seq (.ops [⟨(some 52), .mov (.tmp 0), none⟩,
    ⟨(some 53), .nilCheck (.tmp 52), none⟩,
    ⟨(some 54), .fieldAddr 7 (.tmp 53), none⟩,
    ⟨(some 55), .load false 1 (.tmp 54), none⟩,
    ⟨(some 56), .bin .add (.tmp 55) (.const (.int .i64 1)) (some (.int .i64)), none⟩,
    ⟨(some 57), .nilCheck (.tmp 52), none⟩,
    ⟨(some 58), .fieldAddr 7 (.tmp 57), none⟩,
    ⟨none, .store 1 (.tmp 58) (.tmp 56), none⟩])
  (.seq (.ops [⟨(some 4), .mov (.const (.int .i64 0)), none⟩])
  .ret))))))⟩
theorem F307_ok : compF Tryz.prog 307 = some F307 := by kernel_rfl
/-- (*colonnade/build.base).weighs -/
def F308 : FC := ⟨18, [.tmp 4],
  (.seq (.ops [⟨(some 4), .mov (.const (.int .i64 0)), none⟩])
  (.seq (.seq (.ops [⟨(some 5), .mov (.tmp 0), none⟩,
    ⟨(some 6), .nilCheck (.tmp 5), none⟩,
    ⟨(some 7), .fieldAddr 10 (.tmp 6), none⟩,
    ⟨(some 8), .load false 1 (.tmp 7), none⟩,
    ⟨(some 9), .mov (.tmp 1), none⟩,
    ⟨(some 10), .bin .add (.tmp 8) (.tmp 9) (some (.int .i64)), none⟩,
    ⟨(some 11), .nilCheck (.tmp 5), none⟩,
    ⟨(some 12), .fieldAddr 10 (.tmp 11), none⟩,
    ⟨none, .store 1 (.tmp 12) (.tmp 10), none⟩])
  (.seq (.ops [⟨(some 13), .mov (.tmp 0), none⟩,
    ⟨(some 14), .nilCheck (.tmp 13), none⟩,
    ⟨(some 15), .fieldAddr 10 (.tmp 14), none⟩,
    ⟨(some 16), .load false 1 (.tmp 15), none⟩,
    ⟨(some 17), .bin .gtr (.tmp 16) (.const (.int .i64 4194304)) (some (.int .i64)), none⟩])
  (.cond (.tmp 17)
  (.seq (.ops [⟨(some 4), .mov (.const (.int .i64 3)), none⟩])
  .ret)
  .skip)))
  (.seq (.ops [⟨(some 4), .mov (.const (.int .i64 0)), none⟩])
  .ret)))⟩
theorem F308_ok : compF Tryz.prog 308 = some F308 := by kernel_rfl
/-- (*colonnade/build.texts).done -/
def F310 : FC := ⟨22, [.cell 2 true 6],
  (.seq (.ops [⟨(some 2), .alloc [(.int .i64 0), (.int .i64 0), (.int .i64 0), (.slice none 0 0), (.slice none 0 0), (.slice none 0 0)], none⟩])
  (.seq (.ops [⟨(some 3), .mov (.tmp 0), none⟩,
    ⟨(some 4), .nilCheck (.tmp 3), none⟩,
    ⟨(some 5), .fieldAddr 0 (.tmp 4), none⟩,
    ⟨(some 6), .mov (.tmp 0), none⟩,
    ⟨(some 7), .nilCheck (.tmp 6), none⟩,
    ⟨(some 8), .fieldAddr 0 (.tmp 7), none⟩,
    ⟨(some 10), .mov (.tmp 0), none⟩,
    ⟨(some 11), .nilCheck (.tmp 10), none⟩,
    ⟨(some 12), .fieldAddr 16 (.tmp 11), none⟩,
    ⟨(some 13), .load false 1 (.tmp 12), none⟩,
    ⟨(some 15), .mov (.tmp 0), none⟩,
    ⟨(some 16), .nilCheck (.tmp 15), none⟩,
    ⟨(some 17), .fieldAddr 17 (.tmp 16), none⟩,
    ⟨(some 18), .load false 1 (.tmp 17), none⟩,
    ⟨(some 9), .call 314 [(.tmp 8)], none⟩,
    ⟨none, .again 18 false 1 (.tmp 17), none⟩,
    ⟨none, .again 13 false 1 (.tmp 12), none⟩,
    ⟨(some 14), .call 315 [(.tmp 13), (.const (.int .i64 4))], none⟩,
    ⟨none, .again 18 false 1 (.tmp 17), none⟩,
    ⟨(some 19), .call 316 [(.tmp 18)], none⟩,
    ⟨(some 20), .buildSlice 1 3 [(.slice none 0 0), (.slice none 0 0), (.slice none 0 0)] [(0, 1, (.tmp 9)), (1, 1, (.tmp 14)), (2, 1, (.tmp 19))], none⟩,
    ⟨(some 21), .call 305 [(.tmp 5), (.tmp 20)], none⟩,
    ⟨none, .store 6 (.tmp 2) (.tmp 21), none⟩])
  .ret))⟩
theorem F310_ok : compF Tryz.prog 310 = some F310 := by kernel_rfl
/-- (*colonnade/build.texts).mark -/
def F311 : FC := ⟨21, [.tmp 2],
  (.seq (.ops [⟨(some 1), .box (.tmp 0), none⟩,
    ⟨(some 2), .mov (.const .nilFunc), none⟩])
  (.seq (.ops [⟨(some 6), .load false 1 (.tmp 1), none⟩,
    ⟨(some 7), .nilCheck (.tmp 6), none⟩,
    ⟨(some 8), .fieldAddr 0 (.tmp 7), none⟩,
    ⟨(some 10), .load false 1 (.tmp 1), none⟩,
    ⟨(some 11), .nilCheck (.tmp 10), none⟩,
    ⟨(some 12), .fieldAddr 16 (.tmp 11), none⟩,
    ⟨(some 13), .load false 1 (.tmp 12), none⟩,
    ⟨(some 14), .len 1 (.tmp 13), none⟩,
    ⟨(some 15), .load false 1 (.tmp 1), none⟩,
    ⟨(some 16), .nilCheck (.tmp 15), none⟩,
    ⟨(some 17), .fieldAddr 17 (.tmp 16), none⟩,
    ⟨(some 18), .load false 1 (.tmp 17), none⟩,
    ⟨(some 19), .len 1 (.tmp 18), none⟩,
    ⟨(some 9), .call 306 [(.tmp 8)], none⟩,
    ⟨none, .again 18 false 1 (.tmp 17), none⟩,
    ⟨none, .again 15 false 1 (.tmp 1), none⟩,
    ⟨none, .again 13 false 1 (.tmp 12), none⟩,
    ⟨none, .again 10 false 1 (.tmp 1), none⟩,
    ⟨(some 3), .alloc [.nilFunc], none⟩,
    ⟨none, .store 1 (.tmp 3) (.tmp 9), none⟩,
    ⟨none, .again 18 false 1 (.tmp 17), none⟩,
    ⟨none, .again 15 false 1 (.tmp 1), none⟩,
    ⟨none, .again 13 false 1 (.tmp 12), none⟩,
    ⟨none, .again 10 false 1 (.tmp 1), none⟩,
    ⟨(some 4), .alloc [(.int .i64 0)], none⟩,
    ⟨none, .store 1 (.tmp 4) (.tmp 14), none⟩,
    ⟨none, .again 18 false 1 (.tmp 17), none⟩,
    ⟨none, .again 15 false 1 (.tmp 1), none⟩,
    ⟨(some 5), .alloc [(.int .i64 0)], none⟩,
    ⟨none, .store 1 (.tmp 5) (.tmp 19), none⟩])
  (.seq (.ops [⟨(some 20), .mkFunc (.func 317) [] [(.tmp 3), (.tmp 1), (.tmp 4), (.tmp 5)], none⟩,
    ⟨(some 2), .mov (.tmp 20), none⟩])
  .ret)))⟩
theorem F311_ok : compF Tryz.prog 311 = some F311 := by kernel_rfl
/-- (*colonnade/build.texts).take -/
def F312 : FC := ⟨57, [.tmp 4],
  (.seq (.ops [⟨(some 3), .box (.tmp 1), none⟩,
    ⟨(some 4), .mov (.const (.int .i64 0)), none⟩])
  (.seq (.seq (.ops [⟨(some 6), .mov (.tmp 0), none⟩,
    ⟨(some 7), .nilCheck (.tmp 6), none⟩,
    ⟨(some 8), .fieldAddr 0 (.tmp 7), none⟩,
    ⟨(some 9), .fieldAddr 0 (.tmp 3), none⟩,
    ⟨(some 10), .load false 1 (.tmp 9), none⟩,
    ⟨(some 11), .call 307 [(.tmp 8), (.tmp 10)], none⟩,
    ⟨(some 5), .mov (.tmp 11), none⟩])
  (.seq (.ops [⟨(some 12), .mov (.tmp 5), none⟩,
    ⟨(some 13), .bin .neq (.tmp 12) (.const (.int .i64 0)) (some (.int .i64)), none⟩])
  (.cond (.tmp 13)
  (.seq (.ops [⟨(some 14), .mov (.tmp 5), none⟩,
    ⟨(some 4), .mov (.tmp 14), none⟩])
  .ret)
  .skip)))
  (.seq (.seq (.ops [⟨(some 15), .mov (.tmp 0), none⟩,
    ⟨(some 16), .nilCheck (.tmp 15), none⟩,
    ⟨(some 17), .fieldAddr 17 (.tmp 16), none⟩,
    ⟨(some 18), .load false 1 (.tmp 17), none⟩,
    ⟨(some 19), .len 1 (.tmp 18), none⟩,
    ⟨(some 20), .fieldAddr 2 (.tmp 3), none⟩,
    ⟨(some 21), .load false 1 (.tmp 20), none⟩,
    ⟨(some 22), .len 0 (.tmp 21), none⟩,
    ⟨(some 23), .bin .add (.tmp 19) (.tmp 22) (some (.int .i64)), none⟩,
    ⟨(some 24), .bin .gtr (.tmp 23) (.const (.int .i64 65536)) (some (.int .i64)), none⟩])
  (.cond (.tmp 24)
  (.seq (.ops [⟨(some 4), .mov (.const (.int .i64 4)), none⟩])
  .ret)
  .skip))
  (.seq (.ops [⟨(some 25), .mov (.tmp 0), none⟩,
    ⟨(some 26), .mov (.tmp 0), none⟩,
    ⟨(some 27), .nilCheck (.tmp 26), none⟩,
    ⟨(some 28), .fieldAddr 17 (.tmp 27), none⟩,
    ⟨(some 29), .load false 1 (.tmp 28), none⟩,
    ⟨(some 30), .fieldAddr 2 (.tmp 3), none⟩,
    ⟨(some 31), .load false 1 (.tmp 30), none⟩,
    ⟨(some 32), .appendB (.tmp 29) (.tmp 31), none⟩,
    ⟨(some 33), .nilCheck (.tmp 25), none⟩,
    ⟨(some 34), .fieldAddr 17 (.tmp 33), none⟩,
    ⟨none, .store 1 (.tmp 34) (.tmp 32), none⟩])
  (.seq (.ops [⟨(some 35), .mov (.tmp 0), none⟩,
    ⟨(some 36), .mov (.tmp 0), none⟩,
    ⟨(some 37), .nilCheck (.tmp 36), none⟩,
    ⟨(some 38), .fieldAddr 16 (.tmp 37), none⟩,
    ⟨(some 39), .load false 1 (.tmp 38), none⟩,
    ⟨(some 40), .mov (.tmp 0), none⟩,
    ⟨(some 41), .nilCheck (.tmp 40), none⟩,
    ⟨(some 42), .fieldAddr 17 (.tmp 41), none⟩,
    ⟨(some 43), .load false 1 (.tmp 42), none⟩,
    ⟨(some 44), .len 1 (.tmp 43), none⟩,
    ⟨(some 45), .buildSlice 1 1 [(.int .i64 0)] [(0, 1, (.tmp 44))], none⟩,
    ⟨none, .again 39 false 1 (.tmp 38), none⟩,
    ⟨(some 46), .append 1 8 (.tmp 39) (.tmp 45), none⟩,
    ⟨(some 47), .nilCheck (.tmp 35), none⟩,
    ⟨(some 48), .fieldAddr 16 (.tmp 47), none⟩,
    ⟨none, .store 1 (.tmp 48) (.tmp 46), none⟩])
  (.seq (.ops [⟨(some 49), .mov (.tmp 0), none⟩,
    ⟨(some 50), .nilCheck (.tmp 49), none⟩,
    ⟨(some 51), .fieldAddr 0 (.tmp 50), none⟩,
    ⟨(some 52), .fieldAddr 2 (.tmp 3), none⟩,
    ⟨(some 53), .load false 1 (.tmp 52), none⟩,
    ⟨(some 54), .len 0 (.tmp 53), none⟩,
    ⟨(some 55), .bin .add (.const (.int .i64 16)) (.tmp 54) (some (.int .i64)), none⟩,
    ⟨(some 56), .call 308 [(.tmp 51), (.tmp 55)], none⟩,
    ⟨(some 4), .mov (.tmp 56), none⟩])
  .ret))))))⟩
theorem F312_ok : compF Tryz.prog 312 = some F312 := by kernel_rfl
/-- (*colonnade/build.base).validity -/
def F314 : FC := ⟨13, [.tmp 2],
  (.seq (.ops [⟨(some 2), .mov (.const (.slice none 0 0)), none⟩])
  (.seq (.seq (.ops [⟨(some 3), .mov (.tmp 0), none⟩,
    ⟨(some 4), .nilCheck (.tmp 3), none⟩,
    ⟨(some 5), .fieldAddr 8 (.tmp 4), none⟩,
    ⟨(some 6), .load false 1 (.tmp 5), none⟩,
    ⟨(some 7), .bin .eql (.tmp 6) (.const (.int .i64 0)) (some (.int .i64)), none⟩])
  (.cond (.tmp 7)
  (.seq (.ops [⟨(some 2), .mov (.const (.slice none 0 0)), none⟩])
  .ret)
  .skip))
  (.seq (.ops [⟨(some 8), .mov (.tmp 0), none⟩,
    ⟨(some 9), .nilCheck (.tmp 8), none⟩,
    ⟨(some 10), .fieldAddr 9 (.tmp 9), none⟩,
    ⟨(some 11), .load false 1 (.tmp 10), none⟩,
    ⟨(some 12), .call 316 [(.tmp 11)], none⟩,
    ⟨(some 2), .mov (.tmp 12), none⟩])
  .ret)))⟩
theorem F314_ok : compF Tryz.prog 314 = some F314 := by kernel_rfl
/-- colonnade/build.laid[int] -/
def F315 : FC := ⟨36, [.tmp 4],
  (.seq (.ops [⟨(some 4), .mov (.const (.slice none 0 0)), none⟩])
  (.seq (.ops [⟨(some 9), .mov (.tmp 1), none⟩,
    ⟨(some 10), .mov (.tmp 0), none⟩,
    ⟨(some 11), .len 1 (.tmp 10), none⟩,
    ⟨(some 12), .bin .mul (.tmp 9) (.tmp 11) (some (.int .i64)), none⟩,
    ⟨(some 13), .mkSlice 1 1 [(.int .u8 0)] (.const (.int .i64 0)) (.tmp 12), none⟩,
    ⟨(some 5), .mov (.tmp 13), none⟩])
  (.seq (.seq (.ops [⟨(some 14), .mov (.tmp 0), none⟩,
    ⟨(some 15), .len 1 (.tmp 14), none⟩,
    ⟨(some 16), .mov (.const (.int .i64 0)), none⟩])
  (.block 0 (.loop (.seq (.ops [⟨(some 17), .bin .lss (.tmp 16) (.tmp 15) (some (.int .i64)), none⟩])
  (.seq (.cond (.tmp 17)
  .skip
  (.exit 0))
  (.seq (.block 1 (.seq (.ops [⟨(some 18), .indexAddr 1 (.tmp 14) (.tmp 16), none⟩,
    ⟨(some 19), .load false 1 (.tmp 18), none⟩,
    ⟨(some 7), .mov (.tmp 19), none⟩])
  (.seq (.ops [⟨(some 20), .mov (.tmp 1), none⟩,
    ⟨(some 21), .mov (.const (.int .i64 0)), none⟩])
  (.block 2 (.loop (.seq (.ops [⟨(some 22), .bin .lss (.tmp 21) (.tmp 20) (some (.int .i64)), none⟩])
  (.seq (.cond (.tmp 22)
  .skip
  (.exit 2))
  (.seq (.block 3 (.seq (.ops [⟨(some 23), .mov (.tmp 21), none⟩,
    ⟨(some 8), .mov (.tmp 23), none⟩])
  (.ops [⟨(some 24), .mov (.tmp 5), none⟩,
    ⟨(some 25), .mov (.tmp 7), none⟩,
    ⟨(some 26), .conv .u64 (.tmp 25), none⟩,
    ⟨(some 27), .mov (.tmp 8), none⟩,
    ⟨(some 28), .bin .mul (.const (.int .i64 8)) (.tmp 27) (some (.int .i64)), none⟩,
    ⟨(some 29), .bin .shr (.tmp 26) (.tmp 28) (some (.int .u64)), none⟩,
    ⟨(some 30), .conv .u8 (.tmp 29), none⟩,
    ⟨(some 31), .buildSlice 1 1 [(.int .u8 0)] [(0, 1, (.tmp 30))], none⟩,
    ⟨(some 32), .appendB (.tmp 24) (.tmp 31), none⟩,
    ⟨(some 5), .mov (.tmp 32), none⟩])))
  (.ops [⟨(some 33), .bin .add (.tmp 21) (.const (.int .i64 1)) (some (.int .i64)), none⟩,
    ⟨(some 21), .mov (.tmp 33), none⟩])))))))))
  (.ops [⟨(some 34), .bin .add (.tmp 16) (.const (.int .i64 1)) (some (.int .i64)), none⟩,
    ⟨(some 16), .mov (.tmp 34), none⟩])))))))
  (.seq (.ops [⟨(some 35), .mov (.tmp 5), none⟩,
    ⟨(some 4), .mov (.tmp 35), none⟩])
  .ret))))⟩
theorem F315_ok : compF Tryz.prog 315 = some F315 := by kernel_rfl
/-- slices.Clone[[]byte,byte] -/
def F316 : FC := ⟨8, [.tmp 2],
  (.seq (.ops [⟨(some 2), .mov (.const (.slice none 0 0)), none⟩])
  (.seq (.seq (.ops [⟨(some 3), .mov (.tmp 0), none⟩,
    ⟨(some 4), .bin .eql (.tmp 3) (.const (.slice none 0 0)) (some (.slice 5)), none⟩])
  (.cond (.tmp 4)
  (.seq (.ops [⟨(some 2), .mov (.const (.slice none 0 0)), none⟩])
  .ret)
  .skip))
  (.seq (.ops [⟨(some 5), .buildSlice 1 0 [] [], none⟩,
    ⟨(some 6), .mov (.tmp 0), none⟩,
    ⟨(some 7), .appendB (.tmp 5) (.tmp 6), none⟩,
    ⟨(some 2), .mov (.tmp 7), none⟩])
  .ret)))⟩
theorem F316_ok : compF Tryz.prog 316 = some F316 := by kernel_rfl
/-- colonnade/build.width -/
def F348 : FC := ⟨13, [.tmp 2],
  (.seq (.ops [⟨(some 2), .mov (.const (.int .i64 0)), none⟩])
  (.seq (.seq (.ops [⟨(some 3), .mov (.tmp 0), none⟩])
  (.block 0 (.seq (.seq (.ops [⟨(some 5), .bin .eql (.tmp 3) (.const (.int .i64 3)) (some (.int .i64)), none⟩,
    ⟨(some 4), .mov (.tmp 5), none⟩])
  (.cond (.tmp 4)
  .skip
  (.ops [⟨(some 6), .bin .eql (.tmp 3) (.const (.int .i64 7)) (some (.int .i64)), none⟩,
    ⟨(some 4), .mov (.tmp 6), none⟩])))
  (.cond (.tmp 4)
  (.seq (.ops [⟨(some 2), .mov (.const (.int .i64 1)), none⟩])
  .ret)
  (.seq (.seq (.ops [⟨(some 8), .bin .eql (.tmp 3) (.const (.int .i64 4)) (some (.int .i64)), none⟩,
    ⟨(some 7), .mov (.tmp 8), none⟩])
  (.cond (.tmp 7)
  .skip
  (.ops [⟨(some 9), .bin .eql (.tmp 3) (.const (.int .i64 8)) (some (.int .i64)), none⟩,
    ⟨(some 7), .mov (.tmp 9), none⟩])))
  (.cond (.tmp 7)
  (.seq (.ops [⟨(some 2), .mov (.const (.int .i64 2)), none⟩])
  .ret)
  (.seq (.seq (.ops [⟨(some 11), .bin .eql (.tmp 3) (.const (.int .i64 5)) (some (.int .i64)), none⟩,
    ⟨(some 10), .mov (.tmp 11), none⟩])
  (.cond (.tmp 10)
  .skip
  (.ops [⟨(some 12), .bin .eql (.tmp 3) (.const (.int .i64 9)) (some (.int .i64)), none⟩,
    ⟨(some 10), .mov (.tmp 12), none⟩])))
  (.cond (.tmp 10)
  (.seq (.ops [⟨(some 2), .mov (.const (.int .i64 4)), none⟩])
  .ret)
  .skip))))))))
  (.seq (.ops [⟨(some 2), .mov (.const (.int .i64 8)), none⟩])
  .ret)))⟩
theorem F348_ok : compF Tryz.prog 348 = some F348 := by kernel_rfl
/-- (*colonnade/build.plains).done -/
def F364 : FC := ⟨98, [.cell 2 true 6],
  (.seq (.ops [⟨(some 2), .alloc [(.int .i64 0), (.int .i64 0), (.int .i64 0), (.slice none 0 0), (.slice none 0 0), (.slice none 0 0)], none⟩])
  (.seq (.ops [⟨(some 3), .mov (.const (.slice none 0 0)), none⟩])
  (.seq (.seq (.ops [⟨(some 9), .mov (.tmp 0), none⟩,
    ⟨(some 10), .nilCheck (.tmp 9), none⟩,
    ⟨(some 11), .fieldAddr 0 (.tmp 10), none⟩,
    ⟨(some 12), .fieldAddr 0 (.tmp 11), none⟩,
    ⟨(some 13), .fieldAddr 2 (.tmp 12), none⟩,
    ⟨(some 14), .load true 5 (.tmp 13), none⟩,
    ⟨(some 4), .alloc [(.int .i64 0), (.int .i64 0), (.int .i64 0), (.int .i64 0), (.slice none 0 0)], none⟩,
    ⟨none, .store 5 (.tmp 4) (.tmp 14), none⟩])
  (.seq (.ops [⟨(some 15), .fieldAddr 0 (.tmp 4), none⟩,
    ⟨(some 16), .load false 1 (.tmp 15), none⟩])
  (.block 0 (.seq (.ops [⟨(some 26), .bin .eql (.tmp 16) (.const (.int .i64 2)) (some (.int .i64)), none⟩,
    ⟨(some 25), .mov (.tmp 26), none⟩])
  (.cond (.tmp 25)
  (.seq (.ops [⟨(some 27), .mov (.tmp 0), none⟩,
    ⟨(some 28), .nilCheck (.tmp 27), none⟩,
    ⟨(some 29), .fieldAddr 16 (.tmp 28), none⟩,
    ⟨(some 30), .load false 1 (.tmp 29), none⟩,
    ⟨(some 31), .len 1 (.tmp 30), none⟩,
    ⟨(some 32), .bin .add (.tmp 31) (.const (.int .i64 7)) (some (.int .i64)), none⟩,
    ⟨(some 33), .bin .quo (.tmp 32) (.const (.int .i64 8)) (some (.int .i64)), none⟩,
    ⟨(some 34), .mkSlice 1 1 [(.int .u8 0)] (.tmp 33) (.tmp 33), none⟩,
    ⟨(some 3), .mov (.tmp 34), none⟩])
  (.seq (.ops [⟨(some 35), .mov (.tmp 0), none⟩,
    ⟨(some 36), .nilCheck (.tmp 35), none⟩,
    ⟨(some 37), .fieldAddr 16 (.tmp 36), none⟩,
    ⟨(some 38), .load false 1 (.tmp 37), none⟩,
    ⟨(some 39), .len 1 (.tmp 38), none⟩,
    ⟨(some 40), .mov (.const (.int .i64 0)), none⟩])
  (.block 1 (.loop (.seq (.ops [⟨(some 41), .bin .lss (.tmp 40) (.tmp 39) (some (.int .i64)), none⟩])
  (.seq (.cond (.tmp 41)
  .skip
  (.exit 1))
  (.seq (.block 2 (.seq (.ops [⟨(some 42), .mov (.tmp 40), none⟩,
    ⟨(some 43), .indexAddr 1 (.tmp 38) (.tmp 40), none⟩,
    ⟨(some 44), .load false 1 (.tmp 43), none⟩,
    ⟨(some 5), .mov (.tmp 42), none⟩,
    ⟨(some 6), .mov (.tmp 44), none⟩])
  (.ops [⟨(some 45), .mov (.tmp 3), none⟩,
    ⟨(some 46), .mov (.tmp 5), none⟩,
    ⟨(some 47), .bin .quo (.tmp 46) (.const (.int .i64 8)) (some (.int .i64)), none⟩,
    ⟨(some 48), .indexAddr 1 (.tmp 45) (.tmp 47), none⟩,
    ⟨(some 49), .load false 1 (.tmp 48), none⟩,
    ⟨(some 50), .mov (.tmp 6), none⟩,
    ⟨(some 51), .conv .u8 (.tmp 50), none⟩,
    ⟨(some 52), .mov (.tmp 5), none⟩,
    ⟨(some 53), .bin .rem (.tmp 52) (.const (.int .i64 8)) (some (.int .i64)), none⟩,
    ⟨(some 54), .bin .shl (.tmp 51) (.tmp 53) (some (.int .u8)), none⟩,
    ⟨(some 55), .bin .or (.tmp 49) (.tmp 54) (some (.int .u8)), none⟩,
    ⟨(some 56), .indexAddr 1 (.tmp 45) (.tmp 47), none⟩,
    ⟨none, .store 1 (.tmp 56) (.tmp 55), none⟩])))
  (.ops [⟨(some 57), .bin .add (.tmp 40) (.const (.int .i64 1)) (some (.int .i64)), none⟩,
    ⟨(some 40), .mov (.tmp 57), none⟩]))))))))
  (.seq (.ops [⟨(some 59), .bin .eql (.tmp 16) (.const (.int .i64 14)) (some (.int .i64)), none⟩,
    ⟨(some 58), .mov (.tmp 59), none⟩])
  (.cond (.tmp 58)
  (.seq (.ops [⟨(some 60), .mov (.tmp 0), none⟩,
    ⟨(some 61), .nilCheck (.tmp 60), none⟩,
    ⟨(some 62), .fieldAddr 17 (.tmp 61), none⟩,
    ⟨(some 63), .load false 1 (.tmp 62), none⟩,
    ⟨(some 64), .len 1 (.tmp 63), none⟩,
    ⟨(some 65), .fieldAddr 1 (.tmp 4), none⟩,
    ⟨(some 66), .load false 1 (.tmp 65), none⟩,
    ⟨(some 67), .bin .mul (.tmp 64) (.tmp 66) (some (.int .i64)), none⟩,
    ⟨(some 68), .mkSlice 1 1 [(.int .u8 0)] (.tmp 67) (.tmp 67), none⟩,
    ⟨(some 3), .mov (.tmp 68), none⟩])
  (.seq (.ops [⟨(some 69), .mov (.tmp 0), none⟩,
    ⟨(some 70), .nilCheck (.tmp 69), none⟩,
    ⟨(some 71), .fieldAddr 17 (.tmp 70), none⟩,
    ⟨(some 72), .load false 1 (.tmp 71), none⟩,
    ⟨(some 73), .len 1 (.tmp 72), none⟩,
    ⟨(some 74), .mov (.const (.int .i64 0)), none⟩])
  (.block 3 (.loop (.seq (.ops [⟨(some 75), .bin .lss (.tmp 74) (.tmp 73) (some (.int .i64)), none⟩])
  (.seq (.cond (.tmp 75)
  .skip
  (.exit 3))
  (.seq (.block 4 (.seq (.ops [⟨(some 76), .mov (.tmp 74), none⟩,
    ⟨(some 77), .indexAddr 1 (.tmp 72) (.tmp 74), none⟩,
    ⟨(some 78), .load false 1 (.tmp 77), none⟩,
    ⟨(some 7), .mov (.tmp 76), none⟩,
    ⟨(some 8), .mov (.tmp 78), none⟩])
  (.ops [⟨(some 79), .mov (.tmp 3), none⟩,
    ⟨(some 80), .mov (.tmp 7), none⟩,
    ⟨(some 81), .fieldAddr 1 (.tmp 4), none⟩,
    ⟨(some 82), .load false 1 (.tmp 81), none⟩,
    ⟨(some 83), .bin .mul (.tmp 80) (.tmp 82) (some (.int .i64)), none⟩,
    ⟨(some 84), .slice 1 (.tmp 79) (some (.tmp 83)) none none, none⟩,
    ⟨(some 85), .mov (.tmp 8), none⟩,
    ⟨(some 86), .copy 1 (.tmp 84) (.tmp 85), none⟩])))
  (.ops [⟨(some 87), .bin .add (.tmp 74) (.const (.int .i64 1)) (some (.int .i64)), none⟩,
    ⟨(some 74), .mov (.tmp 87), none⟩]))))))))
  (.ops [⟨(some 17), .mov (.tmp 0), none⟩,
    ⟨(some 18), .nilCheck (.tmp 17), none⟩,
    ⟨(some 19), .fieldAddr 16 (.tmp 18), none⟩,
    ⟨(some 20), .load false 1 (.tmp 19), none⟩,
    ⟨(some 21), .fieldAddr 0 (.tmp 4), none⟩,
    ⟨(some 22), .load false 1 (.tmp 21), none⟩,
    ⟨(some 23), .call 348 [(.tmp 22)], none⟩,
    ⟨none, .again 20 false 1 (.tmp 19), none⟩,
    ⟨(some 24), .call 368 [(.tmp 20), (.tmp 23)], none⟩,
    ⟨(some 3), .mov (.tmp 24), none⟩]))))))))
  (.seq (.ops [⟨(some 88), .mov (.tmp 0), none⟩,
    ⟨(some 89), .nilCheck (.tmp 88), none⟩,
    ⟨(some 90), .fieldAddr 0 (.tmp 89), none⟩,
    ⟨(some 91), .mov (.tmp 0), none⟩,
    ⟨(some 92), .nilCheck (.tmp 91), none⟩,
    ⟨(some 93), .fieldAddr 0 (.tmp 92), none⟩,
    ⟨(some 95), .mov (.tmp 3), none⟩,
    ⟨(some 94), .call 314 [(.tmp 93)], none⟩,
    ⟨(some 96), .buildSlice 1 2 [(.slice none 0 0), (.slice none 0 0)] [(0, 1, (.tmp 94)), (1, 1, (.tmp 95))], none⟩,
    ⟨(some 97), .call 305 [(.tmp 90), (.tmp 96)], none⟩,
    ⟨none, .store 6 (.tmp 2) (.tmp 97), none⟩])
  .ret))))⟩
theorem F364_ok : compF Tryz.prog 364 = some F364 := by kernel_rfl
/-- (*colonnade/build.plains).mark -/
def F365 : FC := ⟨15, [.tmp 2],
  (.seq (.ops [⟨(some 1), .box (.tmp 0), none⟩,
    ⟨(some 2), .mov (.const .nilFunc), none⟩])
  (.seq (.ops [⟨(some 5), .load false 1 (.tmp 1), none⟩,
    ⟨(some 6), .nilCheck (.tmp 5), none⟩,
    ⟨(some 7), .fieldAddr 0 (.tmp 6), none⟩,
    ⟨(some 9), .load false 1 (.tmp 1), none⟩,
    ⟨(some 10), .nilCheck (.tmp 9), none⟩,
    ⟨(some 11), .fieldAddr 16 (.tmp 10), none⟩,
    ⟨(some 12), .load false 1 (.tmp 11), none⟩,
    ⟨(some 13), .len 1 (.tmp 12), none⟩,
    ⟨(some 8), .call 306 [(.tmp 7)], none⟩,
    ⟨none, .again 12 false 1 (.tmp 11), none⟩,
    ⟨none, .again 9 false 1 (.tmp 1), none⟩,
    ⟨(some 3), .alloc [.nilFunc], none⟩,
    ⟨none, .store 1 (.tmp 3) (.tmp 8), none⟩,
    ⟨none, .again 12 false 1 (.tmp 11), none⟩,
    ⟨none, .again 9 false 1 (.tmp 1), none⟩,
    ⟨(some 4), .alloc [(.int .i64 0)], none⟩,
    ⟨none, .store 1 (.tmp 4) (.tmp 13), none⟩])
  (.seq (.ops [⟨(some 14), .mkFunc (.func 369) [] [(.tmp 3), (.tmp 1), (.tmp 4)], none⟩,
    ⟨(some 2), .mov (.tmp 14), none⟩])
  .ret)))⟩
theorem F365_ok : compF Tryz.prog 365 = some F365 := by kernel_rfl
/-- (*colonnade/build.plains).take -/
def F366 : FC := ⟨46, [.tmp 4],
  (.seq (.ops [⟨(some 3), .box (.tmp 1), none⟩,
    ⟨(some 4), .mov (.const (.int .i64 0)), none⟩])
  (.seq (.seq (.ops [⟨(some 6), .mov (.tmp 0), none⟩,
    ⟨(some 7), .nilCheck (.tmp 6), none⟩,
    ⟨(some 8), .fieldAddr 0 (.tmp 7), none⟩,
    ⟨(some 9), .fieldAddr 0 (.tmp 3), none⟩,
    ⟨(some 10), .load false 1 (.tmp 9), none⟩,
    ⟨(some 11), .call 307 [(.tmp 8), (.tmp 10)], none⟩,
    ⟨(some 5), .mov (.tmp 11), none⟩])
  (.seq (.ops [⟨(some 12), .mov (.tmp 5), none⟩,
    ⟨(some 13), .bin .neq (.tmp 12) (.const (.int .i64 0)) (some (.int .i64)), none⟩])
  (.cond (.tmp 13)
  (.seq (.ops [⟨(some 14), .mov (.tmp 5), none⟩,
    ⟨(some 4), .mov (.tmp 14), none⟩])
  .ret)
  .skip)))
  (.seq (.ops [⟨(some 15), .mov (.tmp 0), none⟩,
    ⟨(some 16), .mov (.tmp 0), none⟩,
    ⟨(some 17), .nilCheck (.tmp 16), none⟩,
    ⟨(some 18), .fieldAddr 16 (.tmp 17), none⟩,
    ⟨(some 19), .load false 1 (.tmp 18), none⟩,
    ⟨(some 20), .fieldAddr 1 (.tmp 3), none⟩,
    ⟨(some 21), .load false 1 (.tmp 20), none⟩,
    ⟨(some 22), .conv .u64 (.tmp 21), none⟩,
    ⟨(some 23), .buildSlice 1 1 [(.int .u64 0)] [(0, 1, (.tmp 22))], none⟩,
    ⟨none, .again 19 false 1 (.tmp 18), none⟩,
    ⟨(some 24), .append 1 8 (.tmp 19) (.tmp 23), none⟩,
    ⟨(some 25), .nilCheck (.tmp 15), none⟩,
    ⟨(some 26), .fieldAddr 16 (.tmp 25), none⟩,
    ⟨none, .store 1 (.tmp 26) (.tmp 24), none⟩])
  (.seq (.ops [⟨(some 27), .mov (.tmp 0), none⟩,
    ⟨(some 28), .mov (.tmp 0), none⟩,
    ⟨(some 29), .nilCheck (.tmp 28), none⟩,
    ⟨(some 30), .fieldAddr 17 (.tmp 29), none⟩,
    ⟨(some 31), .load false 1 (.tmp 30), none⟩,
    ⟨(some 32), .fieldAddr 2 (.tmp 3), none⟩,
    ⟨(some 33), .load false 1 (.tmp 32), none⟩,
    ⟨(some 34), .buildSlice 1 1 [(.string ⟨#[]⟩)] [(0, 1, (.tmp 33))], none⟩,
    ⟨none, .again 31 false 1 (.tmp 30), none⟩,
    ⟨(some 35), .append 1 16 (.tmp 31) (.tmp 34), none⟩,
    ⟨(some 36), .nilCheck (.tmp 27), none⟩,
    ⟨(some 37), .fieldAddr 17 (.tmp 36), none⟩,
    ⟨none, .store 1 (.tmp 37) (.tmp 35), none⟩])
  (.seq (.ops [⟨(some 38), .mov (.tmp 0), none⟩,
    ⟨(some 39), .nilCheck (.tmp 38), none⟩,
    ⟨(some 40), .fieldAddr 0 (.tmp 39), none⟩,
    ⟨(some 41), .fieldAddr 2 (.tmp 3), none⟩,
    ⟨(some 42), .load false 1 (.tmp 41), none⟩,
    ⟨(some 43), .len 0 (.tmp 42), none⟩,
    ⟨(some 44), .bin .add (.const (.int .i64 16)) (.tmp 43) (some (.int .i64)), none⟩,
    ⟨(some 45), .call 308 [(.tmp 40), (.tmp 44)], none⟩,
    ⟨(some 4), .mov (.tmp 45), none⟩])
  .ret)))))⟩
theorem F366_ok : compF Tryz.prog 366 = some F366 := by kernel_rfl
/-- colonnade/build.laid[uint64] -/
def F368 : FC := ⟨35, [.tmp 4],
  (.seq (.ops [⟨(some 4), .mov (.const (.slice none 0 0)), none⟩])
  (.seq (.ops [⟨(some 9), .mov (.tmp 1), none⟩,
    ⟨(some 10), .mov (.tmp 0), none⟩,
    ⟨(some 11), .len 1 (.tmp 10), none⟩,
    ⟨(some 12), .bin .mul (.tmp 9) (.tmp 11) (some (.int .i64)), none⟩,
    ⟨(some 13), .mkSlice 1 1 [(.int .u8 0)] (.const (.int .i64 0)) (.tmp 12), none⟩,
    ⟨(some 5), .mov (.tmp 13), none⟩])
  (.seq (.seq (.ops [⟨(some 14), .mov (.tmp 0), none⟩,
    ⟨(some 15), .len 1 (.tmp 14), none⟩,
    ⟨(some 16), .mov (.const (.int .i64 0)), none⟩])
  (.block 0 (.loop (.seq (.ops [⟨(some 17), .bin .lss (.tmp 16) (.tmp 15) (some (.int .i64)), none⟩])
  (.seq (.cond (.tmp 17)
  .skip
  (.exit 0))
  (.seq (.block 1 (.seq (.ops [⟨(some 18), .indexAddr 1 (.tmp 14) (.tmp 16), none⟩,
    ⟨(some 19), .load false 1 (.tmp 18), none⟩,
    ⟨(some 7), .mov (.tmp 19), none⟩])
  (.seq (.ops [⟨(some 20), .mov (.tmp 1), none⟩,
    ⟨(some 21), .mov (.const (.int .i64 0)), none⟩])
  (.block 2 (.loop (.seq (.ops [⟨(some 22), .bin .lss (.tmp 21) (.tmp 20) (some (.int .i64)), none⟩])
  (.seq (.cond (.tmp 22)
  .skip
  (.exit 2))
  (.seq (.block 3 (.seq (.ops [⟨(some 23), .mov (.tmp 21), none⟩,
    ⟨(some 8), .mov (.tmp 23), none⟩])
  (.ops [⟨(some 24), .mov (.tmp 5), none⟩,
    ⟨(some 25), .mov (.tmp 7), none⟩,
    ⟨(some 26), .mov (.tmp 8), none⟩,
    ⟨(some 27), .bin .mul (.const (.int .i64 8)) (.tmp 26) (some (.int .i64)), none⟩,
    ⟨(some 28), .bin .shr (.tmp 25) (.tmp 27) (some (.int .u64)), none⟩,
    ⟨(some 29), .conv .u8 (.tmp 28), none⟩,
    ⟨(some 30), .buildSlice 1 1 [(.int .u8 0)] [(0, 1, (.tmp 29))], none⟩,
    ⟨(some 31), .appendB (.tmp 24) (.tmp 30), none⟩,
    ⟨(some 5), .mov (.tmp 31), none⟩])))
  (.ops [⟨(some 32), .bin .add (.tmp 21) (.const (.int .i64 1)) (some (.int .i64)), none⟩,
    ⟨(some 21), .mov (.tmp 32), none⟩])))))))))
  (.ops [⟨(some 33), .bin .add (.tmp 16) (.const (.int .i64 1)) (some (.int .i64)), none⟩,
    ⟨(some 16), .mov (.tmp 33), none⟩])))))))
  (.seq (.ops [⟨(some 34), .mov (.tmp 5), none⟩,
    ⟨(some 4), .mov (.tmp 34), none⟩])
  .ret))))⟩
theorem F368_ok : compF Tryz.prog 368 = some F368 := by kernel_rfl
/-- (colonnade/array.texts).read -/
def F370 : FC := ⟨59, [.cell 8 true 4],
  (.seq (.ops [⟨(some 4), .box (.tmp 0), none⟩,
    ⟨(some 8), .alloc [(.bool false), (.int .i64 0), (.string ⟨#[]⟩), (.slice none 0 0)], none⟩])
  (.seq (.ops [⟨(some 14), .mov (.tmp 1), none⟩,
    ⟨(some 15), .mov (.tmp 2), none⟩,
    ⟨(some 16), .mov (.tmp 1), none⟩,
    ⟨(some 17), .nilCheck (.tmp 16), none⟩,
    ⟨(some 18), .fieldAddr 7 (.tmp 17), none⟩,
    ⟨(some 19), .fieldAddr 3 (.tmp 18), none⟩,
    ⟨(some 20), .load false 1 (.tmp 19), none⟩,
    ⟨(some 21), .indexAddr 1 (.tmp 20) (.const (.int .i64 2)), none⟩,
    ⟨(some 22), .load false 1 (.tmp 21), none⟩,
    ⟨(some 23), .len 1 (.tmp 22), none⟩,
    ⟨(some 24), .call 371 [(.tmp 14), (.tmp 15), (.tmp 23)], none⟩,
    ⟨(some 13), .mov (.tmp 24), none⟩,
    ⟨(some 25), .extract (.tmp 13) 0, none⟩,
    ⟨(some 26), .extract (.tmp 13) 1, none⟩,
    ⟨(some 9), .mov (.tmp 25), none⟩,
    ⟨(some 10), .mov (.tmp 26), none⟩])
  (.seq (.ops [⟨(some 27), .mov (.tmp 3), none⟩,
    ⟨(some 28), .mov (.tmp 10), none⟩,
    ⟨(some 29), .bin .add (.const (.int .i64 16)) (.tmp 28) (some (.int .i64)), none⟩,
    ⟨(some 30), .mov (.tmp 9), none⟩,
    ⟨(some 31), .bin .sub (.tmp 29) (.tmp 30) (some (.int .i64)), none⟩,
    ⟨(some 32), .call 186 [(.tmp 27), (.tmp 31)], none⟩])
  (.seq (.ops [⟨(some 34), .mov (.tmp 1), none⟩,
    ⟨(some 35), .call 222 [(.tmp 34), (.const (.int .i64 2))], none⟩,
    ⟨(some 36), .mov (.tmp 9), none⟩,
    ⟨(some 37), .mov (.tmp 10), none⟩,
    ⟨(some 38), .mov (.tmp 9), none⟩,
    ⟨(some 39), .bin .sub (.tmp 37) (.tmp 38) (some (.int .i64)), none⟩,
    ⟨(some 40), .call 372 [(.tmp 35), (.tmp 36), (.tmp 39)], none⟩,
    ⟨(some 33), .mov (.tmp 40), none⟩,
    ⟨(some 41), .extract (.tmp 33) 0, none⟩,
    ⟨(some 42), .extract (.tmp 33) 1, none⟩,
    ⟨(some 11), .mov (.tmp 41), none⟩,
    ⟨(some 12), .mov (.tmp 42), none⟩])
  (.seq (.seq (.ops [⟨(some 43), .mov (.tmp 1), none⟩,
    ⟨(some 44), .nilCheck (.tmp 43), none⟩,
    ⟨(some 45), .fieldAddr 0 (.tmp 44), none⟩,
    ⟨(some 46), .fieldAddr 2 (.tmp 45), none⟩,
    ⟨(some 47), .fieldAddr 0 (.tmp 46), none⟩,
    ⟨(some 48), .load false 1 (.tmp 47), none⟩,
    ⟨(some 49), .bin .eql (.tmp 48) (.const (.int .i64 12)) (some (.int .i64)), none⟩,
    ⟨(some 50), .mov (.tmp 49), none⟩,
    ⟨(some 51), .mov (.tmp 11), (some (50, true))⟩,
    ⟨(some 52), .call 36 [(.tmp 51)], (some (50, true))⟩,
    ⟨(some 53), .un .not (.tmp 52), (some (50, true))⟩,
    ⟨(some 54), .pick (.tmp 50) (.tmp 53) (.const (.bool false)), none⟩])
  (.cond (.tmp 54)
  (.ops [⟨(some 55), .build [] [], none⟩,
    ⟨(some 56), .mkIface 262 (.tmp 55), none⟩,
    ⟨none, .panic (.tmp 56), none⟩])
  .skip))
  (.seq (.ops [⟨(some 57), .mov (.tmp 11), none⟩,
    ⟨(some 58), .build [(.bool false), (.int .i64 0), (.string ⟨#[]⟩), (.slice none 0 0)] [(2, 1, (.tmp 57))], none⟩,
    ⟨none, .store 4 (.tmp 8) (.tmp 58), none⟩])
  .ret))))))⟩
theorem F370_ok : compF Tryz.prog 370 = some F370 := by kernel_rfl
/-- (*colonnade/array.Array).between -/
def F371 : FC := ⟨46, [.tmp 6, .tmp 7],
  (.seq (.ops [⟨(some 6), .mov (.const (.int .i64 0)), none⟩,
    ⟨(some 7), .mov (.const (.int .i64 0)), none⟩])
  (.seq (.ops [⟨(some 13), .mov (.tmp 0), none⟩,
    ⟨(some 14), .call 222 [(.tmp 13), (.const (.int .i64 1))], none⟩,
    ⟨(some 8), .alloc [(.slice none 0 0), (.int .i64 0), (.pointer none)], none⟩,
    ⟨none, .store 3 (.tmp 8) (.tmp 14), none⟩])
  (.seq (.ops [⟨(some 16), .load true 3 (.tmp 8), none⟩,
    ⟨(some 17), .mov (.tmp 1), none⟩,
    ⟨(some 18), .bin .mul (.const (.int .i64 4)) (.tmp 17) (some (.int .i64)), none⟩,
    ⟨(some 19), .call 373 [(.tmp 16), (.tmp 18), (.const (.int .i64 4))], none⟩,
    ⟨(some 15), .mov (.tmp 19), none⟩,
    ⟨(some 20), .extract (.tmp 15) 0, none⟩,
    ⟨(some 21), .extract (.tmp 15) 1, none⟩,
    ⟨(some 9), .mov (.tmp 20), none⟩,
    ⟨(some 10), .mov (.tmp 21), none⟩])
  (.seq (.ops [⟨(some 23), .load true 3 (.tmp 8), none⟩,
    ⟨(some 24), .mov (.tmp 1), none⟩,
    ⟨(some 25), .bin .mul (.const (.int .i64 4)) (.tmp 24) (some (.int .i64)), none⟩,
    ⟨(some 26), .bin .add (.tmp 25) (.const (.int .i64 4)) (some (.int .i64)), none⟩,
    ⟨(some 27), .call 373 [(.tmp 23), (.tmp 26), (.const (.int .i64 4))], none⟩,
    ⟨(some 22), .mov (.tmp 27), none⟩,
    ⟨(some 28), .extract (.tmp 22) 0, none⟩,
    ⟨(some 29), .extract (.tmp 22) 1, none⟩,
    ⟨(some 11), .mov (.tmp 28), none⟩,
    ⟨(some 12), .mov (.tmp 29), none⟩])
  (.seq (.seq (.ops [⟨(some 30), .mov (.tmp 9), none⟩,
    ⟨(some 31), .bin .lss (.tmp 30) (.const (.int .i64 0)) (some (.int .i64)), none⟩,
    ⟨(some 32), .mov (.tmp 31), none⟩,
    ⟨(some 33), .mov (.tmp 11), (some (32, false))⟩,
    ⟨(some 34), .mov (.tmp 9), (some (32, false))⟩,
    ⟨(some 35), .bin .lss (.tmp 33) (.tmp 34) (some (.int .i64)), (some (32, false))⟩,
    ⟨(some 36), .pick (.tmp 32) (.const (.bool true)) (.tmp 35), none⟩,
    ⟨(some 37), .mov (.tmp 36), none⟩,
    ⟨(some 38), .mov (.tmp 11), (some (37, false))⟩,
    ⟨(some 39), .mov (.tmp 2), (some (37, false))⟩,
    ⟨(some 40), .bin .gtr (.tmp 38) (.tmp 39) (some (.int .i64)), (some (37, false))⟩,
    ⟨(some 41), .pick (.tmp 37) (.const (.bool true)) (.tmp 40), none⟩])
  (.cond (.tmp 41)
  (.ops [⟨(some 42), .build [] [], none⟩,
    ⟨(some 43), .mkIface 262 (.tmp 42), none⟩,
    ⟨none, .panic (.tmp 43), none⟩])
  .skip))
  (.seq (.ops [⟨(some 44), .mov (.tmp 9), none⟩,
    ⟨(some 45), .mov (.tmp 11), none⟩,
    ⟨(some 6), .mov (.tmp 44), none⟩,
    ⟨(some 7), .mov (.tmp 45), none⟩])
  .ret))))))⟩
theorem F371_ok : compF Tryz.prog 371 = some F371 := by kernel_rfl
/-- (colonnade/view.View).Text -/
def F372 : FC := ⟨18, [.tmp 6, .tmp 7],
  (.seq (.ops [⟨(some 3), .box (.tmp 0), none⟩,
    ⟨(some 6), .mov (.const (.string ⟨#[]⟩)), none⟩,
    ⟨(some 7), .mov (.const (.int .i64 0)), none⟩])
  (.seq (.seq (.ops [⟨(some 8), .load true 3 (.tmp 3), none⟩,
    ⟨(some 9), .mov (.tmp 1), none⟩,
    ⟨(some 10), .mov (.tmp 2), none⟩,
    ⟨(some 11), .call 251 [(.tmp 8), (.tmp 9), (.tmp 10)], none⟩,
    ⟨(some 12), .un .not (.tmp 11), none⟩])
  (.cond (.tmp 12)
  (.seq (.ops [⟨(some 6), .mov (.const (.string ⟨#[]⟩)), none⟩,
    ⟨(some 7), .mov (.const (.int .i64 2)), none⟩])
  .ret)
  .skip))
  (.seq (.ops [⟨(some 13), .load true 3 (.tmp 3), none⟩,
    ⟨(some 14), .mov (.tmp 1), none⟩,
    ⟨(some 15), .mov (.tmp 2), none⟩,
    ⟨(some 16), .call 252 [(.tmp 13), (.tmp 14), (.tmp 15)], none⟩,
    ⟨(some 17), .b2s (.tmp 16), none⟩,
    ⟨(some 6), .mov (.tmp 17), none⟩,
    ⟨(some 7), .mov (.const (.int .i64 0)), none⟩])
  .ret)))⟩
theorem F372_ok : compF Tryz.prog 372 = some F372 := by kernel_rfl
/-- (colonnade/view.View).Signed -/
def F373 : FC := ⟨30, [.tmp 6, .tmp 7],
  (.seq (.ops [⟨(some 3), .box (.tmp 0), none⟩,
    ⟨(some 6), .mov (.const (.int .i64 0)), none⟩,
    ⟨(some 7), .mov (.const (.int .i64 0)), none⟩])
  (.seq (.ops [⟨(some 12), .load true 3 (.tmp 3), none⟩,
    ⟨(some 13), .mov (.tmp 1), none⟩,
    ⟨(some 14), .mov (.tmp 2), none⟩,
    ⟨(some 15), .call 374 [(.tmp 12), (.tmp 13), (.tmp 14)], none⟩,
    ⟨(some 11), .mov (.tmp 15), none⟩,
    ⟨(some 16), .extract (.tmp 11) 0, none⟩,
    ⟨(some 17), .extract (.tmp 11) 1, none⟩,
    ⟨(some 8), .mov (.tmp 16), none⟩,
    ⟨(some 9), .mov (.tmp 17), none⟩])
  (.seq (.seq (.ops [⟨(some 18), .mov (.tmp 9), none⟩,
    ⟨(some 19), .bin .neq (.tmp 18) (.const (.int .i64 0)) (some (.int .i64)), none⟩])
  (.cond (.tmp 19)
  (.seq (.ops [⟨(some 20), .mov (.tmp 9), none⟩,
    ⟨(some 6), .mov (.const (.int .i64 0)), none⟩,
    ⟨(some 7), .mov (.tmp 20), none⟩])
  .ret)
  .skip))
  (.seq (.ops [⟨(some 21), .mov (.tmp 2), none⟩,
    ⟨(some 22), .bin .mul (.const (.int .i64 8)) (.tmp 21) (some (.int .i64)), none⟩,
    ⟨(some 23), .bin .sub (.const (.int .i64 64)) (.tmp 22) (some (.int .i64)), none⟩,
    ⟨(some 10), .mov (.tmp 23), none⟩])
  (.seq (.ops [⟨(some 24), .mov (.tmp 8), none⟩,
    ⟨(some 25), .mov (.tmp 10), none⟩,
    ⟨(some 26), .bin .shl (.tmp 24) (.tmp 25) (some (.int .u64)), none⟩,
    ⟨(some 27), .conv .i64 (.tmp 26), none⟩,
    ⟨(some 28), .mov (.tmp 10), none⟩,
    ⟨(some 29), .bin .shr (.tmp 27) (.tmp 28) (some (.int .i64)), none⟩,
    ⟨(some 6), .mov (.tmp 29), none⟩,
    ⟨(some 7), .mov (.const (.int .i64 0)), none⟩])
  .ret)))))⟩
theorem F373_ok : compF Tryz.prog 373 = some F373 := by kernel_rfl
/-- (colonnade/view.View).Load -/
def F374 : FC := ⟨21, [.tmp 6, .tmp 7],
  (.seq (.ops [⟨(some 3), .box (.tmp 0), none⟩,
    ⟨(some 6), .mov (.const (.int .u64 0)), none⟩,
    ⟨(some 7), .mov (.const (.int .i64 0)), none⟩])
  (.seq (.seq (.ops [⟨(some 8), .mov (.tmp 2), none⟩,
    ⟨(some 9), .call 375 [(.tmp 8)], none⟩,
    ⟨(some 10), .un .not (.tmp 9), none⟩])
  (.cond (.tmp 10)
  (.seq (.ops [⟨(some 6), .mov (.const (.int .u64 0)), none⟩,
    ⟨(some 7), .mov (.const (.int .i64 1)), none⟩])
  .ret)
  .skip))
  (.seq (.seq (.ops [⟨(some 11), .load true 3 (.tmp 3), none⟩,
    ⟨(some 12), .mov (.tmp 1), none⟩,
    ⟨(some 13), .mov (.tmp 2), none⟩,
    ⟨(some 14), .call 251 [(.tmp 11), (.tmp 12), (.tmp 13)], none⟩,
    ⟨(some 15), .un .not (.tmp 14), none⟩])
  (.cond (.tmp 15)
  (.seq (.ops [⟨(some 6), .mov (.const (.int .u64 0)), none⟩,
    ⟨(some 7), .mov (.const (.int .i64 2)), none⟩])
  .ret)
  .skip))
  (.seq (.ops [⟨(some 16), .load true 3 (.tmp 3), none⟩,
    ⟨(some 17), .mov (.tmp 1), none⟩,
    ⟨(some 18), .mov (.tmp 2), none⟩,
    ⟨(some 19), .call 252 [(.tmp 16), (.tmp 17), (.tmp 18)], none⟩,
    ⟨(some 20), .call 376 [(.tmp 19)], none⟩,
    ⟨(some 6), .mov (.tmp 20), none⟩,
    ⟨(some 7), .mov (.const (.int .i64 0)), none⟩])
  .ret))))⟩
theorem F374_ok : compF Tryz.prog 374 = some F374 := by kernel_rfl
/-- colonnade/view.wide -/
def F375 : FC := ⟨17, [.tmp 2],
  (.seq (.ops [⟨(some 2), .mov (.const (.bool false)), none⟩])
  (.seq (.ops [⟨(some 3), .mov (.tmp 0), none⟩,
    ⟨(some 4), .bin .eql (.tmp 3) (.const (.int .i64 1)) (some (.int .i64)), none⟩,
    ⟨(some 5), .mov (.tmp 4), none⟩,
    ⟨(some 6), .mov (.tmp 0), (some (5, false))⟩,
    ⟨(some 7), .bin .eql (.tmp 6) (.const (.int .i64 2)) (some (.int .i64)), (some (5, false))⟩,
    ⟨(some 8), .pick (.tmp 5) (.const (.bool true)) (.tmp 7), none⟩,
    ⟨(some 9), .mov (.tmp 8), none⟩,
    ⟨(some 10), .mov (.tmp 0), (some (9, false))⟩,
    ⟨(some 11), .bin .eql (.tmp 10) (.const (.int .i64 4)) (some (.int .i64)), (some (9, false))⟩,
    ⟨(some 12), .pick (.tmp 9) (.const (.bool true)) (.tmp 11), none⟩,
    ⟨(some 13), .mov (.tmp 12), none⟩,
    ⟨(some 14), .mov (.tmp 0), (some (13, false))⟩,
    ⟨(some 15), .bin .eql (.tmp 14) (.const (.int .i64 8)) (some (.int .i64)), (some (13, false))⟩,
    ⟨(some 16), .pick (.tmp 13) (.const (.bool true)) (.tmp 15), none⟩,
    ⟨(some 2), .mov (.tmp 16), none⟩])
  .ret))⟩
theorem F375_ok : compF Tryz.prog 375 = some F375 := by kernel_rfl
/-- colonnade/view.number -/
def F376 : FC := ⟨22, [.tmp 2],
  (.seq (.ops [⟨(some 2), .mov (.const (.int .u64 0)), none⟩])
  (.seq (.ops [⟨(some 3), .mov (.const (.int .u64 0)), none⟩])
  (.seq (.seq (.ops [⟨(some 6), .mov (.tmp 0), none⟩,
    ⟨(some 7), .len 1 (.tmp 6), none⟩,
    ⟨(some 8), .mov (.const (.int .i64 0)), none⟩])
  (.block 0 (.loop (.seq (.ops [⟨(some 9), .bin .lss (.tmp 8) (.tmp 7) (some (.int .i64)), none⟩])
  (.seq (.cond (.tmp 9)
  .skip
  (.exit 0))
  (.seq (.block 1 (.seq (.ops [⟨(some 10), .mov (.tmp 8), none⟩,
    ⟨(some 11), .indexAddr 1 (.tmp 6) (.tmp 8), none⟩,
    ⟨(some 12), .load false 1 (.tmp 11), none⟩,
    ⟨(some 4), .mov (.tmp 10), none⟩,
    ⟨(some 5), .mov (.tmp 12), none⟩])
  (.ops [⟨(some 13), .mov (.tmp 3), none⟩,
    ⟨(some 14), .mov (.tmp 5), none⟩,
    ⟨(some 15), .conv .u64 (.tmp 14), none⟩,
    ⟨(some 16), .mov (.tmp 4), none⟩,
    ⟨(some 17), .bin .mul (.const (.int .i64 8)) (.tmp 16) (some (.int .i64)), none⟩,
    ⟨(some 18), .bin .shl (.tmp 15) (.tmp 17) (some (.int .u64)), none⟩,
    ⟨(some 19), .bin .or (.tmp 13) (.tmp 18) (some (.int .u64)), none⟩,
    ⟨(some 3), .mov (.tmp 19), none⟩])))
  (.ops [⟨(some 20), .bin .add (.tmp 8) (.const (.int .i64 1)) (some (.int .i64)), none⟩,
    ⟨(some 8), .mov (.tmp 20), none⟩])))))))
  (.seq (.ops [⟨(some 21), .mov (.tmp 3), none⟩,
    ⟨(some 2), .mov (.tmp 21), none⟩])
  .ret))))⟩
theorem F376_ok : compF Tryz.prog 376 = some F376 := by kernel_rfl
/-- (*colonnade/array.Array).number -/
def F383 : FC := ⟨43, [.tmp 6],
  (.seq (.ops [⟨(some 6), .mov (.const (.int .i64 0)), none⟩])
  (.seq (.ops [⟨(some 12), .mov (.tmp 1), none⟩,
    ⟨(some 13), .call 269 [(.tmp 12)], none⟩,
    ⟨(some 7), .mov (.tmp 13), none⟩])
  (.seq (.seq (.ops [⟨(some 14), .mov (.tmp 1), none⟩,
    ⟨(some 15), .bin .geq (.tmp 14) (.const (.int .i64 3)) (some (.int .i64)), none⟩,
    ⟨(some 16), .mov (.tmp 15), none⟩,
    ⟨(some 17), .mov (.tmp 1), (some (16, true))⟩,
    ⟨(some 18), .bin .leq (.tmp 17) (.const (.int .i64 6)) (some (.int .i64)), (some (16, true))⟩,
    ⟨(some 19), .pick (.tmp 16) (.tmp 18) (.const (.bool false)), none⟩])
  (.cond (.tmp 19)
  (.seq (.ops [⟨(some 21), .mov (.tmp 0), none⟩,
    ⟨(some 22), .call 222 [(.tmp 21), (.const (.int .i64 1))], none⟩,
    ⟨(some 23), .mov (.tmp 2), none⟩,
    ⟨(some 24), .mov (.tmp 7), none⟩,
    ⟨(some 25), .bin .mul (.tmp 23) (.tmp 24) (some (.int .i64)), none⟩,
    ⟨(some 26), .mov (.tmp 7), none⟩,
    ⟨(some 27), .call 373 [(.tmp 22), (.tmp 25), (.tmp 26)], none⟩,
    ⟨(some 20), .mov (.tmp 27), none⟩,
    ⟨(some 28), .extract (.tmp 20) 0, none⟩,
    ⟨(some 29), .extract (.tmp 20) 1, none⟩,
    ⟨(some 8), .mov (.tmp 28), none⟩,
    ⟨(some 9), .mov (.tmp 29), none⟩])
  (.seq (.ops [⟨(some 30), .mov (.tmp 8), none⟩,
    ⟨(some 6), .mov (.tmp 30), none⟩])
  .ret))
  .skip))
  (.seq (.ops [⟨(some 32), .mov (.tmp 0), none⟩,
    ⟨(some 33), .call 222 [(.tmp 32), (.const (.int .i64 1))], none⟩,
    ⟨(some 34), .mov (.tmp 2), none⟩,
    ⟨(some 35), .mov (.tmp 7), none⟩,
    ⟨(some 36), .bin .mul (.tmp 34) (.tmp 35) (some (.int .i64)), none⟩,
    ⟨(some 37), .mov (.tmp 7), none⟩,
    ⟨(some 38), .call 374 [(.tmp 33), (.tmp 36), (.tmp 37)], none⟩,
    ⟨(some 31), .mov (.tmp 38), none⟩,
    ⟨(some 39), .extract (.tmp 31) 0, none⟩,
    ⟨(some 40), .extract (.tmp 31) 1, none⟩,
    ⟨(some 10), .mov (.tmp 39), none⟩,
    ⟨(some 11), .mov (.tmp 40), none⟩])
  (.seq (.ops [⟨(some 41), .mov (.tmp 10), none⟩,
    ⟨(some 42), .conv .i64 (.tmp 41), none⟩,
    ⟨(some 6), .mov (.tmp 42), none⟩])
  .ret)))))⟩
theorem F383_ok : compF Tryz.prog 383 = some F383 := by kernel_rfl
/-- (colonnade/array.flats).read -/
def F386 : FC := ⟨67, [.cell 8 true 4],
  (.seq (.ops [⟨(some 4), .box (.tmp 0), none⟩,
    ⟨(some 8), .alloc [(.bool false), (.int .i64 0), (.string ⟨#[]⟩), (.slice none 0 0)], none⟩])
  (.seq (.ops [⟨(some 15), .mov (.tmp 1), none⟩,
    ⟨(some 16), .nilCheck (.tmp 15), none⟩,
    ⟨(some 17), .fieldAddr 0 (.tmp 16), none⟩,
    ⟨(some 18), .fieldAddr 2 (.tmp 17), none⟩,
    ⟨(some 19), .load true 5 (.tmp 18), none⟩,
    ⟨(some 9), .alloc [(.int .i64 0), (.int .i64 0), (.int .i64 0), (.int .i64 0), (.slice none 0 0)], none⟩,
    ⟨none, .store 5 (.tmp 9) (.tmp 19), none⟩])
  (.seq (.ops [⟨(some 20), .mov (.tmp 1), none⟩,
    ⟨(some 21), .call 222 [(.tmp 20), (.const (.int .i64 1))], none⟩,
    ⟨(some 10), .alloc [(.slice none 0 0), (.int .i64 0), (.pointer none)], none⟩,
    ⟨none, .store 3 (.tmp 10) (.tmp 21), none⟩])
  (.seq (.ops [⟨(some 22), .mov (.tmp 3), none⟩,
    ⟨(some 23), .call 186 [(.tmp 22), (.const (.int .i64 16))], none⟩])
  (.seq (.seq (.ops [⟨(some 24), .fieldAddr 0 (.tmp 9), none⟩,
    ⟨(some 25), .load false 1 (.tmp 24), none⟩])
  (.block 0 (.seq (.ops [⟨(some 27), .bin .eql (.tmp 25) (.const (.int .i64 2)) (some (.int .i64)), none⟩,
    ⟨(some 26), .mov (.tmp 27), none⟩])
  (.cond (.tmp 26)
  (.seq (.ops [⟨(some 29), .load true 3 (.tmp 10), none⟩,
    ⟨(some 30), .mov (.tmp 2), none⟩,
    ⟨(some 31), .bin .quo (.tmp 30) (.const (.int .i64 8)) (some (.int .i64)), none⟩,
    ⟨(some 32), .call 223 [(.tmp 29), (.tmp 31)], none⟩,
    ⟨(some 28), .mov (.tmp 32), none⟩,
    ⟨(some 33), .extract (.tmp 28) 0, none⟩,
    ⟨(some 34), .extract (.tmp 28) 1, none⟩,
    ⟨(some 11), .mov (.tmp 33), none⟩,
    ⟨(some 12), .mov (.tmp 34), none⟩])
  (.seq (.ops [⟨(some 35), .mov (.tmp 11), none⟩,
    ⟨(some 36), .mov (.tmp 2), none⟩,
    ⟨(some 37), .bin .rem (.tmp 36) (.const (.int .i64 8)) (some (.int .i64)), none⟩,
    ⟨(some 38), .bin .shr (.tmp 35) (.tmp 37) (some (.int .u8)), none⟩,
    ⟨(some 39), .bin .and (.tmp 38) (.const (.int .u8 1)) (some (.int .u8)), none⟩,
    ⟨(some 40), .conv .i64 (.tmp 39), none⟩,
    ⟨(some 41), .build [(.bool false), (.int .i64 0), (.string ⟨#[]⟩), (.slice none 0 0)] [(1, 1, (.tmp 40))], none⟩,
    ⟨none, .store 4 (.tmp 8) (.tmp 41), none⟩])
  .ret))
  (.seq (.ops [⟨(some 43), .bin .eql (.tmp 25) (.const (.int .i64 14)) (some (.int .i64)), none⟩,
    ⟨(some 42), .mov (.tmp 43), none⟩])
  (.cond (.tmp 42)
  (.seq (.ops [⟨(some 44), .mov (.tmp 3), none⟩,
    ⟨(some 45), .fieldAddr 1 (.tmp 9), none⟩,
    ⟨(some 46), .load false 1 (.tmp 45), none⟩,
    ⟨(some 47), .call 186 [(.tmp 44), (.tmp 46)], none⟩])
  (.seq (.ops [⟨(some 49), .load true 3 (.tmp 10), none⟩,
    ⟨(some 50), .mov (.tmp 2), none⟩,
    ⟨(some 51), .fieldAddr 1 (.tmp 9), none⟩,
    ⟨(some 52), .load false 1 (.tmp 51), none⟩,
    ⟨(some 53), .bin .mul (.tmp 50) (.tmp 52) (some (.int .i64)), none⟩,
    ⟨(some 54), .fieldAddr 1 (.tmp 9), none⟩,
    ⟨(some 55), .load false 1 (.tmp 54), none⟩,
    ⟨(some 56), .call 372 [(.tmp 49), (.tmp 53), (.tmp 55)], none⟩,
    ⟨(some 48), .mov (.tmp 56), none⟩,
    ⟨(some 57), .extract (.tmp 48) 0, none⟩,
    ⟨(some 58), .extract (.tmp 48) 1, none⟩,
    ⟨(some 13), .mov (.tmp 57), none⟩,
    ⟨(some 14), .mov (.tmp 58), none⟩])
  (.seq (.ops [⟨(some 59), .mov (.tmp 13), none⟩,
    ⟨(some 60), .build [(.bool false), (.int .i64 0), (.string ⟨#[]⟩), (.slice none 0 0)] [(2, 1, (.tmp 59))], none⟩,
    ⟨none, .store 4 (.tmp 8) (.tmp 60), none⟩])
  .ret)))
  .skip))))))
  (.seq (.ops [⟨(some 61), .mov (.tmp 1), none⟩,
    ⟨(some 62), .fieldAddr 0 (.tmp 9), none⟩,
    ⟨(some 63), .load false 1 (.tmp 62), none⟩,
    ⟨(some 64), .mov (.tmp 2), none⟩,
    ⟨(some 65), .call 383 [(.tmp 61), (.tmp 63), (.tmp 64)], none⟩,
    ⟨(some 66), .build [(.bool false), (.int .i64 0), (.string ⟨#[]⟩), (.slice none 0 0)] [(1, 1, (.tmp 65))], none⟩,
    ⟨none, .store 4 (.tmp 8) (.tmp 66), none⟩])
  .ret))))))⟩
theorem F386_ok : compF Tryz.prog 386 = some F386 := by kernel_rfl
/-- colonnade/value.Parse -/
def D33 : DF := ⟨38, [.cell 4 true 4, .cell 5 false 1, .cell 6 false 1],
  [(.ops [⟨(some 2), .box (.tmp 0), none⟩,
    ⟨(some 4), .alloc [(.bool false), (.int .i64 0), (.string ⟨#[]⟩), (.slice none 0 0)], none⟩,
    ⟨(some 5), .alloc [(.int .i64 0)], none⟩,
    ⟨(some 6), .alloc [(.int .i64 0)], none⟩]), (.block 0 (.seq (.ops [⟨(some 9), .load true 7 (.tmp 2), none⟩,
    ⟨(some 10), .call 70 [(.tmp 9)], none⟩,
    ⟨(some 11), .un .not (.tmp 10), none⟩,
    ⟨(some 8), .mov (.tmp 11), none⟩])
  (.cond (.tmp 8)
  (.seq (.ops [⟨(some 12), .build [(.bool false), (.int .i64 0), (.string ⟨#[]⟩), (.slice none 0 0)] [], none⟩,
    ⟨none, .store 4 (.tmp 4) (.tmp 12), none⟩,
    ⟨none, .store 1 (.tmp 5) (.const (.int .i64 5)), none⟩,
    ⟨none, .store 1 (.tmp 6) (.const (.int .i64 0)), none⟩])
  .ret)
  (.seq (.ops [⟨(some 14), .mov (.tmp 1), none⟩,
    ⟨(some 15), .len 0 (.tmp 14), none⟩,
    ⟨(some 16), .bin .gtr (.tmp 15) (.const (.int .i64 65536)) (some (.int .i64)), none⟩,
    ⟨(some 13), .mov (.tmp 16), none⟩])
  (.cond (.tmp 13)
  (.seq (.ops [⟨(some 17), .build [(.bool false), (.int .i64 0), (.string ⟨#[]⟩), (.slice none 0 0)] [], none⟩,
    ⟨none, .store 4 (.tmp 4) (.tmp 17), none⟩,
    ⟨none, .store 1 (.tmp 5) (.const (.int .i64 4)), none⟩,
    ⟨none, .store 1 (.tmp 6) (.const (.int .i64 0)), none⟩])
  .ret)
  .skip)))))],
  [⟨(some 18), .mkFunc (.func 71) [] [(.tmp 4), (.tmp 5), (.tmp 6)], none⟩], (.tmp 18), [],
  [(.seq (.ops [⟨(some 19), .mov (.tmp 1), none⟩,
    ⟨(some 20), .build [(.string ⟨#[]⟩), (.int .i64 0)] [(0, 1, (.tmp 19))], none⟩,
    ⟨(some 21), .box (.tmp 20), none⟩,
    ⟨(some 7), .mov (.tmp 21), none⟩])
  (.seq (.ops [⟨(some 22), .mov (.tmp 7), none⟩,
    ⟨(some 23), .load true 7 (.tmp 2), none⟩,
    ⟨(some 24), .call 72 [(.tmp 22), (.tmp 23)], none⟩,
    ⟨none, .store 4 (.tmp 4) (.tmp 24), none⟩])
  (.seq (.seq (.ops [⟨(some 25), .mov (.tmp 7), none⟩,
    ⟨(some 26), .nilCheck (.tmp 25), none⟩,
    ⟨(some 27), .fieldAddr 1 (.tmp 26), none⟩,
    ⟨(some 28), .load false 1 (.tmp 27), none⟩,
    ⟨(some 29), .mov (.tmp 1), none⟩,
    ⟨(some 30), .len 0 (.tmp 29), none⟩,
    ⟨(some 31), .bin .lss (.tmp 28) (.tmp 30) (some (.int .i64)), none⟩])
  (.cond (.tmp 31)
  (.ops [⟨(some 32), .mov (.tmp 7), none⟩,
    ⟨(some 33), .nilCheck (.tmp 32), none⟩,
    ⟨(some 34), .fieldAddr 1 (.tmp 33), none⟩,
    ⟨(some 35), .load false 1 (.tmp 34), none⟩,
    ⟨(some 36), .call 73 [(.tmp 35)], none⟩])
  .skip))
  (.seq (.ops [⟨(some 37), .load true 4 (.tmp 4), none⟩,
    ⟨none, .store 4 (.tmp 4) (.tmp 37), none⟩,
    ⟨none, .store 1 (.tmp 5) (.const (.int .i64 0)), none⟩,
    ⟨none, .store 1 (.tmp 6) (.const (.int .i64 0)), none⟩])
  .ret))))]⟩
theorem D33_ok : compDF Tryz.prog 33 = some D33 := by kernel_rfl
/-- (*colonnade/array.Array).get -/
def D60 : DF := ⟨14, [.cell 4 true 4, .tmp 5, .cell 6 false 1],
  [(.ops [⟨(some 4), .alloc [(.bool false), (.int .i64 0), (.string ⟨#[]⟩), (.slice none 0 0)], none⟩,
    ⟨(some 5), .mov (.const (.int .i64 0)), none⟩,
    ⟨(some 6), .alloc [(.int .i64 0)], none⟩])],
  [], (.func 99), [(.tmp 6)],
  [(.seq (.ops [⟨(some 7), .alloc [(.int .i64 0)], none⟩,
    ⟨none, .store 1 (.tmp 7) (.const (.int .i64 4194304)), none⟩])
  (.seq (.ops [⟨(some 8), .mov (.tmp 0), none⟩,
    ⟨(some 9), .mov (.tmp 1), none⟩,
    ⟨(some 10), .call 100 [(.tmp 8), (.tmp 9), (.tmp 7)], none⟩,
    ⟨none, .store 4 (.tmp 4) (.tmp 10), none⟩])
  (.seq (.ops [⟨(some 11), .load true 4 (.tmp 4), none⟩,
    ⟨(some 12), .load false 1 (.tmp 7), none⟩,
    ⟨(some 13), .bin .sub (.const (.int .i64 4194304)) (.tmp 12) (some (.int .i64)), none⟩,
    ⟨none, .store 4 (.tmp 4) (.tmp 11), none⟩,
    ⟨none, .again 12 false 1 (.tmp 7), none⟩,
    ⟨(some 5), .mov (.tmp 13), none⟩,
    ⟨none, .store 1 (.tmp 6) (.const (.int .i64 0)), none⟩])
  .ret)))]⟩
theorem D60_ok : compDF Tryz.prog 60 = some D60 := by kernel_rfl
/-- (*colonnade/build.Builder).lay -/
def D134 : DF := ⟨18, [.cell 4 false 1],
  [(.ops [⟨(some 3), .box (.tmp 1), none⟩,
    ⟨(some 4), .alloc [(.int .i64 0)], none⟩]), (.ops [⟨(some 6), .mov (.tmp 0), none⟩,
    ⟨(some 7), .nilCheck (.tmp 6), none⟩,
    ⟨(some 8), .fieldAddr 7 (.tmp 7), none⟩,
    ⟨(some 9), .load false 1 (.tmp 8), none⟩,
    ⟨(some 10), .invoke (.tmp 9) "colonnade/build.mark" [(225, 301), (228, 311), (231, 319), (234, 324), (237, 329), (240, 338), (243, 345), (247, 360), (250, 365)] [], none⟩,
    ⟨(some 5), .alloc [.nilFunc], none⟩,
    ⟨none, .store 1 (.tmp 5) (.tmp 10), none⟩])],
  [⟨(some 11), .mkFunc (.func 179) [] [(.tmp 4), (.tmp 5)], none⟩], (.tmp 11), [],
  [(.seq (.ops [⟨(some 12), .mov (.tmp 0), none⟩,
    ⟨(some 13), .nilCheck (.tmp 12), none⟩,
    ⟨(some 14), .fieldAddr 7 (.tmp 13), none⟩,
    ⟨(some 15), .load false 1 (.tmp 14), none⟩,
    ⟨(some 16), .load true 4 (.tmp 3), none⟩,
    ⟨(some 17), .invoke (.tmp 15) "colonnade/build.take" [(225, 302), (228, 312), (231, 320), (234, 325), (237, 330), (240, 339), (243, 346), (247, 361), (250, 366)] [(.tmp 16)], none⟩,
    ⟨none, .store 1 (.tmp 4) (.tmp 17), none⟩])
  .ret)]⟩
theorem D134_ok : compDF Tryz.prog 134 = some D134 := by kernel_rfl
/-- colonnade/value.Parse$1 -/
def R71 : RF := ⟨22, [], (some (some 6)),
  [⟨(some 3), .mov (.tmp 6), none⟩],
  [(.seq (.ops [⟨(some 7), .mov (.tmp 3), none⟩,
    ⟨(some 8), .bin .neq (.tmp 7) (.const .nilIface) (some (.interface #[])), none⟩])
  (.cond (.tmp 8)
  (.seq (.ops [⟨(some 10), .mov (.tmp 3), none⟩,
    ⟨(some 11), .tassert 157 [(.int .i64 0), (.int .i64 0)] true true (.tmp 10), none⟩,
    ⟨(some 9), .mov (.tmp 11), none⟩,
    ⟨(some 12), .extract (.tmp 9) 0, none⟩,
    ⟨(some 13), .extract (.tmp 9) 1, none⟩,
    ⟨(some 4), .alloc [(.int .i64 0), (.int .i64 0)], none⟩,
    ⟨none, .store 2 (.tmp 4) (.tmp 12), none⟩,
    ⟨(some 5), .mov (.tmp 13), none⟩])
  (.seq (.seq (.ops [⟨(some 14), .mov (.tmp 5), none⟩,
    ⟨(some 15), .un .not (.tmp 14), none⟩])
  (.cond (.tmp 15)
  (.ops [⟨(some 16), .mov (.tmp 3), none⟩,
    ⟨none, .panic (.tmp 16), none⟩])
  .skip))
  (.ops [⟨(some 17), .build [(.bool false), (.int .i64 0), (.string ⟨#[]⟩), (.slice none 0 0)] [], none⟩,
    ⟨(some 18), .fieldAddr 0 (.tmp 4), none⟩,
    ⟨(some 19), .load false 1 (.tmp 18), none⟩,
    ⟨(some 20), .fieldAddr 1 (.tmp 4), none⟩,
    ⟨(some 21), .load false 1 (.tmp 20), none⟩,
    ⟨none, .store 4 (.tmp 0) (.tmp 17), none⟩,
    ⟨none, .again 21 false 1 (.tmp 20), none⟩,
    ⟨none, .again 19 false 1 (.tmp 18), none⟩,
    ⟨none, .store 1 (.tmp 1) (.tmp 19), none⟩,
    ⟨none, .again 21 false 1 (.tmp 20), none⟩,
    ⟨none, .store 1 (.tmp 2) (.tmp 21), none⟩])))
  .skip))]⟩
theorem R71_ok : compRF Tryz.prog 71 = some R71 := by kernel_rfl
/-- colonnade/array.caught -/
def R99 : RF := ⟨18, [], (some (some 5)),
  [⟨(some 2), .mov (.tmp 5), none⟩],
  [(.seq (.ops [⟨(some 6), .mov (.tmp 2), none⟩,
    ⟨(some 7), .bin .neq (.tmp 6) (.const .nilIface) (some (.interface #[])), none⟩])
  (.cond (.tmp 7)
  (.seq (.seq (.ops [⟨(some 9), .mov (.tmp 2), none⟩,
    ⟨(some 10), .tassert 262 [] true true (.tmp 9), none⟩,
    ⟨(some 8), .mov (.tmp 10), none⟩,
    ⟨(some 11), .extract (.tmp 8) 0, none⟩,
    ⟨(some 12), .extract (.tmp 8) 1, none⟩,
    ⟨(some 3), .alloc [], none⟩,
    ⟨none, .store 0 (.tmp 3) (.tmp 11), none⟩,
    ⟨(some 4), .mov (.tmp 12), none⟩])
  (.seq (.ops [⟨(some 13), .mov (.tmp 4), none⟩,
    ⟨(some 14), .un .not (.tmp 13), none⟩])
  (.cond (.tmp 14)
  (.ops [⟨(some 15), .mov (.tmp 2), none⟩,
    ⟨none, .panic (.tmp 15), none⟩])
  .skip)))
  (.ops [⟨(some 16), .mov (.tmp 0), none⟩,
    ⟨(some 17), .nilCheck (.tmp 16), none⟩,
    ⟨none, .store 1 (.tmp 17) (.const (.int .i64 7)), none⟩]))
  .skip))]⟩
theorem R99_ok : compRF Tryz.prog 99 = some R99 := by kernel_rfl
/-- (*colonnade/build.Builder).lay$1 -/
def R179 : RF := ⟨6, [], none,
  [],
  [(.seq (.ops [⟨(some 2), .load false 1 (.tmp 0), none⟩,
    ⟨(some 3), .bin .neq (.tmp 2) (.const (.int .i64 0)) (some (.int .i64)), none⟩])
  (.cond (.tmp 3)
  (.ops [⟨(some 4), .load false 1 (.tmp 1), none⟩,
    ⟨(some 5), .callv (.tmp 4) [], none⟩])
  .skip))]⟩
theorem R179_ok : compRF Tryz.prog 179 = some R179 := by kernel_rfl
end Go.Proofs.YtpgeonghlabnhaaGreatDoor.Lin
