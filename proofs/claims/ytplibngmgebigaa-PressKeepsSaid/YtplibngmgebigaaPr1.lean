/- Pr1: the press functions' code as instructions. No conditions. -/
import Derived.Test.YtplibngmgebigaaEm22
import Derived.Test.YtplibngmgebigaaProg
import Derived.KernelRfl
set_option linter.unusedVariables false
namespace Go.Proofs.Ytplibngmgebigaa.Press
open Go Go.Proofs.Ytplibngmgebigaa Go.Proofs.Ytplibngmgebigaa.Em

/-- colonnade/colonnadelaw06.PressNames -/
def F3 : FC := ⟨4, [.tmp 0],
  (.seq (.ops [⟨(some 0), .mov (.const (.bool false)), none⟩])
  (.seq (.ops [⟨(some 1), .mov (.const (.bool true)), none⟩,
    ⟨(some 2), .call 11 [], (some (1, true))⟩,
    ⟨(some 3), .pick (.tmp 1) (.tmp 2) (.const (.bool false)), none⟩,
    ⟨(some 0), .mov (.tmp 3), none⟩])
  .ret))⟩
theorem F3_ok : compF Try.prog 3 = some F3 := by kernel_rfl

/-- colonnade/colonnadelaw06.PressPacks -/
def F4 : FC := ⟨51, [.tmp 4],
  (.seq (.ops [⟨(some 4), .mov (.const (.bool false)), none⟩])
  (.seq (.seq (.ops [⟨(some 11), .call 11 [], none⟩,
    ⟨(some 12), .un .not (.tmp 11), none⟩])
  (.cond (.tmp 12)
  (.seq (.ops [⟨(some 4), .mov (.const (.bool false)), none⟩])
  .ret)
  .skip))
  (.seq (.seq (.ops [⟨(some 13), .mov (.tmp 0), none⟩,
    ⟨(some 14), .len 1 (.tmp 13), none⟩,
    ⟨(some 15), .mov (.const (.int .i64 0)), none⟩])
  (.block 0 (.loop (.seq (.ops [⟨(some 16), .bin .lss (.tmp 15) (.tmp 14) (some (.int .i64)), none⟩])
  (.seq (.cond (.tmp 16)
  .skip
  (.exit 0))
  (.seq (.block 1 (.seq (.ops [⟨(some 17), .indexAddr 1 (.tmp 13) (.tmp 15), none⟩,
    ⟨(some 18), .load false 1 (.tmp 17), none⟩,
    ⟨(some 6), .mov (.tmp 18), none⟩])
  (.seq (.ops [⟨(some 7), .mov (.const (.int .i64 0)), none⟩])
  (.block 2 (.loop (.seq (.seq (.ops [⟨(some 19), .mov (.tmp 7), none⟩,
    ⟨(some 20), .bin .lss (.tmp 19) (.const (.int .i64 3)) (some (.int .i64)), none⟩])
  (.cond (.tmp 20)
  .skip
  (.exit 2)))
  (.seq (.block 3 (.seq (.ops [⟨(some 23), .mov (.tmp 7), none⟩,
    ⟨(some 24), .mov (.tmp 6), none⟩,
    ⟨(some 25), .call 12 [(.tmp 23), (.tmp 24)], none⟩,
    ⟨(some 26), .un .not (.tmp 25), none⟩])
  (.cond (.tmp 26)
  (.seq (.ops [⟨(some 4), .mov (.const (.bool false)), none⟩])
  .ret)
  .skip)))
  (.ops [⟨(some 21), .mov (.tmp 7), none⟩,
    ⟨(some 22), .bin .add (.tmp 21) (.const (.int .i64 1)) (some (.int .i64)), none⟩,
    ⟨(some 7), .mov (.tmp 22), none⟩]))))))))
  (.ops [⟨(some 27), .bin .add (.tmp 15) (.const (.int .i64 1)) (some (.int .i64)), none⟩,
    ⟨(some 15), .mov (.tmp 27), none⟩])))))))
  (.seq (.seq (.ops [⟨(some 28), .mov (.tmp 1), none⟩,
    ⟨(some 29), .len 1 (.tmp 28), none⟩,
    ⟨(some 30), .mov (.const (.int .i64 0)), none⟩])
  (.block 4 (.loop (.seq (.ops [⟨(some 31), .bin .lss (.tmp 30) (.tmp 29) (some (.int .i64)), none⟩])
  (.seq (.cond (.tmp 31)
  .skip
  (.exit 4))
  (.seq (.block 5 (.seq (.ops [⟨(some 32), .mov (.tmp 30), none⟩,
    ⟨(some 33), .indexAddr 1 (.tmp 28) (.tmp 30), none⟩,
    ⟨(some 34), .load false 1 (.tmp 33), none⟩,
    ⟨(some 8), .mov (.tmp 32), none⟩,
    ⟨(some 9), .mov (.tmp 34), none⟩])
  (.seq (.ops [⟨(some 35), .mov (.tmp 8), none⟩,
    ⟨(some 36), .conv .u8 (.tmp 35), none⟩,
    ⟨(some 37), .buildSlice 1 6 [(.int .u8 0), (.int .u8 0), (.int .u8 0), (.int .u8 0), (.int .u8 0), (.int .u8 0)] [(0, 1, (.tmp 36)), (1, 1, (.const (.int .u8 1))), (2, 1, (.const (.int .u8 1))), (3, 1, (.const (.int .u8 1))), (4, 1, (.const (.int .u8 1))), (5, 1, (.const (.int .u8 1)))], none⟩,
    ⟨(some 10), .mov (.tmp 37), none⟩])
  (.seq (.seq (.ops [⟨(some 38), .mov (.tmp 8), none⟩,
    ⟨(some 39), .mov (.tmp 0), none⟩,
    ⟨(some 40), .len 1 (.tmp 39), none⟩,
    ⟨(some 41), .bin .lss (.tmp 38) (.tmp 40) (some (.int .i64)), none⟩])
  (.cond (.tmp 41)
  (.ops [⟨(some 42), .mov (.tmp 0), none⟩,
    ⟨(some 43), .mov (.tmp 8), none⟩,
    ⟨(some 44), .indexAddr 1 (.tmp 42) (.tmp 43), none⟩,
    ⟨(some 45), .load false 1 (.tmp 44), none⟩,
    ⟨(some 10), .mov (.tmp 45), none⟩])
  .skip))
  (.seq (.ops [⟨(some 46), .mov (.tmp 9), none⟩,
    ⟨(some 47), .mov (.tmp 10), none⟩,
    ⟨(some 48), .call 12 [(.tmp 46), (.tmp 47)], none⟩,
    ⟨(some 49), .un .not (.tmp 48), none⟩])
  (.cond (.tmp 49)
  (.seq (.ops [⟨(some 4), .mov (.const (.bool false)), none⟩])
  .ret)
  .skip))))))
  (.ops [⟨(some 50), .bin .add (.tmp 30) (.const (.int .i64 1)) (some (.int .i64)), none⟩,
    ⟨(some 30), .mov (.tmp 50), none⟩])))))))
  (.seq (.ops [⟨(some 4), .mov (.const (.bool true)), none⟩])
  .ret)))))⟩
theorem F4_ok : compF Try.prog 4 = some F4 := by kernel_rfl

/-- colonnade/colonnadelaw06.PressUnpacks -/
def F5 : FC := ⟨48, [.tmp 2],
  (.seq (.ops [⟨(some 2), .mov (.const (.bool false)), none⟩])
  (.seq (.seq (.ops [⟨(some 9), .call 11 [], none⟩,
    ⟨(some 10), .un .not (.tmp 9), none⟩])
  (.cond (.tmp 10)
  (.seq (.ops [⟨(some 2), .mov (.const (.bool false)), none⟩])
  .ret)
  .skip))
  (.seq (.seq (.ops [⟨(some 11), .mov (.tmp 0), none⟩,
    ⟨(some 12), .len 1 (.tmp 11), none⟩,
    ⟨(some 13), .mov (.const (.int .i64 0)), none⟩])
  (.block 0 (.loop (.seq (.ops [⟨(some 14), .bin .lss (.tmp 13) (.tmp 12) (some (.int .i64)), none⟩])
  (.seq (.cond (.tmp 14)
  .skip
  (.exit 0))
  (.seq (.block 1 (.seq (.ops [⟨(some 15), .indexAddr 3 (.tmp 11) (.tmp 13), none⟩,
    ⟨(some 16), .load true 3 (.tmp 15), none⟩,
    ⟨(some 4), .alloc [(.int .i64 0), (.slice none 0 0), (.int .i64 0)], none⟩,
    ⟨none, .store 3 (.tmp 4) (.tmp 16), none⟩])
  (.seq (.ops [⟨(some 18), .fieldAddr 0 (.tmp 4), none⟩,
    ⟨(some 19), .load false 1 (.tmp 18), none⟩,
    ⟨(some 20), .fieldAddr 1 (.tmp 4), none⟩,
    ⟨(some 21), .load false 1 (.tmp 20), none⟩,
    ⟨(some 22), .fieldAddr 2 (.tmp 4), none⟩,
    ⟨(some 23), .load false 1 (.tmp 22), none⟩,
    ⟨(some 24), .call 13 [(.tmp 19), (.tmp 21), (.tmp 23)], none⟩,
    ⟨(some 17), .mov (.tmp 24), none⟩,
    ⟨(some 25), .extract (.tmp 17) 0, none⟩,
    ⟨(some 26), .extract (.tmp 17) 1, none⟩,
    ⟨(some 5), .mov (.tmp 25), none⟩,
    ⟨(some 6), .mov (.tmp 26), none⟩])
  (.seq (.ops [⟨(some 28), .fieldAddr 0 (.tmp 4), none⟩,
    ⟨(some 29), .load false 1 (.tmp 28), none⟩,
    ⟨(some 30), .fieldAddr 1 (.tmp 4), none⟩,
    ⟨(some 31), .load false 1 (.tmp 30), none⟩,
    ⟨(some 32), .fieldAddr 2 (.tmp 4), none⟩,
    ⟨(some 33), .load false 1 (.tmp 32), none⟩,
    ⟨(some 34), .call 14 [(.tmp 29), (.tmp 31), (.tmp 33)], none⟩,
    ⟨(some 27), .mov (.tmp 34), none⟩,
    ⟨(some 35), .extract (.tmp 27) 0, none⟩,
    ⟨(some 36), .extract (.tmp 27) 1, none⟩,
    ⟨(some 7), .mov (.tmp 35), none⟩,
    ⟨(some 8), .mov (.tmp 36), none⟩])
  (.seq (.ops [⟨(some 37), .mov (.tmp 8), none⟩,
    ⟨(some 38), .mov (.tmp 6), none⟩,
    ⟨(some 39), .bin .neq (.tmp 37) (.tmp 38) (some (.int .i64)), none⟩,
    ⟨(some 40), .mov (.tmp 39), none⟩,
    ⟨(some 41), .mov (.tmp 5), (some (40, false))⟩,
    ⟨(some 42), .b2s (.tmp 41), (some (40, false))⟩,
    ⟨(some 43), .mov (.tmp 7), (some (40, false))⟩,
    ⟨(some 44), .b2s (.tmp 43), (some (40, false))⟩,
    ⟨(some 45), .bin .neq (.tmp 42) (.tmp 44) (some .string), (some (40, false))⟩,
    ⟨(some 46), .pick (.tmp 40) (.const (.bool true)) (.tmp 45), none⟩])
  (.cond (.tmp 46)
  (.seq (.ops [⟨(some 2), .mov (.const (.bool false)), none⟩])
  .ret)
  .skip))))))
  (.ops [⟨(some 47), .bin .add (.tmp 13) (.const (.int .i64 1)) (some (.int .i64)), none⟩,
    ⟨(some 13), .mov (.tmp 47), none⟩])))))))
  (.seq (.ops [⟨(some 2), .mov (.const (.bool true)), none⟩])
  .ret))))⟩
theorem F5_ok : compF Try.prog 5 = some F5 := by kernel_rfl

/-- colonnade/colonnadelaw06.PressSizes -/
def F6 : FC := ⟨54, [.tmp 2],
  (.seq (.ops [⟨(some 2), .mov (.const (.bool false)), none⟩])
  (.seq (.seq (.ops [⟨(some 9), .call 11 [], none⟩,
    ⟨(some 10), .un .not (.tmp 9), none⟩])
  (.cond (.tmp 10)
  (.seq (.ops [⟨(some 2), .mov (.const (.bool false)), none⟩])
  .ret)
  .skip))
  (.seq (.seq (.ops [⟨(some 11), .mov (.tmp 0), none⟩,
    ⟨(some 12), .len 1 (.tmp 11), none⟩,
    ⟨(some 13), .mov (.const (.int .i64 0)), none⟩])
  (.block 0 (.loop (.seq (.ops [⟨(some 14), .bin .lss (.tmp 13) (.tmp 12) (some (.int .i64)), none⟩])
  (.seq (.cond (.tmp 14)
  .skip
  (.exit 0))
  (.seq (.block 1 (.seq (.ops [⟨(some 15), .indexAddr 3 (.tmp 11) (.tmp 13), none⟩,
    ⟨(some 16), .load true 3 (.tmp 15), none⟩,
    ⟨(some 4), .alloc [(.int .i64 0), (.slice none 0 0), (.int .i64 0)], none⟩,
    ⟨none, .store 3 (.tmp 4) (.tmp 16), none⟩])
  (.seq (.ops [⟨(some 18), .fieldAddr 0 (.tmp 4), none⟩,
    ⟨(some 19), .load false 1 (.tmp 18), none⟩,
    ⟨(some 20), .fieldAddr 1 (.tmp 4), none⟩,
    ⟨(some 21), .load false 1 (.tmp 20), none⟩,
    ⟨(some 22), .call 15 [(.tmp 19), (.tmp 21)], none⟩,
    ⟨(some 17), .mov (.tmp 22), none⟩,
    ⟨(some 23), .extract (.tmp 17) 0, none⟩,
    ⟨(some 24), .extract (.tmp 17) 1, none⟩,
    ⟨(some 5), .mov (.tmp 23), none⟩,
    ⟨(some 6), .mov (.tmp 24), none⟩])
  (.seq (.ops [⟨(some 26), .fieldAddr 0 (.tmp 4), none⟩,
    ⟨(some 27), .load false 1 (.tmp 26), none⟩,
    ⟨(some 28), .fieldAddr 1 (.tmp 4), none⟩,
    ⟨(some 29), .load false 1 (.tmp 28), none⟩,
    ⟨(some 30), .call 16 [(.tmp 27), (.tmp 29)], none⟩,
    ⟨(some 25), .mov (.tmp 30), none⟩,
    ⟨(some 31), .extract (.tmp 25) 0, none⟩,
    ⟨(some 32), .extract (.tmp 25) 1, none⟩,
    ⟨(some 7), .mov (.tmp 31), none⟩,
    ⟨(some 8), .mov (.tmp 32), none⟩])
  (.seq (.ops [⟨(some 33), .mov (.tmp 8), none⟩,
    ⟨(some 34), .mov (.tmp 6), none⟩,
    ⟨(some 35), .bin .neq (.tmp 33) (.tmp 34) (some (.int .i64)), none⟩,
    ⟨(some 36), .mov (.tmp 35), none⟩,
    ⟨(some 37), .mov (.tmp 6), (some (36, false))⟩,
    ⟨(some 38), .bin .eql (.tmp 37) (.const (.int .i64 0)) (some (.int .i64)), (some (36, false))⟩,
    ⟨(some 39), .mov (.tmp 38), (some (36, false))⟩,
    ⟨(some 40), .mov (.tmp 5), (some (39, true))⟩,
    ⟨(some 41), .mov (.tmp 7), (some (39, true))⟩,
    ⟨(some 42), .bin .neq (.tmp 40) (.tmp 41) (some (.int .i64)), (some (39, true))⟩,
    ⟨(some 43), .pick (.tmp 39) (.tmp 42) (.const (.bool false)), (some (36, false))⟩,
    ⟨(some 44), .pick (.tmp 36) (.const (.bool true)) (.tmp 43), none⟩,
    ⟨(some 45), .mov (.tmp 44), none⟩,
    ⟨(some 46), .mov (.tmp 6), (some (45, false))⟩,
    ⟨(some 47), .bin .neq (.tmp 46) (.const (.int .i64 0)) (some (.int .i64)), (some (45, false))⟩,
    ⟨(some 48), .mov (.tmp 47), (some (45, false))⟩,
    ⟨(some 49), .mov (.tmp 7), (some (48, true))⟩,
    ⟨(some 50), .bin .neq (.tmp 49) (.const (.int .i64 0)) (some (.int .i64)), (some (48, true))⟩,
    ⟨(some 51), .pick (.tmp 48) (.tmp 50) (.const (.bool false)), (some (45, false))⟩,
    ⟨(some 52), .pick (.tmp 45) (.const (.bool true)) (.tmp 51), none⟩])
  (.cond (.tmp 52)
  (.seq (.ops [⟨(some 2), .mov (.const (.bool false)), none⟩])
  .ret)
  .skip))))))
  (.ops [⟨(some 53), .bin .add (.tmp 13) (.const (.int .i64 1)) (some (.int .i64)), none⟩,
    ⟨(some 13), .mov (.tmp 53), none⟩])))))))
  (.seq (.ops [⟨(some 2), .mov (.const (.bool true)), none⟩])
  .ret))))⟩
theorem F6_ok : compF Try.prog 6 = some F6 := by kernel_rfl

/-- colonnade/colonnadelaw06.PressReturns -/
def F7 : FC := ⟨89, [.tmp 4],
  (.seq (.ops [⟨(some 4), .mov (.const (.bool false)), none⟩])
  (.seq (.seq (.ops [⟨(some 13), .call 11 [], none⟩,
    ⟨(some 14), .un .not (.tmp 13), none⟩])
  (.cond (.tmp 14)
  (.seq (.ops [⟨(some 4), .mov (.const (.bool false)), none⟩])
  .ret)
  .skip))
  (.seq (.seq (.ops [⟨(some 15), .mov (.tmp 0), none⟩,
    ⟨(some 16), .len 1 (.tmp 15), none⟩,
    ⟨(some 17), .bin .gtr (.tmp 16) (.const (.int .i64 65536)) (some (.int .i64)), none⟩,
    ⟨(some 18), .mov (.tmp 17), none⟩,
    ⟨(some 19), .mov (.tmp 1), (some (18, false))⟩,
    ⟨(some 20), .bin .lss (.tmp 19) (.const (.int .i64 0)) (some (.int .i64)), (some (18, false))⟩,
    ⟨(some 21), .pick (.tmp 18) (.const (.bool true)) (.tmp 20), none⟩,
    ⟨(some 22), .mov (.tmp 21), none⟩,
    ⟨(some 23), .mov (.tmp 1), (some (22, false))⟩,
    ⟨(some 24), .bin .gtr (.tmp 23) (.const (.int .i64 2)) (some (.int .i64)), (some (22, false))⟩,
    ⟨(some 25), .pick (.tmp 22) (.const (.bool true)) (.tmp 24), none⟩])
  (.cond (.tmp 25)
  (.seq (.ops [⟨(some 27), .mov (.tmp 1), none⟩,
    ⟨(some 28), .mov (.tmp 0), none⟩,
    ⟨(some 29), .call 17 [(.tmp 27), (.tmp 28)], none⟩,
    ⟨(some 26), .mov (.tmp 29), none⟩,
    ⟨(some 30), .extract (.tmp 26) 0, none⟩,
    ⟨(some 31), .extract (.tmp 26) 1, none⟩,
    ⟨(some 5), .mov (.tmp 30), none⟩,
    ⟨(some 6), .mov (.tmp 31), none⟩])
  (.seq (.ops [⟨(some 32), .mov (.tmp 6), none⟩,
    ⟨(some 33), .bin .neq (.tmp 32) (.const (.int .i64 0)) (some (.int .i64)), none⟩,
    ⟨(some 4), .mov (.tmp 33), none⟩])
  .ret))
  .skip))
  (.seq (.ops [⟨(some 35), .mov (.tmp 1), none⟩,
    ⟨(some 36), .mov (.tmp 0), none⟩,
    ⟨(some 37), .call 17 [(.tmp 35), (.tmp 36)], none⟩,
    ⟨(some 34), .mov (.tmp 37), none⟩,
    ⟨(some 38), .extract (.tmp 34) 0, none⟩,
    ⟨(some 39), .extract (.tmp 34) 1, none⟩,
    ⟨(some 7), .mov (.tmp 38), none⟩,
    ⟨(some 8), .mov (.tmp 39), none⟩])
  (.seq (.ops [⟨(some 41), .mov (.tmp 1), none⟩,
    ⟨(some 42), .mov (.tmp 7), none⟩,
    ⟨(some 43), .mov (.tmp 0), none⟩,
    ⟨(some 44), .len 1 (.tmp 43), none⟩,
    ⟨(some 45), .call 14 [(.tmp 41), (.tmp 42), (.tmp 44)], none⟩,
    ⟨(some 40), .mov (.tmp 45), none⟩,
    ⟨(some 46), .extract (.tmp 40) 0, none⟩,
    ⟨(some 47), .extract (.tmp 40) 1, none⟩,
    ⟨(some 9), .mov (.tmp 46), none⟩,
    ⟨(some 10), .mov (.tmp 47), none⟩])
  (.seq (.ops [⟨(some 49), .mov (.tmp 1), none⟩,
    ⟨(some 50), .mov (.tmp 7), none⟩,
    ⟨(some 51), .call 16 [(.tmp 49), (.tmp 50)], none⟩,
    ⟨(some 48), .mov (.tmp 51), none⟩,
    ⟨(some 52), .extract (.tmp 48) 0, none⟩,
    ⟨(some 53), .extract (.tmp 48) 1, none⟩,
    ⟨(some 11), .mov (.tmp 52), none⟩,
    ⟨(some 12), .mov (.tmp 53), none⟩])
  (.seq (.ops [⟨(some 54), .mov (.tmp 8), none⟩,
    ⟨(some 55), .bin .eql (.tmp 54) (.const (.int .i64 0)) (some (.int .i64)), none⟩,
    ⟨(some 56), .mov (.tmp 55), none⟩,
    ⟨(some 57), .mov (.tmp 10), (some (56, true))⟩,
    ⟨(some 58), .bin .eql (.tmp 57) (.const (.int .i64 0)) (some (.int .i64)), (some (56, true))⟩,
    ⟨(some 59), .pick (.tmp 56) (.tmp 58) (.const (.bool false)), none⟩,
    ⟨(some 60), .mov (.tmp 59), none⟩,
    ⟨(some 61), .mov (.tmp 12), (some (60, true))⟩,
    ⟨(some 62), .bin .eql (.tmp 61) (.const (.int .i64 0)) (some (.int .i64)), (some (60, true))⟩,
    ⟨(some 63), .pick (.tmp 60) (.tmp 62) (.const (.bool false)), none⟩,
    ⟨(some 64), .mov (.tmp 63), none⟩,
    ⟨(some 65), .mov (.tmp 11), (some (64, true))⟩,
    ⟨(some 66), .mov (.tmp 0), (some (64, true))⟩,
    ⟨(some 67), .len 1 (.tmp 66), (some (64, true))⟩,
    ⟨(some 68), .bin .eql (.tmp 65) (.tmp 67) (some (.int .i64)), (some (64, true))⟩,
    ⟨(some 69), .pick (.tmp 64) (.tmp 68) (.const (.bool false)), none⟩,
    ⟨(some 70), .mov (.tmp 69), none⟩,
    ⟨(some 71), .mov (.tmp 9), (some (70, true))⟩,
    ⟨(some 72), .b2s (.tmp 71), (some (70, true))⟩,
    ⟨(some 73), .mov (.tmp 0), (some (70, true))⟩,
    ⟨(some 74), .b2s (.tmp 73), (some (70, true))⟩,
    ⟨(some 75), .bin .eql (.tmp 72) (.tmp 74) (some .string), (some (70, true))⟩,
    ⟨(some 76), .pick (.tmp 70) (.tmp 75) (.const (.bool false)), none⟩,
    ⟨(some 77), .mov (.tmp 76), none⟩,
    ⟨(some 78), .mov (.tmp 7), (some (77, true))⟩,
    ⟨(some 79), .len 1 (.tmp 78), (some (77, true))⟩,
    ⟨(some 80), .mov (.tmp 0), (some (77, true))⟩,
    ⟨(some 81), .len 1 (.tmp 80), (some (77, true))⟩,
    ⟨(some 82), .mov (.tmp 0), (some (77, true))⟩,
    ⟨(some 83), .len 1 (.tmp 82), (some (77, true))⟩,
    ⟨(some 84), .bin .add (.tmp 83) (.const (.int .i64 127)) (some (.int .i64)), (some (77, true))⟩,
    ⟨(some 85), .bin .quo (.tmp 84) (.const (.int .i64 128)) (some (.int .i64)), (some (77, true))⟩,
    ⟨(some 86), .bin .add (.tmp 81) (.tmp 85) (some (.int .i64)), (some (77, true))⟩,
    ⟨(some 87), .bin .leq (.tmp 79) (.tmp 86) (some (.int .i64)), (some (77, true))⟩,
    ⟨(some 88), .pick (.tmp 77) (.tmp 87) (.const (.bool false)), none⟩,
    ⟨(some 4), .mov (.tmp 88), none⟩])
  .ret)))))))⟩
theorem F7_ok : compF Try.prog 7 = some F7 := by kernel_rfl

/-- colonnade/colonnadelaw06.PressAgrees -/
def F8 : FC := ⟨105, [.tmp 2],
  (.seq (.ops [⟨(some 1), .box (.tmp 0), none⟩,
    ⟨(some 2), .mov (.const (.bool false)), none⟩])
  (.seq (.seq (.ops [⟨(some 13), .call 11 [], none⟩,
    ⟨(some 14), .un .not (.tmp 13), none⟩])
  (.cond (.tmp 14)
  (.seq (.ops [⟨(some 2), .mov (.const (.bool false)), none⟩])
  .ret)
  .skip))
  (.seq (.ops [⟨(some 16), .fieldAddr 0 (.tmp 1), none⟩,
    ⟨(some 17), .load false 1 (.tmp 16), none⟩,
    ⟨(some 18), .fieldAddr 1 (.tmp 1), none⟩,
    ⟨(some 19), .load false 1 (.tmp 18), none⟩,
    ⟨(some 20), .call 16 [(.tmp 17), (.tmp 19)], none⟩,
    ⟨(some 15), .mov (.tmp 20), none⟩,
    ⟨(some 21), .extract (.tmp 15) 0, none⟩,
    ⟨(some 22), .extract (.tmp 15) 1, none⟩,
    ⟨(some 3), .mov (.tmp 21), none⟩,
    ⟨(some 4), .mov (.tmp 22), none⟩])
  (.seq (.ops [⟨(some 24), .fieldAddr 0 (.tmp 1), none⟩,
    ⟨(some 25), .load false 1 (.tmp 24), none⟩,
    ⟨(some 26), .fieldAddr 1 (.tmp 1), none⟩,
    ⟨(some 27), .load false 1 (.tmp 26), none⟩,
    ⟨(some 28), .fieldAddr 2 (.tmp 1), none⟩,
    ⟨(some 29), .load false 1 (.tmp 28), none⟩,
    ⟨(some 30), .call 14 [(.tmp 25), (.tmp 27), (.tmp 29)], none⟩,
    ⟨(some 23), .mov (.tmp 30), none⟩,
    ⟨(some 31), .extract (.tmp 23) 0, none⟩,
    ⟨(some 32), .extract (.tmp 23) 1, none⟩,
    ⟨(some 5), .mov (.tmp 31), none⟩,
    ⟨(some 6), .mov (.tmp 32), none⟩])
  (.seq (.seq (.ops [⟨(some 33), .mov (.tmp 4), none⟩,
    ⟨(some 34), .bin .eql (.tmp 33) (.const (.int .i64 0)) (some (.int .i64)), none⟩,
    ⟨(some 35), .mov (.tmp 34), none⟩,
    ⟨(some 36), .fieldAddr 2 (.tmp 1), (some (35, true))⟩,
    ⟨(some 37), .load false 1 (.tmp 36), (some (35, true))⟩,
    ⟨(some 38), .mov (.tmp 3), (some (35, true))⟩,
    ⟨(some 39), .bin .eql (.tmp 37) (.tmp 38) (some (.int .i64)), (some (35, true))⟩,
    ⟨(some 40), .pick (.tmp 35) (.tmp 39) (.const (.bool false)), none⟩])
  (.cond (.tmp 40)
  (.seq (.ops [⟨(some 42), .fieldAddr 0 (.tmp 1), none⟩,
    ⟨(some 43), .load false 1 (.tmp 42), none⟩,
    ⟨(some 44), .mov (.tmp 5), none⟩,
    ⟨(some 45), .call 17 [(.tmp 43), (.tmp 44)], none⟩,
    ⟨(some 41), .mov (.tmp 45), none⟩,
    ⟨(some 46), .extract (.tmp 41) 0, none⟩,
    ⟨(some 47), .extract (.tmp 41) 1, none⟩,
    ⟨(some 7), .mov (.tmp 46), none⟩,
    ⟨(some 8), .mov (.tmp 47), none⟩])
  (.seq (.ops [⟨(some 49), .fieldAddr 0 (.tmp 1), none⟩,
    ⟨(some 50), .load false 1 (.tmp 49), none⟩,
    ⟨(some 51), .mov (.tmp 7), none⟩,
    ⟨(some 52), .mov (.tmp 3), none⟩,
    ⟨(some 53), .call 14 [(.tmp 50), (.tmp 51), (.tmp 52)], none⟩,
    ⟨(some 48), .mov (.tmp 53), none⟩,
    ⟨(some 54), .extract (.tmp 48) 0, none⟩,
    ⟨(some 55), .extract (.tmp 48) 1, none⟩,
    ⟨(some 9), .mov (.tmp 54), none⟩,
    ⟨(some 10), .mov (.tmp 55), none⟩])
  (.seq (.ops [⟨(some 56), .mov (.tmp 6), none⟩,
    ⟨(some 57), .bin .eql (.tmp 56) (.const (.int .i64 0)) (some (.int .i64)), none⟩,
    ⟨(some 58), .mov (.tmp 57), none⟩,
    ⟨(some 59), .mov (.tmp 5), (some (58, true))⟩,
    ⟨(some 60), .len 1 (.tmp 59), (some (58, true))⟩,
    ⟨(some 61), .mov (.tmp 3), (some (58, true))⟩,
    ⟨(some 62), .bin .eql (.tmp 60) (.tmp 61) (some (.int .i64)), (some (58, true))⟩,
    ⟨(some 63), .pick (.tmp 58) (.tmp 62) (.const (.bool false)), none⟩,
    ⟨(some 64), .mov (.tmp 63), none⟩,
    ⟨(some 65), .mov (.tmp 8), (some (64, true))⟩,
    ⟨(some 66), .bin .eql (.tmp 65) (.const (.int .i64 0)) (some (.int .i64)), (some (64, true))⟩,
    ⟨(some 67), .pick (.tmp 64) (.tmp 66) (.const (.bool false)), none⟩,
    ⟨(some 68), .mov (.tmp 67), none⟩,
    ⟨(some 69), .mov (.tmp 10), (some (68, true))⟩,
    ⟨(some 70), .bin .eql (.tmp 69) (.const (.int .i64 0)) (some (.int .i64)), (some (68, true))⟩,
    ⟨(some 71), .pick (.tmp 68) (.tmp 70) (.const (.bool false)), none⟩,
    ⟨(some 72), .mov (.tmp 71), none⟩,
    ⟨(some 73), .mov (.tmp 5), (some (72, true))⟩,
    ⟨(some 74), .b2s (.tmp 73), (some (72, true))⟩,
    ⟨(some 75), .mov (.tmp 9), (some (72, true))⟩,
    ⟨(some 76), .b2s (.tmp 75), (some (72, true))⟩,
    ⟨(some 77), .bin .eql (.tmp 74) (.tmp 76) (some .string), (some (72, true))⟩,
    ⟨(some 78), .pick (.tmp 72) (.tmp 77) (.const (.bool false)), none⟩,
    ⟨(some 2), .mov (.tmp 78), none⟩])
  .ret)))
  .skip))
  (.seq (.seq (.ops [⟨(some 79), .mov (.tmp 6), none⟩,
    ⟨(some 80), .bin .eql (.tmp 79) (.const (.int .i64 0)) (some (.int .i64)), none⟩,
    ⟨(some 81), .mov (.tmp 80), none⟩,
    ⟨(some 82), .mov (.tmp 5), (some (81, false))⟩,
    ⟨(some 83), .len 1 (.tmp 82), (some (81, false))⟩,
    ⟨(some 84), .bin .neq (.tmp 83) (.const (.int .i64 0)) (some (.int .i64)), (some (81, false))⟩,
    ⟨(some 85), .pick (.tmp 81) (.const (.bool true)) (.tmp 84), none⟩])
  (.cond (.tmp 85)
  (.seq (.ops [⟨(some 2), .mov (.const (.bool false)), none⟩])
  .ret)
  .skip))
  (.seq (.seq (.ops [⟨(some 86), .mov (.tmp 4), none⟩,
    ⟨(some 87), .bin .eql (.tmp 86) (.const (.int .i64 0)) (some (.int .i64)), none⟩])
  (.cond (.tmp 87)
  (.seq (.ops [⟨(some 89), .fieldAddr 0 (.tmp 1), none⟩,
    ⟨(some 90), .load false 1 (.tmp 89), none⟩,
    ⟨(some 91), .fieldAddr 1 (.tmp 1), none⟩,
    ⟨(some 92), .load false 1 (.tmp 91), none⟩,
    ⟨(some 93), .mov (.tmp 3), none⟩,
    ⟨(some 94), .call 14 [(.tmp 90), (.tmp 92), (.tmp 93)], none⟩,
    ⟨(some 88), .mov (.tmp 94), none⟩,
    ⟨(some 95), .extract (.tmp 88) 0, none⟩,
    ⟨(some 96), .extract (.tmp 88) 1, none⟩,
    ⟨(some 11), .mov (.tmp 95), none⟩,
    ⟨(some 12), .mov (.tmp 96), none⟩])
  (.seq (.ops [⟨(some 97), .mov (.tmp 12), none⟩,
    ⟨(some 98), .bin .eql (.tmp 97) (.const (.int .i64 0)) (some (.int .i64)), none⟩,
    ⟨(some 99), .mov (.tmp 98), none⟩,
    ⟨(some 100), .mov (.tmp 11), (some (99, true))⟩,
    ⟨(some 101), .len 1 (.tmp 100), (some (99, true))⟩,
    ⟨(some 102), .mov (.tmp 3), (some (99, true))⟩,
    ⟨(some 103), .bin .eql (.tmp 101) (.tmp 102) (some (.int .i64)), (some (99, true))⟩,
    ⟨(some 104), .pick (.tmp 99) (.tmp 103) (.const (.bool false)), none⟩,
    ⟨(some 2), .mov (.tmp 104), none⟩])
  .ret))
  .skip))
  (.seq (.ops [⟨(some 2), .mov (.const (.bool true)), none⟩])
  .ret))))))))⟩
theorem F8_ok : compF Try.prog 8 = some F8 := by kernel_rfl

/-- colonnade/colonnadelaw06.PressCuts -/
def F9 : FC := ⟨61, [.tmp 6],
  (.seq (.ops [⟨(some 6), .mov (.const (.bool false)), none⟩])
  (.seq (.seq (.ops [⟨(some 11), .call 11 [], none⟩,
    ⟨(some 12), .un .not (.tmp 11), none⟩])
  (.cond (.tmp 12)
  (.seq (.ops [⟨(some 6), .mov (.const (.bool false)), none⟩])
  .ret)
  .skip))
  (.seq (.seq (.ops [⟨(some 13), .mov (.tmp 0), none⟩,
    ⟨(some 14), .len 1 (.tmp 13), none⟩,
    ⟨(some 15), .bin .gtr (.tmp 14) (.const (.int .i64 65536)) (some (.int .i64)), none⟩,
    ⟨(some 16), .mov (.tmp 15), none⟩,
    ⟨(some 17), .mov (.tmp 1), (some (16, false))⟩,
    ⟨(some 18), .bin .lss (.tmp 17) (.const (.int .i64 1)) (some (.int .i64)), (some (16, false))⟩,
    ⟨(some 19), .pick (.tmp 16) (.const (.bool true)) (.tmp 18), none⟩,
    ⟨(some 20), .mov (.tmp 19), none⟩,
    ⟨(some 21), .mov (.tmp 1), (some (20, false))⟩,
    ⟨(some 22), .bin .gtr (.tmp 21) (.const (.int .i64 2)) (some (.int .i64)), (some (20, false))⟩,
    ⟨(some 23), .pick (.tmp 20) (.const (.bool true)) (.tmp 22), none⟩])
  (.cond (.tmp 23)
  (.seq (.ops [⟨(some 6), .mov (.const (.bool true)), none⟩])
  .ret)
  .skip))
  (.seq (.ops [⟨(some 25), .mov (.tmp 1), none⟩,
    ⟨(some 26), .mov (.tmp 0), none⟩,
    ⟨(some 27), .call 17 [(.tmp 25), (.tmp 26)], none⟩,
    ⟨(some 24), .mov (.tmp 27), none⟩,
    ⟨(some 28), .extract (.tmp 24) 0, none⟩,
    ⟨(some 29), .extract (.tmp 24) 1, none⟩,
    ⟨(some 7), .mov (.tmp 28), none⟩,
    ⟨(some 8), .mov (.tmp 29), none⟩])
  (.seq (.seq (.ops [⟨(some 30), .mov (.tmp 8), none⟩,
    ⟨(some 31), .bin .neq (.tmp 30) (.const (.int .i64 0)) (some (.int .i64)), none⟩,
    ⟨(some 32), .mov (.tmp 31), none⟩,
    ⟨(some 33), .mov (.tmp 2), (some (32, false))⟩,
    ⟨(some 34), .bin .lss (.tmp 33) (.const (.int .i64 0)) (some (.int .i64)), (some (32, false))⟩,
    ⟨(some 35), .pick (.tmp 32) (.const (.bool true)) (.tmp 34), none⟩,
    ⟨(some 36), .mov (.tmp 35), none⟩,
    ⟨(some 37), .mov (.tmp 2), (some (36, false))⟩,
    ⟨(some 38), .mov (.tmp 7), (some (36, false))⟩,
    ⟨(some 39), .len 1 (.tmp 38), (some (36, false))⟩,
    ⟨(some 40), .bin .geq (.tmp 37) (.tmp 39) (some (.int .i64)), (some (36, false))⟩,
    ⟨(some 41), .pick (.tmp 36) (.const (.bool true)) (.tmp 40), none⟩])
  (.cond (.tmp 41)
  (.seq (.ops [⟨(some 42), .mov (.tmp 8), none⟩,
    ⟨(some 43), .bin .eql (.tmp 42) (.const (.int .i64 0)) (some (.int .i64)), none⟩,
    ⟨(some 6), .mov (.tmp 43), none⟩])
  .ret)
  .skip))
  (.seq (.ops [⟨(some 45), .mov (.tmp 1), none⟩,
    ⟨(some 46), .mov (.tmp 7), none⟩,
    ⟨(some 47), .mov (.tmp 2), none⟩,
    ⟨(some 48), .slice 1 (.tmp 46) none (some (.tmp 47)) none, none⟩,
    ⟨(some 49), .mov (.tmp 0), none⟩,
    ⟨(some 50), .len 1 (.tmp 49), none⟩,
    ⟨(some 51), .call 14 [(.tmp 45), (.tmp 48), (.tmp 50)], none⟩,
    ⟨(some 44), .mov (.tmp 51), none⟩,
    ⟨(some 52), .extract (.tmp 44) 0, none⟩,
    ⟨(some 53), .extract (.tmp 44) 1, none⟩,
    ⟨(some 9), .mov (.tmp 52), none⟩,
    ⟨(some 10), .mov (.tmp 53), none⟩])
  (.seq (.ops [⟨(some 54), .mov (.tmp 10), none⟩,
    ⟨(some 55), .bin .neq (.tmp 54) (.const (.int .i64 0)) (some (.int .i64)), none⟩,
    ⟨(some 56), .mov (.tmp 55), none⟩,
    ⟨(some 57), .mov (.tmp 9), (some (56, true))⟩,
    ⟨(some 58), .len 1 (.tmp 57), (some (56, true))⟩,
    ⟨(some 59), .bin .eql (.tmp 58) (.const (.int .i64 0)) (some (.int .i64)), (some (56, true))⟩,
    ⟨(some 60), .pick (.tmp 56) (.tmp 59) (.const (.bool false)), none⟩,
    ⟨(some 6), .mov (.tmp 60), none⟩])
  .ret)))))))⟩
theorem F9_ok : compF Try.prog 9 = some F9 := by kernel_rfl

/-- colonnade/colonnadelaw06.PressKeeps -/
def F10 : FC := ⟨263, [.tmp 4],
  (.seq (.ops [⟨(some 2), .box (.tmp 0), none⟩,
    ⟨(some 4), .mov (.const (.bool false)), none⟩])
  (.seq (.seq (.ops [⟨(some 32), .call 11 [], none⟩,
    ⟨(some 33), .un .not (.tmp 32), none⟩])
  (.cond (.tmp 33)
  (.seq (.ops [⟨(some 4), .mov (.const (.bool false)), none⟩])
  .ret)
  .skip))
  (.seq (.ops [⟨(some 34), .buildSlice 1 0 [] [], none⟩,
    ⟨(some 35), .fieldAddr 1 (.tmp 2), none⟩,
    ⟨(some 36), .load false 1 (.tmp 35), none⟩,
    ⟨(some 37), .append 1 1 (.tmp 34) (.tmp 36), none⟩,
    ⟨(some 38), .buildSlice 1 9 [(.int .u8 0), (.int .u8 0), (.int .u8 0), (.int .u8 0), (.int .u8 0), (.int .u8 0), (.int .u8 0), (.int .u8 0), (.int .u8 0)] [(0, 1, (.const (.int .u8 1))), (1, 1, (.const (.int .u8 2))), (2, 1, (.const (.int .u8 3))), (3, 1, (.const (.int .u8 4))), (4, 1, (.const (.int .u8 5))), (5, 1, (.const (.int .u8 6))), (6, 1, (.const (.int .u8 7))), (7, 1, (.const (.int .u8 8))), (8, 1, (.const (.int .u8 9)))], none⟩,
    ⟨(some 39), .append 1 1 (.tmp 37) (.tmp 38), none⟩,
    ⟨(some 5), .mov (.tmp 39), none⟩])
  (.seq (.ops [⟨(some 40), .mov (.tmp 5), none⟩,
    ⟨(some 41), .b2s (.tmp 40), none⟩,
    ⟨(some 6), .mov (.tmp 41), none⟩])
  (.seq (.ops [⟨(some 42), .mov (.tmp 5), none⟩,
    ⟨(some 43), .fieldAddr 1 (.tmp 2), none⟩,
    ⟨(some 44), .load false 1 (.tmp 43), none⟩,
    ⟨(some 45), .len 1 (.tmp 44), none⟩,
    ⟨(some 46), .slice 1 (.tmp 42) none (some (.tmp 45)) none, none⟩,
    ⟨(some 7), .mov (.tmp 46), none⟩])
  (.seq (.ops [⟨(some 48), .fieldAddr 0 (.tmp 2), none⟩,
    ⟨(some 49), .load false 1 (.tmp 48), none⟩,
    ⟨(some 50), .mov (.tmp 7), none⟩,
    ⟨(some 51), .call 18 [(.tmp 49), (.tmp 50)], none⟩,
    ⟨(some 47), .mov (.tmp 51), none⟩,
    ⟨(some 52), .extract (.tmp 47) 0, none⟩,
    ⟨(some 53), .extract (.tmp 47) 1, none⟩,
    ⟨(some 8), .mov (.tmp 52), none⟩,
    ⟨(some 9), .mov (.tmp 53), none⟩])
  (.seq (.ops [⟨(some 55), .fieldAddr 0 (.tmp 2), none⟩,
    ⟨(some 56), .load false 1 (.tmp 55), none⟩,
    ⟨(some 57), .mov (.tmp 7), none⟩,
    ⟨(some 58), .call 17 [(.tmp 56), (.tmp 57)], none⟩,
    ⟨(some 54), .mov (.tmp 58), none⟩,
    ⟨(some 59), .extract (.tmp 54) 0, none⟩,
    ⟨(some 60), .extract (.tmp 54) 1, none⟩,
    ⟨(some 10), .mov (.tmp 59), none⟩,
    ⟨(some 11), .mov (.tmp 60), none⟩])
  (.seq (.ops [⟨(some 62), .fieldAddr 0 (.tmp 2), none⟩,
    ⟨(some 63), .load false 1 (.tmp 62), none⟩,
    ⟨(some 64), .mov (.tmp 7), none⟩,
    ⟨(some 65), .call 17 [(.tmp 63), (.tmp 64)], none⟩,
    ⟨(some 61), .mov (.tmp 65), none⟩,
    ⟨(some 66), .extract (.tmp 61) 0, none⟩,
    ⟨(some 67), .extract (.tmp 61) 1, none⟩,
    ⟨(some 12), .mov (.tmp 66), none⟩,
    ⟨(some 13), .mov (.tmp 67), none⟩])
  (.seq (.seq (.ops [⟨(some 68), .mov (.tmp 12), none⟩,
    ⟨(some 69), .b2s (.tmp 68), none⟩,
    ⟨(some 70), .mov (.tmp 8), none⟩,
    ⟨(some 71), .b2s (.tmp 70), none⟩,
    ⟨(some 72), .bin .neq (.tmp 69) (.tmp 71) (some .string), none⟩,
    ⟨(some 73), .mov (.tmp 72), none⟩,
    ⟨(some 74), .mov (.tmp 10), (some (73, false))⟩,
    ⟨(some 75), .b2s (.tmp 74), (some (73, false))⟩,
    ⟨(some 76), .mov (.tmp 8), (some (73, false))⟩,
    ⟨(some 77), .b2s (.tmp 76), (some (73, false))⟩,
    ⟨(some 78), .bin .neq (.tmp 75) (.tmp 77) (some .string), (some (73, false))⟩,
    ⟨(some 79), .pick (.tmp 73) (.const (.bool true)) (.tmp 78), none⟩,
    ⟨(some 80), .mov (.tmp 79), none⟩,
    ⟨(some 81), .mov (.tmp 11), (some (80, false))⟩,
    ⟨(some 82), .mov (.tmp 9), (some (80, false))⟩,
    ⟨(some 83), .bin .neq (.tmp 81) (.tmp 82) (some (.int .i64)), (some (80, false))⟩,
    ⟨(some 84), .pick (.tmp 80) (.const (.bool true)) (.tmp 83), none⟩,
    ⟨(some 85), .mov (.tmp 84), none⟩,
    ⟨(some 86), .mov (.tmp 5), (some (85, false))⟩,
    ⟨(some 87), .b2s (.tmp 86), (some (85, false))⟩,
    ⟨(some 88), .mov (.tmp 6), (some (85, false))⟩,
    ⟨(some 89), .bin .neq (.tmp 87) (.tmp 88) (some .string), (some (85, false))⟩,
    ⟨(some 90), .pick (.tmp 85) (.const (.bool true)) (.tmp 89), none⟩])
  (.cond (.tmp 90)
  (.seq (.ops [⟨(some 4), .mov (.const (.bool false)), none⟩])
  .ret)
  .skip))
  (.seq (.ops [⟨(some 92), .fieldAddr 0 (.tmp 2), none⟩,
    ⟨(some 93), .load false 1 (.tmp 92), none⟩,
    ⟨(some 94), .mov (.tmp 1), none⟩,
    ⟨(some 95), .call 17 [(.tmp 93), (.tmp 94)], none⟩,
    ⟨(some 91), .mov (.tmp 95), none⟩,
    ⟨(some 96), .extract (.tmp 91) 0, none⟩,
    ⟨(some 97), .extract (.tmp 91) 1, none⟩,
    ⟨(some 14), .mov (.tmp 96), none⟩,
    ⟨(some 15), .mov (.tmp 97), none⟩])
  (.seq (.ops [⟨(some 99), .fieldAddr 0 (.tmp 2), none⟩,
    ⟨(some 100), .load false 1 (.tmp 99), none⟩,
    ⟨(some 101), .mov (.tmp 1), none⟩,
    ⟨(some 102), .call 18 [(.tmp 100), (.tmp 101)], none⟩,
    ⟨(some 98), .mov (.tmp 102), none⟩,
    ⟨(some 103), .extract (.tmp 98) 0, none⟩,
    ⟨(some 104), .extract (.tmp 98) 1, none⟩,
    ⟨(some 16), .mov (.tmp 103), none⟩,
    ⟨(some 17), .mov (.tmp 104), none⟩])
  (.seq (.seq (.ops [⟨(some 105), .mov (.tmp 10), none⟩,
    ⟨(some 106), .len 1 (.tmp 105), none⟩,
    ⟨(some 107), .mov (.const (.int .i64 0)), none⟩])
  (.block 0 (.loop (.seq (.ops [⟨(some 108), .bin .lss (.tmp 107) (.tmp 106) (some (.int .i64)), none⟩])
  (.seq (.cond (.tmp 108)
  .skip
  (.exit 0))
  (.seq (.block 1 (.seq (.ops [⟨(some 109), .mov (.tmp 107), none⟩,
    ⟨(some 18), .mov (.tmp 109), none⟩])
  (.ops [⟨(some 110), .mov (.tmp 10), none⟩,
    ⟨(some 111), .mov (.tmp 18), none⟩,
    ⟨(some 112), .indexAddr 1 (.tmp 110) (.tmp 111), none⟩,
    ⟨(some 113), .load false 1 (.tmp 112), none⟩,
    ⟨(some 114), .bin .xor (.tmp 113) (.const (.int .u8 85)) (some (.int .u8)), none⟩,
    ⟨(some 115), .indexAddr 1 (.tmp 110) (.tmp 111), none⟩,
    ⟨none, .store 1 (.tmp 115) (.tmp 114), none⟩])))
  (.ops [⟨(some 116), .bin .add (.tmp 107) (.const (.int .i64 1)) (some (.int .i64)), none⟩,
    ⟨(some 107), .mov (.tmp 116), none⟩])))))))
  (.seq (.ops [⟨(some 117), .mov (.tmp 10), none⟩,
    ⟨(some 19), .mov (.tmp 117), none⟩])
  (.seq (.seq (.ops [⟨(some 20), .mov (.const (.int .i64 0)), none⟩])
  (.block 2 (.loop (.seq (.seq (.ops [⟨(some 118), .mov (.tmp 20), none⟩,
    ⟨(some 119), .bin .lss (.tmp 118) (.const (.int .i64 300)) (some (.int .i64)), none⟩])
  (.cond (.tmp 119)
  .skip
  (.exit 2)))
  (.seq (.block 3 (.ops [⟨(some 122), .mov (.tmp 19), none⟩,
    ⟨(some 123), .buildSlice 1 1 [(.int .u8 0)] [(0, 1, (.const (.int .u8 238)))], none⟩,
    ⟨(some 124), .append 1 1 (.tmp 122) (.tmp 123), none⟩,
    ⟨(some 19), .mov (.tmp 124), none⟩]))
  (.ops [⟨(some 120), .mov (.tmp 20), none⟩,
    ⟨(some 121), .bin .add (.tmp 120) (.const (.int .i64 1)) (some (.int .i64)), none⟩,
    ⟨(some 20), .mov (.tmp 121), none⟩]))))))
  (.seq (.seq (.ops [⟨(some 125), .mov (.tmp 12), none⟩,
    ⟨(some 126), .b2s (.tmp 125), none⟩,
    ⟨(some 127), .mov (.tmp 8), none⟩,
    ⟨(some 128), .b2s (.tmp 127), none⟩,
    ⟨(some 129), .bin .neq (.tmp 126) (.tmp 128) (some .string), none⟩,
    ⟨(some 130), .mov (.tmp 129), none⟩,
    ⟨(some 131), .mov (.tmp 14), (some (130, false))⟩,
    ⟨(some 132), .b2s (.tmp 131), (some (130, false))⟩,
    ⟨(some 133), .mov (.tmp 16), (some (130, false))⟩,
    ⟨(some 134), .b2s (.tmp 133), (some (130, false))⟩,
    ⟨(some 135), .bin .neq (.tmp 132) (.tmp 134) (some .string), (some (130, false))⟩,
    ⟨(some 136), .pick (.tmp 130) (.const (.bool true)) (.tmp 135), none⟩,
    ⟨(some 137), .mov (.tmp 136), none⟩,
    ⟨(some 138), .mov (.tmp 5), (some (137, false))⟩,
    ⟨(some 139), .b2s (.tmp 138), (some (137, false))⟩,
    ⟨(some 140), .mov (.tmp 6), (some (137, false))⟩,
    ⟨(some 141), .bin .neq (.tmp 139) (.tmp 140) (some .string), (some (137, false))⟩,
    ⟨(some 142), .pick (.tmp 137) (.const (.bool true)) (.tmp 141), none⟩])
  (.cond (.tmp 142)
  (.seq (.ops [⟨(some 4), .mov (.const (.bool false)), none⟩])
  .ret)
  .skip))
  (.seq (.seq (.ops [⟨(some 143), .mov (.tmp 9), none⟩,
    ⟨(some 144), .bin .neq (.tmp 143) (.const (.int .i64 0)) (some (.int .i64)), none⟩])
  (.cond (.tmp 144)
  (.seq (.ops [⟨(some 4), .mov (.const (.bool true)), none⟩])
  .ret)
  .skip))
  (.seq (.ops [⟨(some 146), .fieldAddr 0 (.tmp 2), none⟩,
    ⟨(some 147), .load false 1 (.tmp 146), none⟩,
    ⟨(some 148), .mov (.tmp 12), none⟩,
    ⟨(some 149), .mov (.tmp 7), none⟩,
    ⟨(some 150), .len 1 (.tmp 149), none⟩,
    ⟨(some 151), .call 14 [(.tmp 147), (.tmp 148), (.tmp 150)], none⟩,
    ⟨(some 145), .mov (.tmp 151), none⟩,
    ⟨(some 152), .extract (.tmp 145) 0, none⟩,
    ⟨(some 153), .extract (.tmp 145) 1, none⟩,
    ⟨(some 21), .mov (.tmp 152), none⟩,
    ⟨(some 22), .mov (.tmp 153), none⟩])
  (.seq (.ops [⟨(some 155), .fieldAddr 0 (.tmp 2), none⟩,
    ⟨(some 156), .load false 1 (.tmp 155), none⟩,
    ⟨(some 157), .mov (.tmp 12), none⟩,
    ⟨(some 158), .mov (.tmp 7), none⟩,
    ⟨(some 159), .len 1 (.tmp 158), none⟩,
    ⟨(some 160), .call 14 [(.tmp 156), (.tmp 157), (.tmp 159)], none⟩,
    ⟨(some 154), .mov (.tmp 160), none⟩,
    ⟨(some 161), .extract (.tmp 154) 0, none⟩,
    ⟨(some 162), .extract (.tmp 154) 1, none⟩,
    ⟨(some 23), .mov (.tmp 161), none⟩,
    ⟨(some 24), .mov (.tmp 162), none⟩])
  (.seq (.seq (.ops [⟨(some 163), .mov (.tmp 22), none⟩,
    ⟨(some 164), .bin .neq (.tmp 163) (.const (.int .i64 0)) (some (.int .i64)), none⟩,
    ⟨(some 165), .mov (.tmp 164), none⟩,
    ⟨(some 166), .mov (.tmp 21), (some (165, false))⟩,
    ⟨(some 167), .b2s (.tmp 166), (some (165, false))⟩,
    ⟨(some 168), .mov (.tmp 7), (some (165, false))⟩,
    ⟨(some 169), .b2s (.tmp 168), (some (165, false))⟩,
    ⟨(some 170), .bin .neq (.tmp 167) (.tmp 169) (some .string), (some (165, false))⟩,
    ⟨(some 171), .pick (.tmp 165) (.const (.bool true)) (.tmp 170), none⟩,
    ⟨(some 172), .mov (.tmp 171), none⟩,
    ⟨(some 173), .mov (.tmp 23), (some (172, false))⟩,
    ⟨(some 174), .b2s (.tmp 173), (some (172, false))⟩,
    ⟨(some 175), .mov (.tmp 7), (some (172, false))⟩,
    ⟨(some 176), .b2s (.tmp 175), (some (172, false))⟩,
    ⟨(some 177), .bin .neq (.tmp 174) (.tmp 176) (some .string), (some (172, false))⟩,
    ⟨(some 178), .pick (.tmp 172) (.const (.bool true)) (.tmp 177), none⟩,
    ⟨(some 179), .mov (.tmp 178), none⟩,
    ⟨(some 180), .fieldAddr 0 (.tmp 2), (some (179, false))⟩,
    ⟨(some 181), .load false 1 (.tmp 180), (some (179, false))⟩,
    ⟨(some 182), .mov (.tmp 8), (some (179, false))⟩,
    ⟨(some 183), .b2s (.tmp 182), (some (179, false))⟩,
    ⟨(some 184), .mov (.tmp 7), (some (179, false))⟩,
    ⟨(some 185), .call 19 [(.tmp 181), (.tmp 183), (.tmp 184)], (some (179, false))⟩,
    ⟨(some 186), .un .not (.tmp 185), (some (179, false))⟩,
    ⟨(some 187), .pick (.tmp 179) (.const (.bool true)) (.tmp 186), none⟩])
  (.cond (.tmp 187)
  (.seq (.ops [⟨(some 4), .mov (.const (.bool false)), none⟩])
  .ret)
  .skip))
  (.seq (.seq (.ops [⟨(some 188), .mov (.tmp 21), none⟩,
    ⟨(some 189), .len 1 (.tmp 188), none⟩,
    ⟨(some 190), .mov (.const (.int .i64 0)), none⟩])
  (.block 4 (.loop (.seq (.ops [⟨(some 191), .bin .lss (.tmp 190) (.tmp 189) (some (.int .i64)), none⟩])
  (.seq (.cond (.tmp 191)
  .skip
  (.exit 4))
  (.seq (.block 5 (.seq (.ops [⟨(some 192), .mov (.tmp 190), none⟩,
    ⟨(some 25), .mov (.tmp 192), none⟩])
  (.ops [⟨(some 193), .mov (.tmp 21), none⟩,
    ⟨(some 194), .mov (.tmp 25), none⟩,
    ⟨(some 195), .indexAddr 1 (.tmp 193) (.tmp 194), none⟩,
    ⟨(some 196), .load false 1 (.tmp 195), none⟩,
    ⟨(some 197), .bin .xor (.tmp 196) (.const (.int .u8 85)) (some (.int .u8)), none⟩,
    ⟨(some 198), .indexAddr 1 (.tmp 193) (.tmp 194), none⟩,
    ⟨none, .store 1 (.tmp 198) (.tmp 197), none⟩])))
  (.ops [⟨(some 199), .bin .add (.tmp 190) (.const (.int .i64 1)) (some (.int .i64)), none⟩,
    ⟨(some 190), .mov (.tmp 199), none⟩])))))))
  (.seq (.ops [⟨(some 200), .mov (.tmp 21), none⟩,
    ⟨(some 19), .mov (.tmp 200), none⟩])
  (.seq (.seq (.ops [⟨(some 26), .mov (.const (.int .i64 0)), none⟩])
  (.block 6 (.loop (.seq (.seq (.ops [⟨(some 201), .mov (.tmp 26), none⟩,
    ⟨(some 202), .bin .lss (.tmp 201) (.const (.int .i64 300)) (some (.int .i64)), none⟩])
  (.cond (.tmp 202)
  .skip
  (.exit 6)))
  (.seq (.block 7 (.ops [⟨(some 205), .mov (.tmp 19), none⟩,
    ⟨(some 206), .buildSlice 1 1 [(.int .u8 0)] [(0, 1, (.const (.int .u8 238)))], none⟩,
    ⟨(some 207), .append 1 1 (.tmp 205) (.tmp 206), none⟩,
    ⟨(some 19), .mov (.tmp 207), none⟩]))
  (.ops [⟨(some 203), .mov (.tmp 26), none⟩,
    ⟨(some 204), .bin .add (.tmp 203) (.const (.int .i64 1)) (some (.int .i64)), none⟩,
    ⟨(some 26), .mov (.tmp 204), none⟩]))))))
  (.seq (.seq (.ops [⟨(some 208), .mov (.tmp 23), none⟩,
    ⟨(some 209), .b2s (.tmp 208), none⟩,
    ⟨(some 210), .mov (.tmp 7), none⟩,
    ⟨(some 211), .b2s (.tmp 210), none⟩,
    ⟨(some 212), .bin .neq (.tmp 209) (.tmp 211) (some .string), none⟩,
    ⟨(some 213), .mov (.tmp 212), none⟩,
    ⟨(some 214), .mov (.tmp 12), (some (213, false))⟩,
    ⟨(some 215), .b2s (.tmp 214), (some (213, false))⟩,
    ⟨(some 216), .mov (.tmp 8), (some (213, false))⟩,
    ⟨(some 217), .b2s (.tmp 216), (some (213, false))⟩,
    ⟨(some 218), .bin .neq (.tmp 215) (.tmp 217) (some .string), (some (213, false))⟩,
    ⟨(some 219), .pick (.tmp 213) (.const (.bool true)) (.tmp 218), none⟩,
    ⟨(some 220), .mov (.tmp 219), none⟩,
    ⟨(some 221), .mov (.tmp 5), (some (220, false))⟩,
    ⟨(some 222), .b2s (.tmp 221), (some (220, false))⟩,
    ⟨(some 223), .mov (.tmp 6), (some (220, false))⟩,
    ⟨(some 224), .bin .neq (.tmp 222) (.tmp 223) (some .string), (some (220, false))⟩,
    ⟨(some 225), .pick (.tmp 220) (.const (.bool true)) (.tmp 224), none⟩])
  (.cond (.tmp 225)
  (.seq (.ops [⟨(some 4), .mov (.const (.bool false)), none⟩])
  .ret)
  .skip))
  (.seq (.seq (.ops [⟨(some 226), .mov (.tmp 12), none⟩,
    ⟨(some 227), .len 1 (.tmp 226), none⟩,
    ⟨(some 228), .mov (.const (.int .i64 0)), none⟩])
  (.block 8 (.loop (.seq (.ops [⟨(some 229), .bin .lss (.tmp 228) (.tmp 227) (some (.int .i64)), none⟩])
  (.seq (.cond (.tmp 229)
  .skip
  (.exit 8))
  (.seq (.block 9 (.seq (.ops [⟨(some 230), .mov (.tmp 228), none⟩,
    ⟨(some 27), .mov (.tmp 230), none⟩])
  (.ops [⟨(some 231), .mov (.tmp 12), none⟩,
    ⟨(some 232), .mov (.tmp 27), none⟩,
    ⟨(some 233), .indexAddr 1 (.tmp 231) (.tmp 232), none⟩,
    ⟨none, .store 1 (.tmp 233) (.const (.int .u8 0)), none⟩])))
  (.ops [⟨(some 234), .bin .add (.tmp 228) (.const (.int .i64 1)) (some (.int .i64)), none⟩,
    ⟨(some 228), .mov (.tmp 234), none⟩])))))))
  (.seq (.ops [⟨(some 236), .fieldAddr 0 (.tmp 2), none⟩,
    ⟨(some 237), .load false 1 (.tmp 236), none⟩,
    ⟨(some 238), .mov (.tmp 12), none⟩,
    ⟨(some 239), .mov (.tmp 7), none⟩,
    ⟨(some 240), .len 1 (.tmp 239), none⟩,
    ⟨(some 241), .call 14 [(.tmp 237), (.tmp 238), (.tmp 240)], none⟩,
    ⟨(some 235), .mov (.tmp 241), none⟩,
    ⟨(some 242), .extract (.tmp 235) 0, none⟩,
    ⟨(some 243), .extract (.tmp 235) 1, none⟩,
    ⟨(some 28), .mov (.tmp 242), none⟩,
    ⟨(some 29), .mov (.tmp 243), none⟩])
  (.seq (.ops [⟨(some 245), .fieldAddr 0 (.tmp 2), none⟩,
    ⟨(some 246), .load false 1 (.tmp 245), none⟩,
    ⟨(some 247), .mov (.tmp 12), none⟩,
    ⟨(some 248), .mov (.tmp 7), none⟩,
    ⟨(some 249), .len 1 (.tmp 248), none⟩,
    ⟨(some 250), .call 13 [(.tmp 246), (.tmp 247), (.tmp 249)], none⟩,
    ⟨(some 244), .mov (.tmp 250), none⟩,
    ⟨(some 251), .extract (.tmp 244) 0, none⟩,
    ⟨(some 252), .extract (.tmp 244) 1, none⟩,
    ⟨(some 30), .mov (.tmp 251), none⟩,
    ⟨(some 31), .mov (.tmp 252), none⟩])
  (.seq (.ops [⟨(some 253), .mov (.tmp 29), none⟩,
    ⟨(some 254), .mov (.tmp 31), none⟩,
    ⟨(some 255), .bin .eql (.tmp 253) (.tmp 254) (some (.int .i64)), none⟩,
    ⟨(some 256), .mov (.tmp 255), none⟩,
    ⟨(some 257), .mov (.tmp 28), (some (256, true))⟩,
    ⟨(some 258), .b2s (.tmp 257), (some (256, true))⟩,
    ⟨(some 259), .mov (.tmp 30), (some (256, true))⟩,
    ⟨(some 260), .b2s (.tmp 259), (some (256, true))⟩,
    ⟨(some 261), .bin .eql (.tmp 258) (.tmp 260) (some .string), (some (256, true))⟩,
    ⟨(some 262), .pick (.tmp 256) (.tmp 261) (.const (.bool false)), none⟩,
    ⟨(some 4), .mov (.tmp 262), none⟩])
  .ret)))))))))))))))))))))))))))⟩
theorem F10_ok : compF Try.prog 10 = some F10 := by kernel_rfl

/-- colonnade/colonnadelaw06.awake -/
def F11 : FC := ⟨64, [.tmp 0],
  (.seq (.ops [⟨(some 0), .mov (.const (.bool false)), none⟩])
  (.seq (.ops [⟨(some 10), .buildSlice 1 4 [(.int .u8 0), (.int .u8 0), (.int .u8 0), (.int .u8 0)] [(0, 1, (.const (.int .u8 97))), (1, 1, (.const (.int .u8 97))), (2, 1, (.const (.int .u8 97))), (3, 1, (.const (.int .u8 98)))], none⟩,
    ⟨(some 11), .strish (.tmp 10), none⟩,
    ⟨(some 12), .call 17 [(.const (.int .i64 1)), (.tmp 11)], none⟩,
    ⟨(some 9), .mov (.tmp 12), none⟩,
    ⟨(some 13), .extract (.tmp 9) 0, none⟩,
    ⟨(some 14), .extract (.tmp 9) 1, none⟩,
    ⟨(some 1), .mov (.tmp 13), none⟩,
    ⟨(some 2), .mov (.tmp 14), none⟩])
  (.seq (.ops [⟨(some 16), .buildSlice 1 10 [(.int .u8 0), (.int .u8 0), (.int .u8 0), (.int .u8 0), (.int .u8 0), (.int .u8 0), (.int .u8 0), (.int .u8 0), (.int .u8 0), (.int .u8 0)] [(0, 1, (.const (.int .u8 97))), (1, 1, (.const (.int .u8 98))), (2, 1, (.const (.int .u8 99))), (3, 1, (.const (.int .u8 97))), (4, 1, (.const (.int .u8 98))), (5, 1, (.const (.int .u8 99))), (6, 1, (.const (.int .u8 97))), (7, 1, (.const (.int .u8 98))), (8, 1, (.const (.int .u8 99))), (9, 1, (.const (.int .u8 120)))], none⟩,
    ⟨(some 17), .strish (.tmp 16), none⟩,
    ⟨(some 18), .call 17 [(.const (.int .i64 2)), (.tmp 17)], none⟩,
    ⟨(some 15), .mov (.tmp 18), none⟩,
    ⟨(some 19), .extract (.tmp 15) 0, none⟩,
    ⟨(some 20), .extract (.tmp 15) 1, none⟩,
    ⟨(some 3), .mov (.tmp 19), none⟩,
    ⟨(some 4), .mov (.tmp 20), none⟩])
  (.seq (.ops [⟨(some 22), .buildSlice 1 5 [(.int .u8 0), (.int .u8 0), (.int .u8 0), (.int .u8 0), (.int .u8 0)] [(0, 1, (.const (.int .u8 0))), (1, 1, (.const (.int .u8 97))), (2, 1, (.const (.int .u8 128))), (3, 1, (.const (.int .u8 0))), (4, 1, (.const (.int .u8 0)))], none⟩,
    ⟨(some 23), .call 14 [(.const (.int .i64 2)), (.tmp 22), (.const (.int .i64 5))], none⟩,
    ⟨(some 21), .mov (.tmp 23), none⟩,
    ⟨(some 24), .extract (.tmp 21) 0, none⟩,
    ⟨(some 25), .extract (.tmp 21) 1, none⟩,
    ⟨(some 5), .mov (.tmp 24), none⟩,
    ⟨(some 6), .mov (.tmp 25), none⟩])
  (.seq (.ops [⟨(some 27), .buildSlice 1 2 [(.int .u8 0), (.int .u8 0)] [(0, 1, (.const (.int .u8 255))), (1, 1, (.const (.int .u8 7)))], none⟩,
    ⟨(some 28), .call 16 [(.const (.int .i64 1)), (.tmp 27)], none⟩,
    ⟨(some 26), .mov (.tmp 28), none⟩,
    ⟨(some 29), .extract (.tmp 26) 0, none⟩,
    ⟨(some 30), .extract (.tmp 26) 1, none⟩,
    ⟨(some 7), .mov (.tmp 29), none⟩,
    ⟨(some 8), .mov (.tmp 30), none⟩])
  (.seq (.ops [⟨(some 31), .mov (.tmp 1), none⟩,
    ⟨(some 32), .b2s (.tmp 31), none⟩,
    ⟨(some 33), .bin .eql (.tmp 32) (.const (.string ⟨#[128, 97, 0, 98]⟩)) (some .string), none⟩,
    ⟨(some 34), .mov (.tmp 33), none⟩,
    ⟨(some 35), .mov (.tmp 2), (some (34, true))⟩,
    ⟨(some 36), .bin .eql (.tmp 35) (.const (.int .i64 0)) (some (.int .i64)), (some (34, true))⟩,
    ⟨(some 37), .pick (.tmp 34) (.tmp 36) (.const (.bool false)), none⟩,
    ⟨(some 38), .mov (.tmp 37), none⟩,
    ⟨(some 39), .mov (.tmp 3), (some (38, true))⟩,
    ⟨(some 40), .b2s (.tmp 39), (some (38, true))⟩,
    ⟨(some 41), .bin .eql (.tmp 40) (.const (.string ⟨#[2, 97, 98, 99, 130, 2, 0, 0, 120]⟩)) (some .string), (some (38, true))⟩,
    ⟨(some 42), .pick (.tmp 38) (.tmp 41) (.const (.bool false)), none⟩,
    ⟨(some 43), .mov (.tmp 42), none⟩,
    ⟨(some 44), .mov (.tmp 4), (some (43, true))⟩,
    ⟨(some 45), .bin .eql (.tmp 44) (.const (.int .i64 0)) (some (.int .i64)), (some (43, true))⟩,
    ⟨(some 46), .pick (.tmp 43) (.tmp 45) (.const (.bool false)), none⟩,
    ⟨(some 47), .mov (.tmp 46), none⟩,
    ⟨(some 48), .mov (.tmp 5), (some (47, true))⟩,
    ⟨(some 49), .b2s (.tmp 48), (some (47, true))⟩,
    ⟨(some 50), .bin .eql (.tmp 49) (.const (.string ⟨#[97, 97, 97, 97, 97]⟩)) (some .string), (some (47, true))⟩,
    ⟨(some 51), .pick (.tmp 47) (.tmp 50) (.const (.bool false)), none⟩,
    ⟨(some 52), .mov (.tmp 51), none⟩,
    ⟨(some 53), .mov (.tmp 6), (some (52, true))⟩,
    ⟨(some 54), .bin .eql (.tmp 53) (.const (.int .i64 0)) (some (.int .i64)), (some (52, true))⟩,
    ⟨(some 55), .pick (.tmp 52) (.tmp 54) (.const (.bool false)), none⟩,
    ⟨(some 56), .mov (.tmp 55), none⟩,
    ⟨(some 57), .mov (.tmp 7), (some (56, true))⟩,
    ⟨(some 58), .bin .eql (.tmp 57) (.const (.int .i64 130)) (some (.int .i64)), (some (56, true))⟩,
    ⟨(some 59), .pick (.tmp 56) (.tmp 58) (.const (.bool false)), none⟩,
    ⟨(some 60), .mov (.tmp 59), none⟩,
    ⟨(some 61), .mov (.tmp 8), (some (60, true))⟩,
    ⟨(some 62), .bin .eql (.tmp 61) (.const (.int .i64 0)) (some (.int .i64)), (some (60, true))⟩,
    ⟨(some 63), .pick (.tmp 60) (.tmp 62) (.const (.bool false)), none⟩,
    ⟨(some 0), .mov (.tmp 63), none⟩])
  .ret))))))⟩
theorem F11_ok : compF Try.prog 11 = some F11 := by kernel_rfl

/-- colonnade/colonnadelaw06.packs -/
def F12 : FC := ⟨31, [.tmp 4],
  (.seq (.ops [⟨(some 4), .mov (.const (.bool false)), none⟩])
  (.seq (.ops [⟨(some 10), .mov (.tmp 0), none⟩,
    ⟨(some 11), .mov (.tmp 1), none⟩,
    ⟨(some 12), .call 18 [(.tmp 10), (.tmp 11)], none⟩,
    ⟨(some 9), .mov (.tmp 12), none⟩,
    ⟨(some 13), .extract (.tmp 9) 0, none⟩,
    ⟨(some 14), .extract (.tmp 9) 1, none⟩,
    ⟨(some 5), .mov (.tmp 13), none⟩,
    ⟨(some 6), .mov (.tmp 14), none⟩])
  (.seq (.ops [⟨(some 16), .mov (.tmp 0), none⟩,
    ⟨(some 17), .mov (.tmp 1), none⟩,
    ⟨(some 18), .call 17 [(.tmp 16), (.tmp 17)], none⟩,
    ⟨(some 15), .mov (.tmp 18), none⟩,
    ⟨(some 19), .extract (.tmp 15) 0, none⟩,
    ⟨(some 20), .extract (.tmp 15) 1, none⟩,
    ⟨(some 7), .mov (.tmp 19), none⟩,
    ⟨(some 8), .mov (.tmp 20), none⟩])
  (.seq (.ops [⟨(some 21), .mov (.tmp 8), none⟩,
    ⟨(some 22), .mov (.tmp 6), none⟩,
    ⟨(some 23), .bin .eql (.tmp 21) (.tmp 22) (some (.int .i64)), none⟩,
    ⟨(some 24), .mov (.tmp 23), none⟩,
    ⟨(some 25), .mov (.tmp 5), (some (24, true))⟩,
    ⟨(some 26), .b2s (.tmp 25), (some (24, true))⟩,
    ⟨(some 27), .mov (.tmp 7), (some (24, true))⟩,
    ⟨(some 28), .b2s (.tmp 27), (some (24, true))⟩,
    ⟨(some 29), .bin .eql (.tmp 26) (.tmp 28) (some .string), (some (24, true))⟩,
    ⟨(some 30), .pick (.tmp 24) (.tmp 29) (.const (.bool false)), none⟩,
    ⟨(some 4), .mov (.tmp 30), none⟩])
  .ret))))⟩
theorem F12_ok : compF Try.prog 12 = some F12 := by kernel_rfl

/-- colonnade/colonnaderef06.Unpack -/
def F13 : FC := ⟨39, [.tmp 6, .tmp 7],
  (.seq (.ops [⟨(some 6), .mov (.const (.slice none 0 0)), none⟩,
    ⟨(some 7), .mov (.const (.int .i64 0)), none⟩])
  (.seq (.seq (.ops [⟨(some 10), .mov (.tmp 0), none⟩,
    ⟨(some 11), .bin .lss (.tmp 10) (.const (.int .i64 0)) (some (.int .i64)), none⟩,
    ⟨(some 12), .mov (.tmp 11), none⟩,
    ⟨(some 13), .mov (.tmp 0), (some (12, false))⟩,
    ⟨(some 14), .bin .gtr (.tmp 13) (.const (.int .i64 2)) (some (.int .i64)), (some (12, false))⟩,
    ⟨(some 15), .pick (.tmp 12) (.const (.bool true)) (.tmp 14), none⟩,
    ⟨(some 16), .mov (.tmp 15), none⟩,
    ⟨(some 17), .mov (.tmp 2), (some (16, false))⟩,
    ⟨(some 18), .bin .lss (.tmp 17) (.const (.int .i64 0)) (some (.int .i64)), (some (16, false))⟩,
    ⟨(some 19), .pick (.tmp 16) (.const (.bool true)) (.tmp 18), none⟩])
  (.cond (.tmp 19)
  (.seq (.ops [⟨(some 6), .mov (.const (.slice none 0 0)), none⟩,
    ⟨(some 7), .mov (.const (.int .i64 1)), none⟩])
  .ret)
  .skip))
  (.seq (.seq (.ops [⟨(some 20), .mov (.tmp 2), none⟩,
    ⟨(some 21), .bin .gtr (.tmp 20) (.const (.int .i64 65536)) (some (.int .i64)), none⟩])
  (.cond (.tmp 21)
  (.seq (.ops [⟨(some 6), .mov (.const (.slice none 0 0)), none⟩,
    ⟨(some 7), .mov (.const (.int .i64 4)), none⟩])
  .ret)
  .skip))
  (.seq (.ops [⟨(some 23), .mov (.tmp 0), none⟩,
    ⟨(some 24), .mov (.tmp 1), none⟩,
    ⟨(some 25), .mov (.tmp 2), none⟩,
    ⟨(some 26), .call 20 [(.tmp 23), (.tmp 24), (.tmp 25), (.const (.int .i64 61))], none⟩,
    ⟨(some 22), .mov (.tmp 26), none⟩,
    ⟨(some 27), .extract (.tmp 22) 0, none⟩,
    ⟨(some 28), .extract (.tmp 22) 1, none⟩,
    ⟨(some 8), .mov (.tmp 27), none⟩,
    ⟨(some 9), .mov (.tmp 28), none⟩])
  (.seq (.seq (.ops [⟨(some 29), .mov (.tmp 9), none⟩,
    ⟨(some 30), .bin .eql (.tmp 29) (.const (.int .i64 0)) (some (.int .i64)), none⟩,
    ⟨(some 31), .mov (.tmp 30), none⟩,
    ⟨(some 32), .mov (.tmp 8), (some (31, true))⟩,
    ⟨(some 33), .len 1 (.tmp 32), (some (31, true))⟩,
    ⟨(some 34), .mov (.tmp 2), (some (31, true))⟩,
    ⟨(some 35), .bin .lss (.tmp 33) (.tmp 34) (some (.int .i64)), (some (31, true))⟩,
    ⟨(some 36), .pick (.tmp 31) (.tmp 35) (.const (.bool false)), none⟩])
  (.cond (.tmp 36)
  (.seq (.ops [⟨(some 6), .mov (.const (.slice none 0 0)), none⟩,
    ⟨(some 7), .mov (.const (.int .i64 62)), none⟩])
  .ret)
  .skip))
  (.seq (.ops [⟨(some 37), .mov (.tmp 8), none⟩,
    ⟨(some 38), .mov (.tmp 9), none⟩,
    ⟨(some 6), .mov (.tmp 37), none⟩,
    ⟨(some 7), .mov (.tmp 38), none⟩])
  .ret))))))⟩
theorem F13_ok : compF Try.prog 13 = some F13 := by kernel_rfl

/-- colonnade/press.Unpack -/
def F14 : FC := ⟨38, [.tmp 6, .tmp 7],
  (.seq (.ops [⟨(some 6), .mov (.const (.slice none 0 0)), none⟩,
    ⟨(some 7), .mov (.const (.int .i64 0)), none⟩])
  (.seq (.block 0 (.seq (.ops [⟨(some 11), .mov (.tmp 0), none⟩,
    ⟨(some 12), .call 21 [(.tmp 11)], none⟩,
    ⟨(some 13), .un .not (.tmp 12), none⟩,
    ⟨(some 14), .mov (.tmp 13), none⟩,
    ⟨(some 15), .mov (.tmp 2), (some (14, false))⟩,
    ⟨(some 16), .bin .lss (.tmp 15) (.const (.int .i64 0)) (some (.int .i64)), (some (14, false))⟩,
    ⟨(some 17), .pick (.tmp 14) (.const (.bool true)) (.tmp 16), none⟩,
    ⟨(some 10), .mov (.tmp 17), none⟩])
  (.cond (.tmp 10)
  (.seq (.ops [⟨(some 6), .mov (.const (.slice none 0 0)), none⟩,
    ⟨(some 7), .mov (.const (.int .i64 1)), none⟩])
  .ret)
  (.seq (.ops [⟨(some 19), .mov (.tmp 2), none⟩,
    ⟨(some 20), .bin .gtr (.tmp 19) (.const (.int .i64 65536)) (some (.int .i64)), none⟩,
    ⟨(some 18), .mov (.tmp 20), none⟩])
  (.cond (.tmp 18)
  (.seq (.ops [⟨(some 6), .mov (.const (.slice none 0 0)), none⟩,
    ⟨(some 7), .mov (.const (.int .i64 4)), none⟩])
  .ret)
  .skip)))))
  (.seq (.ops [⟨(some 22), .mov (.tmp 0), none⟩,
    ⟨(some 23), .mov (.tmp 1), none⟩,
    ⟨(some 24), .mov (.tmp 2), none⟩,
    ⟨(some 25), .call 22 [(.tmp 22), (.tmp 23), (.tmp 24), (.const (.int .i64 61))], none⟩,
    ⟨(some 21), .mov (.tmp 25), none⟩,
    ⟨(some 26), .extract (.tmp 21) 0, none⟩,
    ⟨(some 27), .extract (.tmp 21) 1, none⟩,
    ⟨(some 8), .mov (.tmp 26), none⟩,
    ⟨(some 9), .mov (.tmp 27), none⟩])
  (.seq (.block 1 (.seq (.ops [⟨(some 29), .mov (.tmp 9), none⟩,
    ⟨(some 30), .bin .neq (.tmp 29) (.const (.int .i64 0)) (some (.int .i64)), none⟩,
    ⟨(some 28), .mov (.tmp 30), none⟩])
  (.cond (.tmp 28)
  (.seq (.ops [⟨(some 31), .mov (.tmp 9), none⟩,
    ⟨(some 6), .mov (.const (.slice none 0 0)), none⟩,
    ⟨(some 7), .mov (.tmp 31), none⟩])
  .ret)
  (.seq (.ops [⟨(some 33), .mov (.tmp 8), none⟩,
    ⟨(some 34), .len 1 (.tmp 33), none⟩,
    ⟨(some 35), .mov (.tmp 2), none⟩,
    ⟨(some 36), .bin .lss (.tmp 34) (.tmp 35) (some (.int .i64)), none⟩,
    ⟨(some 32), .mov (.tmp 36), none⟩])
  (.cond (.tmp 32)
  (.seq (.ops [⟨(some 6), .mov (.const (.slice none 0 0)), none⟩,
    ⟨(some 7), .mov (.const (.int .i64 62)), none⟩])
  .ret)
  .skip)))))
  (.seq (.ops [⟨(some 37), .mov (.tmp 8), none⟩,
    ⟨(some 6), .mov (.tmp 37), none⟩,
    ⟨(some 7), .mov (.const (.int .i64 0)), none⟩])
  .ret)))))⟩
theorem F14_ok : compF Try.prog 14 = some F14 := by kernel_rfl

/-- colonnade/colonnaderef06.Size -/
def F15 : FC := ⟨23, [.tmp 4, .tmp 5],
  (.seq (.ops [⟨(some 4), .mov (.const (.int .i64 0)), none⟩,
    ⟨(some 5), .mov (.const (.int .i64 0)), none⟩])
  (.seq (.seq (.ops [⟨(some 8), .mov (.tmp 0), none⟩,
    ⟨(some 9), .bin .lss (.tmp 8) (.const (.int .i64 0)) (some (.int .i64)), none⟩,
    ⟨(some 10), .mov (.tmp 9), none⟩,
    ⟨(some 11), .mov (.tmp 0), (some (10, false))⟩,
    ⟨(some 12), .bin .gtr (.tmp 11) (.const (.int .i64 2)) (some (.int .i64)), (some (10, false))⟩,
    ⟨(some 13), .pick (.tmp 10) (.const (.bool true)) (.tmp 12), none⟩])
  (.cond (.tmp 13)
  (.seq (.ops [⟨(some 4), .mov (.const (.int .i64 0)), none⟩,
    ⟨(some 5), .mov (.const (.int .i64 1)), none⟩])
  .ret)
  .skip))
  (.seq (.ops [⟨(some 15), .mov (.tmp 0), none⟩,
    ⟨(some 16), .mov (.tmp 1), none⟩,
    ⟨(some 17), .call 20 [(.tmp 15), (.tmp 16), (.const (.int .i64 65536)), (.const (.int .i64 4))], none⟩,
    ⟨(some 14), .mov (.tmp 17), none⟩,
    ⟨(some 18), .extract (.tmp 14) 0, none⟩,
    ⟨(some 19), .extract (.tmp 14) 1, none⟩,
    ⟨(some 6), .mov (.tmp 18), none⟩,
    ⟨(some 7), .mov (.tmp 19), none⟩])
  (.seq (.ops [⟨(some 20), .mov (.tmp 6), none⟩,
    ⟨(some 21), .len 1 (.tmp 20), none⟩,
    ⟨(some 22), .mov (.tmp 7), none⟩,
    ⟨(some 4), .mov (.tmp 21), none⟩,
    ⟨(some 5), .mov (.tmp 22), none⟩])
  .ret))))⟩
theorem F15_ok : compF Try.prog 15 = some F15 := by kernel_rfl

/-- colonnade/press.Size -/
def F16 : FC := ⟨20, [.tmp 4, .tmp 5],
  (.seq (.ops [⟨(some 4), .mov (.const (.int .i64 0)), none⟩,
    ⟨(some 5), .mov (.const (.int .i64 0)), none⟩])
  (.seq (.seq (.ops [⟨(some 8), .mov (.tmp 0), none⟩,
    ⟨(some 9), .call 21 [(.tmp 8)], none⟩,
    ⟨(some 10), .un .not (.tmp 9), none⟩])
  (.cond (.tmp 10)
  (.seq (.ops [⟨(some 4), .mov (.const (.int .i64 0)), none⟩,
    ⟨(some 5), .mov (.const (.int .i64 1)), none⟩])
  .ret)
  .skip))
  (.seq (.ops [⟨(some 12), .mov (.tmp 0), none⟩,
    ⟨(some 13), .mov (.tmp 1), none⟩,
    ⟨(some 14), .call 22 [(.tmp 12), (.tmp 13), (.const (.int .i64 65536)), (.const (.int .i64 4))], none⟩,
    ⟨(some 11), .mov (.tmp 14), none⟩,
    ⟨(some 15), .extract (.tmp 11) 0, none⟩,
    ⟨(some 16), .extract (.tmp 11) 1, none⟩,
    ⟨(some 6), .mov (.tmp 15), none⟩,
    ⟨(some 7), .mov (.tmp 16), none⟩])
  (.seq (.ops [⟨(some 17), .mov (.tmp 6), none⟩,
    ⟨(some 18), .len 1 (.tmp 17), none⟩,
    ⟨(some 19), .mov (.tmp 7), none⟩,
    ⟨(some 4), .mov (.tmp 18), none⟩,
    ⟨(some 5), .mov (.tmp 19), none⟩])
  .ret))))⟩
theorem F16_ok : compF Try.prog 16 = some F16 := by kernel_rfl

/-- colonnade/press.Pack -/
def F17 : FC := ⟨31, [.tmp 4, .tmp 5],
  (.seq (.ops [⟨(some 4), .mov (.const (.slice none 0 0)), none⟩,
    ⟨(some 5), .mov (.const (.int .i64 0)), none⟩])
  (.seq (.block 0 (.seq (.ops [⟨(some 7), .mov (.tmp 0), none⟩,
    ⟨(some 8), .call 21 [(.tmp 7)], none⟩,
    ⟨(some 9), .un .not (.tmp 8), none⟩,
    ⟨(some 6), .mov (.tmp 9), none⟩])
  (.cond (.tmp 6)
  (.seq (.ops [⟨(some 4), .mov (.const (.slice none 0 0)), none⟩,
    ⟨(some 5), .mov (.const (.int .i64 1)), none⟩])
  .ret)
  (.seq (.ops [⟨(some 11), .mov (.tmp 1), none⟩,
    ⟨(some 12), .len 1 (.tmp 11), none⟩,
    ⟨(some 13), .bin .gtr (.tmp 12) (.const (.int .i64 65536)) (some (.int .i64)), none⟩,
    ⟨(some 10), .mov (.tmp 13), none⟩])
  (.cond (.tmp 10)
  (.seq (.ops [⟨(some 4), .mov (.const (.slice none 0 0)), none⟩,
    ⟨(some 5), .mov (.const (.int .i64 4)), none⟩])
  .ret)
  .skip)))))
  (.seq (.seq (.ops [⟨(some 14), .mov (.tmp 0), none⟩])
  (.block 1 (.seq (.ops [⟨(some 16), .bin .eql (.tmp 14) (.const (.int .i64 1)) (some (.int .i64)), none⟩,
    ⟨(some 15), .mov (.tmp 16), none⟩])
  (.cond (.tmp 15)
  (.seq (.ops [⟨(some 17), .mov (.tmp 1), none⟩,
    ⟨(some 18), .mov (.tmp 1), none⟩,
    ⟨(some 19), .build [(.slice none 0 0)] [(0, 1, (.tmp 18))], none⟩,
    ⟨(some 20), .mkIface 53 (.tmp 19), none⟩,
    ⟨(some 21), .call 23 [(.tmp 17), (.tmp 20)], none⟩,
    ⟨(some 4), .mov (.tmp 21), none⟩,
    ⟨(some 5), .mov (.const (.int .i64 0)), none⟩])
  .ret)
  (.seq (.ops [⟨(some 23), .bin .eql (.tmp 14) (.const (.int .i64 2)) (some (.int .i64)), none⟩,
    ⟨(some 22), .mov (.tmp 23), none⟩])
  (.cond (.tmp 22)
  (.seq (.ops [⟨(some 24), .mov (.tmp 1), none⟩,
    ⟨(some 25), .mov (.tmp 1), none⟩,
    ⟨(some 26), .call 24 [(.tmp 25)], none⟩,
    ⟨(some 27), .mkIface 55 (.tmp 26), none⟩,
    ⟨(some 28), .call 23 [(.tmp 24), (.tmp 27)], none⟩,
    ⟨(some 4), .mov (.tmp 28), none⟩,
    ⟨(some 5), .mov (.const (.int .i64 0)), none⟩])
  .ret)
  .skip))))))
  (.seq (.ops [⟨(some 29), .mov (.tmp 1), none⟩,
    ⟨(some 30), .append 1 1 (.const (.slice none 0 0)) (.tmp 29), none⟩,
    ⟨(some 4), .mov (.tmp 30), none⟩,
    ⟨(some 5), .mov (.const (.int .i64 0)), none⟩])
  .ret))))⟩
theorem F17_ok : compF Try.prog 17 = some F17 := by kernel_rfl

/-- colonnade/colonnaderef06.Pack -/
def F18 : FC := ⟨29, [.tmp 4, .tmp 5],
  (.seq (.ops [⟨(some 4), .mov (.const (.slice none 0 0)), none⟩,
    ⟨(some 5), .mov (.const (.int .i64 0)), none⟩])
  (.seq (.seq (.ops [⟨(some 7), .mov (.tmp 0), none⟩,
    ⟨(some 8), .bin .lss (.tmp 7) (.const (.int .i64 0)) (some (.int .i64)), none⟩,
    ⟨(some 9), .mov (.tmp 8), none⟩,
    ⟨(some 10), .mov (.tmp 0), (some (9, false))⟩,
    ⟨(some 11), .bin .gtr (.tmp 10) (.const (.int .i64 2)) (some (.int .i64)), (some (9, false))⟩,
    ⟨(some 12), .pick (.tmp 9) (.const (.bool true)) (.tmp 11), none⟩])
  (.cond (.tmp 12)
  (.seq (.ops [⟨(some 4), .mov (.const (.slice none 0 0)), none⟩,
    ⟨(some 5), .mov (.const (.int .i64 1)), none⟩])
  .ret)
  .skip))
  (.seq (.seq (.ops [⟨(some 13), .mov (.tmp 1), none⟩,
    ⟨(some 14), .len 1 (.tmp 13), none⟩,
    ⟨(some 15), .bin .gtr (.tmp 14) (.const (.int .i64 65536)) (some (.int .i64)), none⟩])
  (.cond (.tmp 15)
  (.seq (.ops [⟨(some 4), .mov (.const (.slice none 0 0)), none⟩,
    ⟨(some 5), .mov (.const (.int .i64 4)), none⟩])
  .ret)
  .skip))
  (.seq (.seq (.ops [⟨(some 16), .mov (.tmp 0), none⟩])
  (.block 0 (.seq (.ops [⟨(some 18), .bin .eql (.tmp 16) (.const (.int .i64 1)) (some (.int .i64)), none⟩,
    ⟨(some 17), .mov (.tmp 18), none⟩])
  (.cond (.tmp 17)
  (.seq (.ops [⟨(some 19), .mov (.tmp 1), none⟩,
    ⟨(some 20), .call 25 [(.tmp 19)], none⟩,
    ⟨(some 4), .mov (.tmp 20), none⟩,
    ⟨(some 5), .mov (.const (.int .i64 0)), none⟩])
  .ret)
  (.seq (.ops [⟨(some 22), .bin .eql (.tmp 16) (.const (.int .i64 2)) (some (.int .i64)), none⟩,
    ⟨(some 21), .mov (.tmp 22), none⟩])
  (.cond (.tmp 21)
  (.seq (.ops [⟨(some 23), .mov (.tmp 1), none⟩,
    ⟨(some 24), .call 26 [(.tmp 23)], none⟩,
    ⟨(some 4), .mov (.tmp 24), none⟩,
    ⟨(some 5), .mov (.const (.int .i64 0)), none⟩])
  .ret)
  .skip))))))
  (.seq (.ops [⟨(some 25), .buildSlice 1 0 [] [], none⟩,
    ⟨(some 6), .mov (.tmp 25), none⟩])
  (.seq (.ops [⟨(some 26), .mov (.tmp 6), none⟩,
    ⟨(some 27), .mov (.tmp 1), none⟩,
    ⟨(some 28), .append 1 1 (.tmp 26) (.tmp 27), none⟩,
    ⟨(some 4), .mov (.tmp 28), none⟩,
    ⟨(some 5), .mov (.const (.int .i64 0)), none⟩])
  .ret))))))⟩
theorem F18_ok : compF Try.prog 18 = some F18 := by kernel_rfl

/-- colonnade/colonnadelaw06.turns -/
def F19 : FC := ⟨111, [.tmp 6],
  (.seq (.ops [⟨(some 6), .mov (.const (.bool false)), none⟩])
  (.seq (.ops [⟨(some 17), .buildSlice 1 0 [] [], none⟩,
    ⟨(some 7), .mov (.tmp 17), none⟩])
  (.seq (.seq (.ops [⟨(some 8), .mov (.const (.int .i64 0)), none⟩])
  (.block 0 (.loop (.seq (.seq (.ops [⟨(some 18), .mov (.tmp 8), none⟩,
    ⟨(some 19), .bin .lss (.tmp 18) (.const (.int .i64 5)) (some (.int .i64)), none⟩])
  (.cond (.tmp 19)
  .skip
  (.exit 0)))
  (.seq (.block 1 (.seq (.ops [⟨(some 23), .mov (.tmp 0), none⟩,
    ⟨(some 24), .mov (.tmp 2), none⟩,
    ⟨(some 25), .call 17 [(.tmp 23), (.tmp 24)], none⟩,
    ⟨(some 22), .mov (.tmp 25), none⟩,
    ⟨(some 26), .extract (.tmp 22) 0, none⟩,
    ⟨(some 27), .extract (.tmp 22) 1, none⟩,
    ⟨(some 9), .mov (.tmp 26), none⟩,
    ⟨(some 10), .mov (.tmp 27), none⟩])
  (.seq (.ops [⟨(some 29), .mov (.tmp 0), none⟩,
    ⟨(some 30), .mov (.tmp 1), none⟩,
    ⟨(some 31), .s2b (.tmp 30), none⟩,
    ⟨(some 32), .mov (.tmp 2), none⟩,
    ⟨(some 33), .len 1 (.tmp 32), none⟩,
    ⟨(some 34), .call 14 [(.tmp 29), (.tmp 31), (.tmp 33)], none⟩,
    ⟨(some 28), .mov (.tmp 34), none⟩,
    ⟨(some 35), .extract (.tmp 28) 0, none⟩,
    ⟨(some 36), .extract (.tmp 28) 1, none⟩,
    ⟨(some 11), .mov (.tmp 35), none⟩,
    ⟨(some 12), .mov (.tmp 36), none⟩])
  (.seq (.seq (.ops [⟨(some 37), .mov (.tmp 10), none⟩,
    ⟨(some 38), .bin .neq (.tmp 37) (.const (.int .i64 0)) (some (.int .i64)), none⟩,
    ⟨(some 39), .mov (.tmp 38), none⟩,
    ⟨(some 40), .mov (.tmp 12), (some (39, false))⟩,
    ⟨(some 41), .bin .neq (.tmp 40) (.const (.int .i64 0)) (some (.int .i64)), (some (39, false))⟩,
    ⟨(some 42), .pick (.tmp 39) (.const (.bool true)) (.tmp 41), none⟩,
    ⟨(some 43), .mov (.tmp 42), none⟩,
    ⟨(some 44), .mov (.tmp 9), (some (43, false))⟩,
    ⟨(some 45), .b2s (.tmp 44), (some (43, false))⟩,
    ⟨(some 46), .mov (.tmp 1), (some (43, false))⟩,
    ⟨(some 47), .bin .neq (.tmp 45) (.tmp 46) (some .string), (some (43, false))⟩,
    ⟨(some 48), .pick (.tmp 43) (.const (.bool true)) (.tmp 47), none⟩,
    ⟨(some 49), .mov (.tmp 48), none⟩,
    ⟨(some 50), .mov (.tmp 11), (some (49, false))⟩,
    ⟨(some 51), .b2s (.tmp 50), (some (49, false))⟩,
    ⟨(some 52), .mov (.tmp 2), (some (49, false))⟩,
    ⟨(some 53), .b2s (.tmp 52), (some (49, false))⟩,
    ⟨(some 54), .bin .neq (.tmp 51) (.tmp 53) (some .string), (some (49, false))⟩,
    ⟨(some 55), .pick (.tmp 49) (.const (.bool true)) (.tmp 54), none⟩])
  (.cond (.tmp 55)
  (.seq (.ops [⟨(some 6), .mov (.const (.bool false)), none⟩])
  .ret)
  .skip))
  (.ops [⟨(some 56), .mov (.tmp 7), none⟩,
    ⟨(some 57), .mov (.tmp 9), none⟩,
    ⟨(some 58), .mov (.tmp 11), none⟩,
    ⟨(some 59), .buildSlice 1 2 [(.slice none 0 0), (.slice none 0 0)] [(0, 1, (.tmp 57)), (1, 1, (.tmp 58))], none⟩,
    ⟨(some 60), .append 1 24 (.tmp 56) (.tmp 59), none⟩,
    ⟨(some 7), .mov (.tmp 60), none⟩])))))
  (.ops [⟨(some 20), .mov (.tmp 8), none⟩,
    ⟨(some 21), .bin .add (.tmp 20) (.const (.int .i64 1)) (some (.int .i64)), none⟩,
    ⟨(some 8), .mov (.tmp 21), none⟩]))))))
  (.seq (.seq (.ops [⟨(some 61), .mov (.tmp 7), none⟩,
    ⟨(some 62), .len 1 (.tmp 61), none⟩,
    ⟨(some 63), .mov (.const (.int .i64 0)), none⟩])
  (.block 2 (.loop (.seq (.ops [⟨(some 64), .bin .lss (.tmp 63) (.tmp 62) (some (.int .i64)), none⟩])
  (.seq (.cond (.tmp 64)
  .skip
  (.exit 2))
  (.seq (.block 3 (.seq (.ops [⟨(some 65), .mov (.tmp 63), none⟩,
    ⟨(some 13), .mov (.tmp 65), none⟩])
  (.seq (.ops [⟨(some 66), .mov (.tmp 7), none⟩,
    ⟨(some 67), .mov (.tmp 13), none⟩,
    ⟨(some 68), .indexAddr 1 (.tmp 66) (.tmp 67), none⟩,
    ⟨(some 69), .load false 1 (.tmp 68), none⟩,
    ⟨(some 70), .len 1 (.tmp 69), none⟩,
    ⟨(some 71), .mov (.const (.int .i64 0)), none⟩])
  (.block 4 (.loop (.seq (.ops [⟨(some 72), .bin .lss (.tmp 71) (.tmp 70) (some (.int .i64)), none⟩])
  (.seq (.cond (.tmp 72)
  .skip
  (.exit 4))
  (.seq (.block 5 (.seq (.ops [⟨(some 73), .mov (.tmp 71), none⟩,
    ⟨(some 14), .mov (.tmp 73), none⟩])
  (.ops [⟨(some 74), .mov (.tmp 7), none⟩,
    ⟨(some 75), .mov (.tmp 13), none⟩,
    ⟨(some 76), .indexAddr 1 (.tmp 74) (.tmp 75), none⟩,
    ⟨(some 77), .load false 1 (.tmp 76), none⟩,
    ⟨(some 78), .mov (.tmp 14), none⟩,
    ⟨(some 79), .mov (.tmp 13), none⟩,
    ⟨(some 80), .bin .add (.tmp 79) (.const (.int .i64 1)) (some (.int .i64)), none⟩,
    ⟨(some 81), .conv .u8 (.tmp 80), none⟩,
    ⟨(some 82), .indexAddr 1 (.tmp 77) (.tmp 78), none⟩,
    ⟨none, .store 1 (.tmp 82) (.tmp 81), none⟩])))
  (.ops [⟨(some 83), .bin .add (.tmp 71) (.const (.int .i64 1)) (some (.int .i64)), none⟩,
    ⟨(some 71), .mov (.tmp 83), none⟩])))))))))
  (.ops [⟨(some 84), .bin .add (.tmp 63) (.const (.int .i64 1)) (some (.int .i64)), none⟩,
    ⟨(some 63), .mov (.tmp 84), none⟩])))))))
  (.seq (.seq (.ops [⟨(some 85), .mov (.tmp 7), none⟩,
    ⟨(some 86), .len 1 (.tmp 85), none⟩,
    ⟨(some 87), .mov (.const (.int .i64 0)), none⟩])
  (.block 6 (.loop (.seq (.ops [⟨(some 88), .bin .lss (.tmp 87) (.tmp 86) (some (.int .i64)), none⟩])
  (.seq (.cond (.tmp 88)
  .skip
  (.exit 6))
  (.seq (.block 7 (.seq (.ops [⟨(some 89), .mov (.tmp 87), none⟩,
    ⟨(some 15), .mov (.tmp 89), none⟩])
  (.seq (.ops [⟨(some 90), .mov (.tmp 7), none⟩,
    ⟨(some 91), .mov (.tmp 15), none⟩,
    ⟨(some 92), .indexAddr 1 (.tmp 90) (.tmp 91), none⟩,
    ⟨(some 93), .load false 1 (.tmp 92), none⟩,
    ⟨(some 94), .len 1 (.tmp 93), none⟩,
    ⟨(some 95), .mov (.const (.int .i64 0)), none⟩])
  (.block 8 (.loop (.seq (.ops [⟨(some 96), .bin .lss (.tmp 95) (.tmp 94) (some (.int .i64)), none⟩])
  (.seq (.cond (.tmp 96)
  .skip
  (.exit 8))
  (.seq (.block 9 (.seq (.ops [⟨(some 97), .mov (.tmp 95), none⟩,
    ⟨(some 16), .mov (.tmp 97), none⟩])
  (.seq (.ops [⟨(some 98), .mov (.tmp 7), none⟩,
    ⟨(some 99), .mov (.tmp 15), none⟩,
    ⟨(some 100), .indexAddr 1 (.tmp 98) (.tmp 99), none⟩,
    ⟨(some 101), .load false 1 (.tmp 100), none⟩,
    ⟨(some 102), .mov (.tmp 16), none⟩,
    ⟨(some 103), .indexAddr 1 (.tmp 101) (.tmp 102), none⟩,
    ⟨(some 104), .load false 1 (.tmp 103), none⟩,
    ⟨(some 105), .mov (.tmp 15), none⟩,
    ⟨(some 106), .bin .add (.tmp 105) (.const (.int .i64 1)) (some (.int .i64)), none⟩,
    ⟨(some 107), .conv .u8 (.tmp 106), none⟩,
    ⟨(some 108), .bin .neq (.tmp 104) (.tmp 107) (some (.int .u8)), none⟩])
  (.cond (.tmp 108)
  (.seq (.ops [⟨(some 6), .mov (.const (.bool false)), none⟩])
  .ret)
  .skip))))
  (.ops [⟨(some 109), .bin .add (.tmp 95) (.const (.int .i64 1)) (some (.int .i64)), none⟩,
    ⟨(some 95), .mov (.tmp 109), none⟩])))))))))
  (.ops [⟨(some 110), .bin .add (.tmp 87) (.const (.int .i64 1)) (some (.int .i64)), none⟩,
    ⟨(some 87), .mov (.tmp 110), none⟩])))))))
  (.seq (.ops [⟨(some 6), .mov (.const (.bool true)), none⟩])
  .ret))))))⟩
theorem F19_ok : compF Try.prog 19 = some F19 := by kernel_rfl

/-- colonnade/colonnaderef06.lay -/
def F20 : FC := ⟨136, [.tmp 8, .tmp 9],
  (.seq (.ops [⟨(some 8), .mov (.const (.slice none 0 0)), none⟩,
    ⟨(some 9), .mov (.const (.int .i64 0)), none⟩])
  (.seq (.ops [⟨(some 17), .buildSlice 1 0 [] [], none⟩,
    ⟨(some 10), .mov (.tmp 17), none⟩])
  (.seq (.seq (.ops [⟨(some 18), .mov (.tmp 0), none⟩,
    ⟨(some 19), .bin .eql (.tmp 18) (.const (.int .i64 0)) (some (.int .i64)), none⟩])
  (.cond (.tmp 19)
  (.seq (.seq (.ops [⟨(some 20), .mov (.tmp 1), none⟩,
    ⟨(some 21), .len 1 (.tmp 20), none⟩,
    ⟨(some 22), .mov (.tmp 2), none⟩,
    ⟨(some 23), .bin .gtr (.tmp 21) (.tmp 22) (some (.int .i64)), none⟩])
  (.cond (.tmp 23)
  (.seq (.ops [⟨(some 24), .mov (.tmp 3), none⟩,
    ⟨(some 8), .mov (.const (.slice none 0 0)), none⟩,
    ⟨(some 9), .mov (.tmp 24), none⟩])
  .ret)
  .skip))
  (.seq (.ops [⟨(some 25), .mov (.tmp 10), none⟩,
    ⟨(some 26), .mov (.tmp 1), none⟩,
    ⟨(some 27), .append 1 1 (.tmp 25) (.tmp 26), none⟩,
    ⟨(some 8), .mov (.tmp 27), none⟩,
    ⟨(some 9), .mov (.const (.int .i64 0)), none⟩])
  .ret))
  .skip))
  (.seq (.seq (.ops [⟨(some 11), .mov (.const (.int .i64 0)), none⟩])
  (.block 0 (.loop (.seq (.seq (.ops [⟨(some 28), .mov (.tmp 11), none⟩,
    ⟨(some 29), .mov (.tmp 1), none⟩,
    ⟨(some 30), .len 1 (.tmp 29), none⟩,
    ⟨(some 31), .bin .lss (.tmp 28) (.tmp 30) (some (.int .i64)), none⟩])
  (.cond (.tmp 31)
  .skip
  (.exit 0)))
  (.block 1 (.seq (.ops [⟨(some 32), .mov (.tmp 1), none⟩,
    ⟨(some 33), .mov (.tmp 11), none⟩,
    ⟨(some 34), .indexAddr 1 (.tmp 32) (.tmp 33), none⟩,
    ⟨(some 35), .load false 1 (.tmp 34), none⟩,
    ⟨(some 36), .conv .i64 (.tmp 35), none⟩,
    ⟨(some 12), .mov (.tmp 36), none⟩])
  (.seq (.ops [⟨(some 37), .mov (.tmp 11), none⟩,
    ⟨(some 38), .bin .add (.tmp 37) (.const (.int .i64 1)) (some (.int .i64)), none⟩,
    ⟨(some 11), .mov (.tmp 38), none⟩])
  (.seq (.seq (.ops [⟨(some 39), .mov (.tmp 12), none⟩,
    ⟨(some 40), .bin .lss (.tmp 39) (.const (.int .i64 128)) (some (.int .i64)), none⟩])
  (.cond (.tmp 40)
  (.seq (.seq (.ops [⟨(some 41), .mov (.tmp 11), none⟩,
    ⟨(some 42), .mov (.tmp 12), none⟩,
    ⟨(some 43), .bin .add (.tmp 41) (.tmp 42) (some (.int .i64)), none⟩,
    ⟨(some 44), .bin .add (.tmp 43) (.const (.int .i64 1)) (some (.int .i64)), none⟩,
    ⟨(some 45), .mov (.tmp 1), none⟩,
    ⟨(some 46), .len 1 (.tmp 45), none⟩,
    ⟨(some 47), .bin .gtr (.tmp 44) (.tmp 46) (some (.int .i64)), none⟩])
  (.cond (.tmp 47)
  (.seq (.ops [⟨(some 8), .mov (.const (.slice none 0 0)), none⟩,
    ⟨(some 9), .mov (.const (.int .i64 60)), none⟩])
  .ret)
  .skip))
  (.seq (.seq (.ops [⟨(some 48), .mov (.tmp 10), none⟩,
    ⟨(some 49), .len 1 (.tmp 48), none⟩,
    ⟨(some 50), .mov (.tmp 12), none⟩,
    ⟨(some 51), .bin .add (.tmp 49) (.tmp 50) (some (.int .i64)), none⟩,
    ⟨(some 52), .bin .add (.tmp 51) (.const (.int .i64 1)) (some (.int .i64)), none⟩,
    ⟨(some 53), .mov (.tmp 2), none⟩,
    ⟨(some 54), .bin .gtr (.tmp 52) (.tmp 53) (some (.int .i64)), none⟩])
  (.cond (.tmp 54)
  (.seq (.ops [⟨(some 55), .mov (.tmp 3), none⟩,
    ⟨(some 8), .mov (.const (.slice none 0 0)), none⟩,
    ⟨(some 9), .mov (.tmp 55), none⟩])
  .ret)
  .skip))
  (.seq (.ops [⟨(some 56), .mov (.tmp 10), none⟩,
    ⟨(some 57), .mov (.tmp 1), none⟩,
    ⟨(some 58), .mov (.tmp 11), none⟩,
    ⟨(some 59), .mov (.tmp 11), none⟩,
    ⟨(some 60), .mov (.tmp 12), none⟩,
    ⟨(some 61), .bin .add (.tmp 59) (.tmp 60) (some (.int .i64)), none⟩,
    ⟨(some 62), .bin .add (.tmp 61) (.const (.int .i64 1)) (some (.int .i64)), none⟩,
    ⟨(some 63), .slice 1 (.tmp 57) (some (.tmp 58)) (some (.tmp 62)) none, none⟩,
    ⟨(some 64), .append 1 1 (.tmp 56) (.tmp 63), none⟩,
    ⟨(some 10), .mov (.tmp 64), none⟩])
  (.seq (.ops [⟨(some 65), .mov (.tmp 11), none⟩,
    ⟨(some 66), .mov (.tmp 12), none⟩,
    ⟨(some 67), .bin .add (.tmp 66) (.const (.int .i64 1)) (some (.int .i64)), none⟩,
    ⟨(some 68), .bin .add (.tmp 65) (.tmp 67) (some (.int .i64)), none⟩,
    ⟨(some 11), .mov (.tmp 68), none⟩])
  (.exit 1)))))
  .skip))
  (.seq (.ops [⟨(some 69), .mov (.tmp 12), none⟩,
    ⟨(some 70), .bin .sub (.tmp 69) (.const (.int .i64 125)) (some (.int .i64)), none⟩,
    ⟨(some 13), .mov (.tmp 70), none⟩,
    ⟨(some 14), .mov (.const (.int .i64 1)), none⟩])
  (.seq (.seq (.ops [⟨(some 71), .mov (.tmp 0), none⟩,
    ⟨(some 72), .bin .eql (.tmp 71) (.const (.int .i64 2)) (some (.int .i64)), none⟩])
  (.cond (.tmp 72)
  (.ops [⟨(some 73), .mov (.tmp 12), none⟩,
    ⟨(some 74), .bin .sub (.tmp 73) (.const (.int .i64 124)) (some (.int .i64)), none⟩,
    ⟨(some 13), .mov (.tmp 74), none⟩,
    ⟨(some 14), .mov (.const (.int .i64 2)), none⟩])
  .skip))
  (.seq (.seq (.ops [⟨(some 75), .mov (.tmp 11), none⟩,
    ⟨(some 76), .mov (.tmp 14), none⟩,
    ⟨(some 77), .bin .add (.tmp 75) (.tmp 76) (some (.int .i64)), none⟩,
    ⟨(some 78), .mov (.tmp 1), none⟩,
    ⟨(some 79), .len 1 (.tmp 78), none⟩,
    ⟨(some 80), .bin .gtr (.tmp 77) (.tmp 79) (some (.int .i64)), none⟩])
  (.cond (.tmp 80)
  (.seq (.ops [⟨(some 8), .mov (.const (.slice none 0 0)), none⟩,
    ⟨(some 9), .mov (.const (.int .i64 60)), none⟩])
  .ret)
  .skip))
  (.seq (.ops [⟨(some 15), .mov (.const (.int .i64 0)), none⟩])
  (.seq (.seq (.ops [⟨(some 81), .mov (.tmp 0), none⟩,
    ⟨(some 82), .bin .eql (.tmp 81) (.const (.int .i64 2)) (some (.int .i64)), none⟩])
  (.cond (.tmp 82)
  (.seq (.ops [⟨(some 83), .mov (.tmp 1), none⟩,
    ⟨(some 84), .mov (.tmp 11), none⟩,
    ⟨(some 85), .indexAddr 1 (.tmp 83) (.tmp 84), none⟩,
    ⟨(some 86), .load false 1 (.tmp 85), none⟩,
    ⟨(some 87), .conv .i64 (.tmp 86), none⟩,
    ⟨(some 88), .mov (.tmp 1), none⟩,
    ⟨(some 89), .mov (.tmp 11), none⟩,
    ⟨(some 90), .bin .add (.tmp 89) (.const (.int .i64 1)) (some (.int .i64)), none⟩,
    ⟨(some 91), .indexAddr 1 (.tmp 88) (.tmp 90), none⟩,
    ⟨(some 92), .load false 1 (.tmp 91), none⟩,
    ⟨(some 93), .conv .i64 (.tmp 92), none⟩,
    ⟨(some 94), .bin .shl (.tmp 93) (.const (.int .u64 8)) (some (.int .i64)), none⟩,
    ⟨(some 95), .bin .add (.tmp 87) (.tmp 94) (some (.int .i64)), none⟩,
    ⟨(some 96), .bin .add (.tmp 95) (.const (.int .i64 1)) (some (.int .i64)), none⟩,
    ⟨(some 15), .mov (.tmp 96), none⟩])
  (.seq (.ops [⟨(some 97), .mov (.tmp 15), none⟩,
    ⟨(some 98), .mov (.tmp 10), none⟩,
    ⟨(some 99), .len 1 (.tmp 98), none⟩,
    ⟨(some 100), .bin .gtr (.tmp 97) (.tmp 99) (some (.int .i64)), none⟩])
  (.cond (.tmp 100)
  (.seq (.ops [⟨(some 8), .mov (.const (.slice none 0 0)), none⟩,
    ⟨(some 9), .mov (.const (.int .i64 63)), none⟩])
  .ret)
  .skip)))
  .skip))
  (.seq (.seq (.ops [⟨(some 101), .mov (.tmp 10), none⟩,
    ⟨(some 102), .len 1 (.tmp 101), none⟩,
    ⟨(some 103), .mov (.tmp 13), none⟩,
    ⟨(some 104), .bin .add (.tmp 102) (.tmp 103) (some (.int .i64)), none⟩,
    ⟨(some 105), .mov (.tmp 2), none⟩,
    ⟨(some 106), .bin .gtr (.tmp 104) (.tmp 105) (some (.int .i64)), none⟩])
  (.cond (.tmp 106)
  (.seq (.ops [⟨(some 107), .mov (.tmp 3), none⟩,
    ⟨(some 8), .mov (.const (.slice none 0 0)), none⟩,
    ⟨(some 9), .mov (.tmp 107), none⟩])
  .ret)
  .skip))
  (.seq (.seq (.ops [⟨(some 16), .mov (.const (.int .i64 0)), none⟩])
  (.block 2 (.loop (.seq (.seq (.ops [⟨(some 108), .mov (.tmp 16), none⟩,
    ⟨(some 109), .mov (.tmp 13), none⟩,
    ⟨(some 110), .bin .lss (.tmp 108) (.tmp 109) (some (.int .i64)), none⟩])
  (.cond (.tmp 110)
  .skip
  (.exit 2)))
  (.seq (.block 3 (.seq (.ops [⟨(some 113), .mov (.tmp 0), none⟩,
    ⟨(some 114), .bin .eql (.tmp 113) (.const (.int .i64 1)) (some (.int .i64)), none⟩])
  (.cond (.tmp 114)
  (.ops [⟨(some 115), .mov (.tmp 10), none⟩,
    ⟨(some 116), .mov (.tmp 1), none⟩,
    ⟨(some 117), .mov (.tmp 11), none⟩,
    ⟨(some 118), .indexAddr 1 (.tmp 116) (.tmp 117), none⟩,
    ⟨(some 119), .load false 1 (.tmp 118), none⟩,
    ⟨(some 120), .buildSlice 1 1 [(.int .u8 0)] [(0, 1, (.tmp 119))], none⟩,
    ⟨(some 121), .append 1 1 (.tmp 115) (.tmp 120), none⟩,
    ⟨(some 10), .mov (.tmp 121), none⟩])
  (.ops [⟨(some 122), .mov (.tmp 10), none⟩,
    ⟨(some 123), .mov (.tmp 10), none⟩,
    ⟨(some 124), .mov (.tmp 10), none⟩,
    ⟨(some 125), .len 1 (.tmp 124), none⟩,
    ⟨(some 126), .mov (.tmp 15), none⟩,
    ⟨(some 127), .bin .sub (.tmp 125) (.tmp 126) (some (.int .i64)), none⟩,
    ⟨(some 128), .indexAddr 1 (.tmp 123) (.tmp 127), none⟩,
    ⟨(some 129), .load false 1 (.tmp 128), none⟩,
    ⟨(some 130), .buildSlice 1 1 [(.int .u8 0)] [(0, 1, (.tmp 129))], none⟩,
    ⟨(some 131), .append 1 1 (.tmp 122) (.tmp 130), none⟩,
    ⟨(some 10), .mov (.tmp 131), none⟩]))))
  (.ops [⟨(some 111), .mov (.tmp 16), none⟩,
    ⟨(some 112), .bin .add (.tmp 111) (.const (.int .i64 1)) (some (.int .i64)), none⟩,
    ⟨(some 16), .mov (.tmp 112), none⟩]))))))
  (.ops [⟨(some 132), .mov (.tmp 11), none⟩,
    ⟨(some 133), .mov (.tmp 14), none⟩,
    ⟨(some 134), .bin .add (.tmp 132) (.tmp 133) (some (.int .i64)), none⟩,
    ⟨(some 11), .mov (.tmp 134), none⟩]))))))))))))))))
  (.seq (.ops [⟨(some 135), .mov (.tmp 10), none⟩,
    ⟨(some 8), .mov (.tmp 135), none⟩,
    ⟨(some 9), .mov (.const (.int .i64 0)), none⟩])
  .ret)))))⟩
theorem F20_ok : compF Try.prog 20 = some F20 := by kernel_rfl

/-- colonnade/press.right -/
def F21 : FC := ⟨9, [.tmp 2],
  (.seq (.ops [⟨(some 2), .mov (.const (.bool false)), none⟩])
  (.seq (.ops [⟨(some 3), .mov (.tmp 0), none⟩,
    ⟨(some 4), .bin .geq (.tmp 3) (.const (.int .i64 0)) (some (.int .i64)), none⟩,
    ⟨(some 5), .mov (.tmp 4), none⟩,
    ⟨(some 6), .mov (.tmp 0), (some (5, true))⟩,
    ⟨(some 7), .bin .leq (.tmp 6) (.const (.int .i64 2)) (some (.int .i64)), (some (5, true))⟩,
    ⟨(some 8), .pick (.tmp 5) (.tmp 7) (.const (.bool false)), none⟩,
    ⟨(some 2), .mov (.tmp 8), none⟩])
  .ret))⟩
theorem F21_ok : compF Try.prog 21 = some F21 := by kernel_rfl

/-- colonnade/press.opened -/
def F22 : FC := ⟨120, [.tmp 8, .tmp 9],
  (.seq (.ops [⟨(some 8), .mov (.const (.slice none 0 0)), none⟩,
    ⟨(some 9), .mov (.const (.int .i64 0)), none⟩])
  (.seq (.seq (.ops [⟨(some 16), .mov (.tmp 0), none⟩,
    ⟨(some 17), .bin .eql (.tmp 16) (.const (.int .i64 0)) (some (.int .i64)), none⟩])
  (.cond (.tmp 17)
  (.seq (.seq (.ops [⟨(some 18), .mov (.tmp 1), none⟩,
    ⟨(some 19), .len 1 (.tmp 18), none⟩,
    ⟨(some 20), .mov (.tmp 2), none⟩,
    ⟨(some 21), .bin .gtr (.tmp 19) (.tmp 20) (some (.int .i64)), none⟩])
  (.cond (.tmp 21)
  (.seq (.ops [⟨(some 22), .mov (.tmp 3), none⟩,
    ⟨(some 8), .mov (.const (.slice none 0 0)), none⟩,
    ⟨(some 9), .mov (.tmp 22), none⟩])
  .ret)
  .skip))
  (.seq (.ops [⟨(some 23), .mov (.tmp 1), none⟩,
    ⟨(some 24), .append 1 1 (.const (.slice none 0 0)) (.tmp 23), none⟩,
    ⟨(some 8), .mov (.tmp 24), none⟩,
    ⟨(some 9), .mov (.const (.int .i64 0)), none⟩])
  .ret))
  .skip))
  (.seq (.ops [⟨(some 10), .mov (.const (.slice none 0 0)), none⟩])
  (.seq (.block 0 (.loop (.seq (.seq (.ops [⟨(some 25), .mov (.tmp 1), none⟩,
    ⟨(some 26), .len 1 (.tmp 25), none⟩,
    ⟨(some 27), .bin .gtr (.tmp 26) (.const (.int .i64 0)) (some (.int .i64)), none⟩])
  (.cond (.tmp 27)
  .skip
  (.exit 0)))
  (.block 1 (.seq (.ops [⟨(some 28), .mov (.tmp 1), none⟩,
    ⟨(some 29), .indexAddr 1 (.tmp 28) (.const (.int .i64 0)), none⟩,
    ⟨(some 30), .load false 1 (.tmp 29), none⟩,
    ⟨(some 31), .conv .i64 (.tmp 30), none⟩,
    ⟨(some 11), .mov (.tmp 31), none⟩])
  (.seq (.ops [⟨(some 12), .mov (.const (.int .i64 2)), none⟩])
  (.seq (.ops [⟨(some 32), .mov (.tmp 11), none⟩,
    ⟨(some 33), .bin .sub (.tmp 32) (.const (.int .i64 125)) (some (.int .i64)), none⟩,
    ⟨(some 13), .mov (.tmp 33), none⟩])
  (.seq (.block 2 (.seq (.ops [⟨(some 35), .mov (.tmp 11), none⟩,
    ⟨(some 36), .bin .lss (.tmp 35) (.const (.int .i64 128)) (some (.int .i64)), none⟩,
    ⟨(some 34), .mov (.tmp 36), none⟩])
  (.cond (.tmp 34)
  (.seq (.ops [⟨(some 37), .mov (.tmp 11), none⟩,
    ⟨(some 38), .bin .add (.tmp 37) (.const (.int .i64 1)) (some (.int .i64)), none⟩,
    ⟨(some 13), .mov (.tmp 38), none⟩])
  (.ops [⟨(some 39), .mov (.tmp 13), none⟩,
    ⟨(some 40), .bin .add (.const (.int .i64 1)) (.tmp 39) (some (.int .i64)), none⟩,
    ⟨(some 12), .mov (.tmp 40), none⟩]))
  (.seq (.ops [⟨(some 42), .mov (.tmp 0), none⟩,
    ⟨(some 43), .bin .eql (.tmp 42) (.const (.int .i64 2)) (some (.int .i64)), none⟩,
    ⟨(some 41), .mov (.tmp 43), none⟩])
  (.cond (.tmp 41)
  (.seq (.ops [⟨(some 44), .mov (.tmp 11), none⟩,
    ⟨(some 45), .bin .sub (.tmp 44) (.const (.int .i64 124)) (some (.int .i64)), none⟩,
    ⟨(some 13), .mov (.tmp 45), none⟩])
  (.ops [⟨(some 12), .mov (.const (.int .i64 3)), none⟩]))
  .skip)))))
  (.seq (.seq (.ops [⟨(some 46), .mov (.tmp 12), none⟩,
    ⟨(some 47), .mov (.tmp 1), none⟩,
    ⟨(some 48), .len 1 (.tmp 47), none⟩,
    ⟨(some 49), .bin .gtr (.tmp 46) (.tmp 48) (some (.int .i64)), none⟩])
  (.cond (.tmp 49)
  (.seq (.ops [⟨(some 8), .mov (.const (.slice none 0 0)), none⟩,
    ⟨(some 9), .mov (.const (.int .i64 60)), none⟩])
  .ret)
  .skip))
  (.seq (.ops [⟨(some 14), .mov (.const (.int .i64 0)), none⟩])
  (.seq (.seq (.ops [⟨(some 50), .mov (.tmp 11), none⟩,
    ⟨(some 51), .bin .geq (.tmp 50) (.const (.int .i64 128)) (some (.int .i64)), none⟩,
    ⟨(some 52), .mov (.tmp 51), none⟩,
    ⟨(some 53), .mov (.tmp 0), (some (52, true))⟩,
    ⟨(some 54), .bin .eql (.tmp 53) (.const (.int .i64 2)) (some (.int .i64)), (some (52, true))⟩,
    ⟨(some 55), .pick (.tmp 52) (.tmp 54) (.const (.bool false)), none⟩])
  (.cond (.tmp 55)
  (.ops [⟨(some 56), .mov (.tmp 10), none⟩,
    ⟨(some 57), .len 1 (.tmp 56), none⟩,
    ⟨(some 58), .bin .sub (.tmp 57) (.const (.int .i64 1)) (some (.int .i64)), none⟩,
    ⟨(some 59), .mov (.tmp 1), none⟩,
    ⟨(some 60), .indexAddr 1 (.tmp 59) (.const (.int .i64 1)), none⟩,
    ⟨(some 61), .load false 1 (.tmp 60), none⟩,
    ⟨(some 62), .conv .i64 (.tmp 61), none⟩,
    ⟨(some 63), .bin .sub (.tmp 58) (.tmp 62) (some (.int .i64)), none⟩,
    ⟨(some 64), .mov (.tmp 1), none⟩,
    ⟨(some 65), .indexAddr 1 (.tmp 64) (.const (.int .i64 2)), none⟩,
    ⟨(some 66), .load false 1 (.tmp 65), none⟩,
    ⟨(some 67), .conv .i64 (.tmp 66), none⟩,
    ⟨(some 68), .bin .mul (.const (.int .i64 256)) (.tmp 67) (some (.int .i64)), none⟩,
    ⟨(some 69), .bin .sub (.tmp 63) (.tmp 68) (some (.int .i64)), none⟩,
    ⟨(some 14), .mov (.tmp 69), none⟩])
  .skip))
  (.seq (.block 3 (.seq (.ops [⟨(some 81), .mov (.tmp 14), none⟩,
    ⟨(some 82), .bin .lss (.tmp 81) (.const (.int .i64 0)) (some (.int .i64)), none⟩,
    ⟨(some 80), .mov (.tmp 82), none⟩])
  (.cond (.tmp 80)
  (.seq (.ops [⟨(some 8), .mov (.const (.slice none 0 0)), none⟩,
    ⟨(some 9), .mov (.const (.int .i64 63)), none⟩])
  .ret)
  (.seq (.ops [⟨(some 84), .mov (.tmp 10), none⟩,
    ⟨(some 85), .len 1 (.tmp 84), none⟩,
    ⟨(some 86), .mov (.tmp 13), none⟩,
    ⟨(some 87), .bin .add (.tmp 85) (.tmp 86) (some (.int .i64)), none⟩,
    ⟨(some 88), .mov (.tmp 2), none⟩,
    ⟨(some 89), .bin .gtr (.tmp 87) (.tmp 88) (some (.int .i64)), none⟩,
    ⟨(some 83), .mov (.tmp 89), none⟩])
  (.cond (.tmp 83)
  (.seq (.ops [⟨(some 90), .mov (.tmp 3), none⟩,
    ⟨(some 8), .mov (.const (.slice none 0 0)), none⟩,
    ⟨(some 9), .mov (.tmp 90), none⟩])
  .ret)
  (.seq (.ops [⟨(some 92), .mov (.tmp 11), none⟩,
    ⟨(some 93), .bin .lss (.tmp 92) (.const (.int .i64 128)) (some (.int .i64)), none⟩,
    ⟨(some 91), .mov (.tmp 93), none⟩])
  (.cond (.tmp 91)
  (.ops [⟨(some 94), .mov (.tmp 10), none⟩,
    ⟨(some 95), .mov (.tmp 1), none⟩,
    ⟨(some 96), .mov (.tmp 12), none⟩,
    ⟨(some 97), .slice 1 (.tmp 95) (some (.const (.int .i64 1))) (some (.tmp 96)) none, none⟩,
    ⟨(some 98), .append 1 1 (.tmp 94) (.tmp 97), none⟩,
    ⟨(some 10), .mov (.tmp 98), none⟩])
  (.seq (.ops [⟨(some 100), .mov (.tmp 0), none⟩,
    ⟨(some 101), .bin .eql (.tmp 100) (.const (.int .i64 2)) (some (.int .i64)), none⟩,
    ⟨(some 99), .mov (.tmp 101), none⟩])
  (.cond (.tmp 99)
  (.seq (.ops [⟨(some 102), .mov (.tmp 13), none⟩,
    ⟨(some 103), .mov (.const (.int .i64 0)), none⟩])
  (.block 6 (.loop (.seq (.ops [⟨(some 104), .bin .lss (.tmp 103) (.tmp 102) (some (.int .i64)), none⟩])
  (.seq (.cond (.tmp 104)
  .skip
  (.exit 6))
  (.seq (.block 7 (.seq (.ops [⟨(some 105), .mov (.tmp 103), none⟩,
    ⟨(some 15), .mov (.tmp 105), none⟩])
  (.ops [⟨(some 106), .mov (.tmp 10), none⟩,
    ⟨(some 107), .mov (.tmp 10), none⟩,
    ⟨(some 108), .mov (.tmp 14), none⟩,
    ⟨(some 109), .mov (.tmp 15), none⟩,
    ⟨(some 110), .bin .add (.tmp 108) (.tmp 109) (some (.int .i64)), none⟩,
    ⟨(some 111), .indexAddr 1 (.tmp 107) (.tmp 110), none⟩,
    ⟨(some 112), .load false 1 (.tmp 111), none⟩,
    ⟨(some 113), .buildSlice 1 1 [(.int .u8 0)] [(0, 1, (.tmp 112))], none⟩,
    ⟨(some 114), .append 1 1 (.tmp 106) (.tmp 113), none⟩,
    ⟨(some 10), .mov (.tmp 114), none⟩])))
  (.ops [⟨(some 115), .bin .add (.tmp 103) (.const (.int .i64 1)) (some (.int .i64)), none⟩,
    ⟨(some 103), .mov (.tmp 115), none⟩])))))))
  (.seq (.ops [⟨(some 70), .mov (.tmp 13), none⟩,
    ⟨(some 71), .mov (.const (.int .i64 0)), none⟩])
  (.block 4 (.loop (.seq (.ops [⟨(some 72), .bin .lss (.tmp 71) (.tmp 70) (some (.int .i64)), none⟩])
  (.seq (.cond (.tmp 72)
  .skip
  (.exit 4))
  (.seq (.block 5 (.ops [⟨(some 73), .mov (.tmp 10), none⟩,
    ⟨(some 74), .mov (.tmp 1), none⟩,
    ⟨(some 75), .indexAddr 1 (.tmp 74) (.const (.int .i64 1)), none⟩,
    ⟨(some 76), .load false 1 (.tmp 75), none⟩,
    ⟨(some 77), .buildSlice 1 1 [(.int .u8 0)] [(0, 1, (.tmp 76))], none⟩,
    ⟨(some 78), .append 1 1 (.tmp 73) (.tmp 77), none⟩,
    ⟨(some 10), .mov (.tmp 78), none⟩]))
  (.ops [⟨(some 79), .bin .add (.tmp 71) (.const (.int .i64 1)) (some (.int .i64)), none⟩,
    ⟨(some 71), .mov (.tmp 79), none⟩]))))))))))))))))
  (.ops [⟨(some 116), .mov (.tmp 1), none⟩,
    ⟨(some 117), .mov (.tmp 12), none⟩,
    ⟨(some 118), .slice 1 (.tmp 116) (some (.tmp 117)) none none, none⟩,
    ⟨(some 1), .mov (.tmp 118), none⟩])))))))))))))
  (.seq (.ops [⟨(some 119), .mov (.tmp 10), none⟩,
    ⟨(some 8), .mov (.tmp 119), none⟩,
    ⟨(some 9), .mov (.const (.int .i64 0)), none⟩])
  .ret)))))⟩
theorem F22_ok : compF Try.prog 22 = some F22 := by kernel_rfl

/-- colonnade/press.packed -/
def F23 : FC := ⟨41, [.tmp 4],
  (.seq (.ops [⟨(some 2), .box (.tmp 0), none⟩,
    ⟨(some 4), .mov (.const (.slice none 0 0)), none⟩])
  (.seq (.ops [⟨(some 5), .alloc [(.slice none 0 0)], none⟩])
  (.seq (.ops [⟨(some 6), .alloc [(.int .i64 0)], none⟩,
    ⟨none, .store 1 (.tmp 6) (.const (.int .i64 0)), none⟩])
  (.seq (.ops [⟨(some 11), .mkFunc (.func 27) [] [(.tmp 6), (.tmp 5), (.tmp 2)], none⟩,
    ⟨(some 7), .mov (.tmp 11), none⟩])
  (.seq (.seq (.ops [⟨(some 8), .mov (.const (.int .i64 0)), none⟩])
  (.block 0 (.loop (.seq (.seq (.ops [⟨(some 12), .mov (.tmp 8), none⟩,
    ⟨(some 13), .load false 1 (.tmp 2), none⟩,
    ⟨(some 14), .len 1 (.tmp 13), none⟩,
    ⟨(some 15), .bin .lss (.tmp 12) (.tmp 14) (some (.int .i64)), none⟩])
  (.cond (.tmp 15)
  .skip
  (.exit 0)))
  (.block 1 (.seq (.ops [⟨(some 17), .mov (.tmp 1), none⟩,
    ⟨(some 18), .mov (.tmp 8), none⟩,
    ⟨(some 19), .invoke (.tmp 17) "colonnade/press.at" [(53, 48), (55, 49)] [(.tmp 18)], none⟩,
    ⟨(some 16), .mov (.tmp 19), none⟩,
    ⟨(some 20), .extract (.tmp 16) 0, none⟩,
    ⟨(some 21), .extract (.tmp 16) 1, none⟩,
    ⟨(some 9), .mov (.tmp 20), none⟩,
    ⟨(some 10), .mov (.tmp 21), none⟩])
  (.seq (.seq (.ops [⟨(some 22), .mov (.tmp 9), none⟩,
    ⟨(some 23), .bin .eql (.tmp 22) (.const (.int .i64 0)) (some (.int .i64)), none⟩])
  (.cond (.tmp 23)
  (.seq (.ops [⟨(some 24), .mov (.tmp 8), none⟩,
    ⟨(some 25), .bin .add (.tmp 24) (.const (.int .i64 1)) (some (.int .i64)), none⟩,
    ⟨(some 8), .mov (.tmp 25), none⟩])
  (.exit 1))
  .skip))
  (.seq (.ops [⟨(some 26), .mov (.tmp 7), none⟩,
    ⟨(some 27), .mov (.tmp 8), none⟩,
    ⟨(some 28), .callv (.tmp 26) [(.tmp 27)], none⟩])
  (.seq (.ops [⟨(some 29), .load false 1 (.tmp 5), none⟩,
    ⟨(some 30), .mov (.tmp 10), none⟩,
    ⟨(some 31), .append 1 1 (.tmp 29) (.tmp 30), none⟩,
    ⟨none, .store 1 (.tmp 5) (.tmp 31), none⟩])
  (.seq (.ops [⟨(some 32), .mov (.tmp 8), none⟩,
    ⟨(some 33), .mov (.tmp 9), none⟩,
    ⟨(some 34), .bin .add (.tmp 32) (.tmp 33) (some (.int .i64)), none⟩,
    ⟨(some 8), .mov (.tmp 34), none⟩])
  (.ops [⟨(some 35), .mov (.tmp 8), none⟩,
    ⟨none, .store 1 (.tmp 6) (.tmp 35), none⟩])))))))))))
  (.seq (.ops [⟨(some 36), .mov (.tmp 7), none⟩,
    ⟨(some 37), .load false 1 (.tmp 2), none⟩,
    ⟨(some 38), .len 1 (.tmp 37), none⟩,
    ⟨(some 39), .callv (.tmp 36) [(.tmp 38)], none⟩])
  (.seq (.ops [⟨(some 40), .load false 1 (.tmp 5), none⟩,
    ⟨(some 4), .mov (.tmp 40), none⟩])
  .ret)))))))⟩
theorem F23_ok : compF Try.prog 23 = some F23 := by kernel_rfl

/-- colonnade/press.meets -/
def F24 : FC := ⟨53, [.cell 2 true 2],
  (.seq (.ops [⟨(some 2), .alloc [(.slice none 0 0), (.slice none 0 0)], none⟩])
  (.seq (.ops [⟨(some 9), .mov (.tmp 0), none⟩,
    ⟨(some 10), .mov (.tmp 0), none⟩,
    ⟨(some 11), .len 1 (.tmp 10), none⟩,
    ⟨(some 12), .mkSlice 1 8 [(.int .i64 0)] (.tmp 11) (.tmp 11), none⟩,
    ⟨(some 13), .build [(.slice none 0 0), (.slice none 0 0)] [(0, 1, (.tmp 9)), (1, 1, (.tmp 12))], none⟩,
    ⟨(some 3), .alloc [(.slice none 0 0), (.slice none 0 0)], none⟩,
    ⟨none, .store 2 (.tmp 3) (.tmp 13), none⟩])
  (.seq (.ops [⟨(some 14), .mkMap, none⟩,
    ⟨(some 4), .mov (.tmp 14), none⟩])
  (.seq (.seq (.ops [⟨(some 15), .mov (.tmp 0), none⟩,
    ⟨(some 16), .len 1 (.tmp 15), none⟩,
    ⟨(some 17), .mov (.const (.int .i64 0)), none⟩])
  (.block 0 (.loop (.seq (.ops [⟨(some 18), .bin .lss (.tmp 17) (.tmp 16) (some (.int .i64)), none⟩])
  (.seq (.cond (.tmp 18)
  .skip
  (.exit 0))
  (.seq (.block 1 (.seq (.ops [⟨(some 19), .mov (.tmp 17), none⟩,
    ⟨(some 5), .mov (.tmp 19), none⟩])
  (.seq (.ops [⟨(some 20), .fieldAddr 1 (.tmp 3), none⟩,
    ⟨(some 21), .load false 1 (.tmp 20), none⟩,
    ⟨(some 22), .mov (.tmp 5), none⟩,
    ⟨(some 23), .indexAddr 1 (.tmp 21) (.tmp 22), none⟩,
    ⟨none, .store 1 (.tmp 23) (.const (.int .i64 (-1))), none⟩])
  (.seq (.seq (.ops [⟨(some 24), .mov (.tmp 5), none⟩,
    ⟨(some 25), .bin .add (.tmp 24) (.const (.int .i64 4)) (some (.int .i64)), none⟩,
    ⟨(some 26), .mov (.tmp 0), none⟩,
    ⟨(some 27), .len 1 (.tmp 26), none⟩,
    ⟨(some 28), .bin .gtr (.tmp 25) (.tmp 27) (some (.int .i64)), none⟩])
  (.cond (.tmp 28)
  (.exit 1)
  .skip))
  (.seq (.ops [⟨(some 29), .mov (.tmp 0), none⟩,
    ⟨(some 30), .mov (.tmp 5), none⟩,
    ⟨(some 31), .mov (.tmp 5), none⟩,
    ⟨(some 32), .bin .add (.tmp 31) (.const (.int .i64 4)) (some (.int .i64)), none⟩,
    ⟨(some 33), .slice 1 (.tmp 29) (some (.tmp 30)) (some (.tmp 32)) none, none⟩,
    ⟨(some 34), .s2a 4 (.tmp 33), none⟩,
    ⟨(some 35), .load true 4 (.tmp 34), none⟩,
    ⟨(some 6), .alloc [(.int .u8 0), (.int .u8 0), (.int .u8 0), (.int .u8 0)], none⟩,
    ⟨none, .store 4 (.tmp 6) (.tmp 35), none⟩])
  (.seq (.seq (.ops [⟨(some 37), .mov (.tmp 4), none⟩,
    ⟨(some 38), .load true 4 (.tmp 6), none⟩,
    ⟨(some 39), .lookup 6 [(.int .i64 0)] false true (.tmp 37) (.tmp 38), none⟩,
    ⟨(some 36), .mov (.tmp 39), none⟩,
    ⟨(some 40), .extract (.tmp 36) 0, none⟩,
    ⟨(some 41), .extract (.tmp 36) 1, none⟩,
    ⟨(some 7), .mov (.tmp 40), none⟩,
    ⟨(some 8), .mov (.tmp 41), none⟩])
  (.seq (.ops [⟨(some 42), .mov (.tmp 8), none⟩])
  (.cond (.tmp 42)
  (.ops [⟨(some 43), .fieldAddr 1 (.tmp 3), none⟩,
    ⟨(some 44), .load false 1 (.tmp 43), none⟩,
    ⟨(some 45), .mov (.tmp 5), none⟩,
    ⟨(some 46), .mov (.tmp 7), none⟩,
    ⟨(some 47), .indexAddr 1 (.tmp 44) (.tmp 45), none⟩,
    ⟨none, .store 1 (.tmp 47) (.tmp 46), none⟩])
  .skip)))
  (.ops [⟨(some 48), .mov (.tmp 4), none⟩,
    ⟨(some 49), .load true 4 (.tmp 6), none⟩,
    ⟨(some 50), .mov (.tmp 5), none⟩,
    ⟨none, .mapSet 6 (.tmp 48) (.tmp 49) (.tmp 50), none⟩])))))))
  (.ops [⟨(some 51), .bin .add (.tmp 17) (.const (.int .i64 1)) (some (.int .i64)), none⟩,
    ⟨(some 17), .mov (.tmp 51), none⟩])))))))
  (.seq (.ops [⟨(some 52), .load true 2 (.tmp 3), none⟩,
    ⟨none, .store 2 (.tmp 2) (.tmp 52), none⟩])
  .ret)))))⟩
theorem F24_ok : compF Try.prog 24 = some F24 := by kernel_rfl

/-- colonnade/colonnaderef06.packRuns -/
def F25 : FC := ⟨57, [.tmp 2],
  (.seq (.ops [⟨(some 2), .mov (.const (.slice none 0 0)), none⟩])
  (.seq (.ops [⟨(some 7), .buildSlice 1 0 [] [], none⟩,
    ⟨(some 3), .mov (.tmp 7), none⟩])
  (.seq (.seq (.ops [⟨(some 4), .mov (.const (.int .i64 0)), none⟩])
  (.block 0 (.loop (.seq (.seq (.ops [⟨(some 8), .mov (.tmp 4), none⟩,
    ⟨(some 9), .mov (.tmp 0), none⟩,
    ⟨(some 10), .len 1 (.tmp 9), none⟩,
    ⟨(some 11), .bin .lss (.tmp 8) (.tmp 10) (some (.int .i64)), none⟩])
  (.cond (.tmp 11)
  .skip
  (.exit 0)))
  (.block 1 (.seq (.ops [⟨(some 12), .mov (.tmp 0), none⟩,
    ⟨(some 13), .mov (.tmp 4), none⟩,
    ⟨(some 14), .call 28 [(.tmp 12), (.tmp 13)], none⟩,
    ⟨(some 5), .mov (.tmp 14), none⟩])
  (.seq (.seq (.ops [⟨(some 15), .mov (.tmp 5), none⟩,
    ⟨(some 16), .bin .geq (.tmp 15) (.const (.int .i64 3)) (some (.int .i64)), none⟩])
  (.cond (.tmp 16)
  (.seq (.ops [⟨(some 17), .mov (.tmp 3), none⟩,
    ⟨(some 18), .mov (.tmp 5), none⟩,
    ⟨(some 19), .bin .add (.tmp 18) (.const (.int .i64 125)) (some (.int .i64)), none⟩,
    ⟨(some 20), .conv .u8 (.tmp 19), none⟩,
    ⟨(some 21), .mov (.tmp 0), none⟩,
    ⟨(some 22), .mov (.tmp 4), none⟩,
    ⟨(some 23), .indexAddr 1 (.tmp 21) (.tmp 22), none⟩,
    ⟨(some 24), .load false 1 (.tmp 23), none⟩,
    ⟨(some 25), .buildSlice 1 2 [(.int .u8 0), (.int .u8 0)] [(0, 1, (.tmp 20)), (1, 1, (.tmp 24))], none⟩,
    ⟨(some 26), .append 1 1 (.tmp 17) (.tmp 25), none⟩,
    ⟨(some 3), .mov (.tmp 26), none⟩])
  (.seq (.ops [⟨(some 27), .mov (.tmp 4), none⟩,
    ⟨(some 28), .mov (.tmp 5), none⟩,
    ⟨(some 29), .bin .add (.tmp 27) (.tmp 28) (some (.int .i64)), none⟩,
    ⟨(some 4), .mov (.tmp 29), none⟩])
  (.exit 1)))
  .skip))
  (.seq (.ops [⟨(some 30), .mov (.tmp 4), none⟩,
    ⟨(some 6), .mov (.tmp 30), none⟩])
  (.seq (.block 2 (.loop (.seq (.seq (.ops [⟨(some 31), .mov (.tmp 6), none⟩,
    ⟨(some 32), .mov (.tmp 0), none⟩,
    ⟨(some 33), .len 1 (.tmp 32), none⟩,
    ⟨(some 34), .bin .lss (.tmp 31) (.tmp 33) (some (.int .i64)), none⟩,
    ⟨(some 35), .mov (.tmp 34), none⟩,
    ⟨(some 36), .mov (.tmp 6), (some (35, true))⟩,
    ⟨(some 37), .mov (.tmp 4), (some (35, true))⟩,
    ⟨(some 38), .bin .sub (.tmp 36) (.tmp 37) (some (.int .i64)), (some (35, true))⟩,
    ⟨(some 39), .bin .lss (.tmp 38) (.const (.int .i64 128)) (some (.int .i64)), (some (35, true))⟩,
    ⟨(some 40), .pick (.tmp 35) (.tmp 39) (.const (.bool false)), none⟩,
    ⟨(some 41), .mov (.tmp 40), none⟩,
    ⟨(some 42), .mov (.tmp 0), (some (41, true))⟩,
    ⟨(some 43), .mov (.tmp 6), (some (41, true))⟩,
    ⟨(some 44), .call 28 [(.tmp 42), (.tmp 43)], (some (41, true))⟩,
    ⟨(some 45), .bin .lss (.tmp 44) (.const (.int .i64 3)) (some (.int .i64)), (some (41, true))⟩,
    ⟨(some 46), .pick (.tmp 41) (.tmp 45) (.const (.bool false)), none⟩])
  (.cond (.tmp 46)
  .skip
  (.exit 2)))
  (.block 3 (.ops [⟨(some 47), .mov (.tmp 6), none⟩,
    ⟨(some 48), .bin .add (.tmp 47) (.const (.int .i64 1)) (some (.int .i64)), none⟩,
    ⟨(some 6), .mov (.tmp 48), none⟩])))))
  (.seq (.ops [⟨(some 49), .mov (.tmp 3), none⟩,
    ⟨(some 50), .mov (.tmp 0), none⟩,
    ⟨(some 51), .mov (.tmp 4), none⟩,
    ⟨(some 52), .mov (.tmp 6), none⟩,
    ⟨(some 53), .slice 1 (.tmp 50) (some (.tmp 51)) (some (.tmp 52)) none, none⟩,
    ⟨(some 54), .call 29 [(.tmp 49), (.tmp 53)], none⟩,
    ⟨(some 3), .mov (.tmp 54), none⟩])
  (.ops [⟨(some 55), .mov (.tmp 6), none⟩,
    ⟨(some 4), .mov (.tmp 55), none⟩])))))))))))
  (.seq (.ops [⟨(some 56), .mov (.tmp 3), none⟩,
    ⟨(some 2), .mov (.tmp 56), none⟩])
  .ret))))⟩
theorem F25_ok : compF Try.prog 25 = some F25 := by kernel_rfl

/-- colonnade/colonnaderef06.packBack -/
def F26 : FC := ⟨100, [.tmp 2],
  (.seq (.ops [⟨(some 2), .mov (.const (.slice none 0 0)), none⟩])
  (.seq (.ops [⟨(some 9), .buildSlice 1 0 [] [], none⟩,
    ⟨(some 3), .mov (.tmp 9), none⟩])
  (.seq (.ops [⟨(some 10), .mov (.tmp 0), none⟩,
    ⟨(some 11), .call 30 [(.tmp 10)], none⟩,
    ⟨(some 4), .mov (.tmp 11), none⟩])
  (.seq (.seq (.ops [⟨(some 5), .mov (.const (.int .i64 0)), none⟩])
  (.block 0 (.loop (.seq (.seq (.ops [⟨(some 12), .mov (.tmp 5), none⟩,
    ⟨(some 13), .mov (.tmp 0), none⟩,
    ⟨(some 14), .len 1 (.tmp 13), none⟩,
    ⟨(some 15), .bin .lss (.tmp 12) (.tmp 14) (some (.int .i64)), none⟩])
  (.cond (.tmp 15)
  .skip
  (.exit 0)))
  (.block 1 (.seq (.seq (.ops [⟨(some 16), .mov (.tmp 4), none⟩,
    ⟨(some 17), .mov (.tmp 5), none⟩,
    ⟨(some 18), .indexAddr 1 (.tmp 16) (.tmp 17), none⟩,
    ⟨(some 19), .load false 1 (.tmp 18), none⟩,
    ⟨(some 20), .bin .geq (.tmp 19) (.const (.int .i64 0)) (some (.int .i64)), none⟩])
  (.cond (.tmp 20)
  (.seq (.ops [⟨(some 6), .mov (.const (.int .i64 0)), none⟩])
  (.seq (.block 2 (.loop (.seq (.seq (.ops [⟨(some 21), .mov (.tmp 5), none⟩,
    ⟨(some 22), .mov (.tmp 6), none⟩,
    ⟨(some 23), .bin .add (.tmp 21) (.tmp 22) (some (.int .i64)), none⟩,
    ⟨(some 24), .mov (.tmp 0), none⟩,
    ⟨(some 25), .len 1 (.tmp 24), none⟩,
    ⟨(some 26), .bin .lss (.tmp 23) (.tmp 25) (some (.int .i64)), none⟩,
    ⟨(some 27), .mov (.tmp 26), none⟩,
    ⟨(some 28), .mov (.tmp 6), (some (27, true))⟩,
    ⟨(some 29), .bin .lss (.tmp 28) (.const (.int .i64 131)) (some (.int .i64)), (some (27, true))⟩,
    ⟨(some 30), .pick (.tmp 27) (.tmp 29) (.const (.bool false)), none⟩,
    ⟨(some 31), .mov (.tmp 30), none⟩,
    ⟨(some 32), .mov (.tmp 0), (some (31, true))⟩,
    ⟨(some 33), .mov (.tmp 4), (some (31, true))⟩,
    ⟨(some 34), .mov (.tmp 5), (some (31, true))⟩,
    ⟨(some 35), .indexAddr 1 (.tmp 33) (.tmp 34), (some (31, true))⟩,
    ⟨(some 36), .load false 1 (.tmp 35), (some (31, true))⟩,
    ⟨(some 37), .mov (.tmp 6), (some (31, true))⟩,
    ⟨(some 38), .bin .add (.tmp 36) (.tmp 37) (some (.int .i64)), (some (31, true))⟩,
    ⟨(some 39), .indexAddr 1 (.tmp 32) (.tmp 38), (some (31, true))⟩,
    ⟨(some 40), .load false 1 (.tmp 39), (some (31, true))⟩,
    ⟨(some 41), .mov (.tmp 0), (some (31, true))⟩,
    ⟨(some 42), .mov (.tmp 5), (some (31, true))⟩,
    ⟨(some 43), .mov (.tmp 6), (some (31, true))⟩,
    ⟨(some 44), .bin .add (.tmp 42) (.tmp 43) (some (.int .i64)), (some (31, true))⟩,
    ⟨(some 45), .indexAddr 1 (.tmp 41) (.tmp 44), (some (31, true))⟩,
    ⟨(some 46), .load false 1 (.tmp 45), (some (31, true))⟩,
    ⟨(some 47), .bin .eql (.tmp 40) (.tmp 46) (some (.int .u8)), (some (31, true))⟩,
    ⟨(some 48), .pick (.tmp 31) (.tmp 47) (.const (.bool false)), none⟩])
  (.cond (.tmp 48)
  .skip
  (.exit 2)))
  (.block 3 (.ops [⟨(some 49), .mov (.tmp 6), none⟩,
    ⟨(some 50), .bin .add (.tmp 49) (.const (.int .i64 1)) (some (.int .i64)), none⟩,
    ⟨(some 6), .mov (.tmp 50), none⟩])))))
  (.seq (.ops [⟨(some 51), .mov (.tmp 5), none⟩,
    ⟨(some 52), .mov (.tmp 4), none⟩,
    ⟨(some 53), .mov (.tmp 5), none⟩,
    ⟨(some 54), .indexAddr 1 (.tmp 52) (.tmp 53), none⟩,
    ⟨(some 55), .load false 1 (.tmp 54), none⟩,
    ⟨(some 56), .bin .sub (.tmp 51) (.tmp 55) (some (.int .i64)), none⟩,
    ⟨(some 57), .bin .sub (.tmp 56) (.const (.int .i64 1)) (some (.int .i64)), none⟩,
    ⟨(some 7), .mov (.tmp 57), none⟩])
  (.seq (.ops [⟨(some 58), .mov (.tmp 3), none⟩,
    ⟨(some 59), .mov (.tmp 6), none⟩,
    ⟨(some 60), .bin .add (.tmp 59) (.const (.int .i64 124)) (some (.int .i64)), none⟩,
    ⟨(some 61), .conv .u8 (.tmp 60), none⟩,
    ⟨(some 62), .mov (.tmp 7), none⟩,
    ⟨(some 63), .conv .u8 (.tmp 62), none⟩,
    ⟨(some 64), .mov (.tmp 7), none⟩,
    ⟨(some 65), .bin .shr (.tmp 64) (.const (.int .u64 8)) (some (.int .i64)), none⟩,
    ⟨(some 66), .conv .u8 (.tmp 65), none⟩,
    ⟨(some 67), .buildSlice 1 3 [(.int .u8 0), (.int .u8 0), (.int .u8 0)] [(0, 1, (.tmp 61)), (1, 1, (.tmp 63)), (2, 1, (.tmp 66))], none⟩,
    ⟨(some 68), .append 1 1 (.tmp 58) (.tmp 67), none⟩,
    ⟨(some 3), .mov (.tmp 68), none⟩])
  (.seq (.ops [⟨(some 69), .mov (.tmp 5), none⟩,
    ⟨(some 70), .mov (.tmp 6), none⟩,
    ⟨(some 71), .bin .add (.tmp 69) (.tmp 70) (some (.int .i64)), none⟩,
    ⟨(some 5), .mov (.tmp 71), none⟩])
  (.exit 1))))))
  .skip))
  (.seq (.ops [⟨(some 72), .mov (.tmp 5), none⟩,
    ⟨(some 8), .mov (.tmp 72), none⟩])
  (.seq (.block 4 (.loop (.seq (.seq (.ops [⟨(some 73), .mov (.tmp 8), none⟩,
    ⟨(some 74), .mov (.tmp 0), none⟩,
    ⟨(some 75), .len 1 (.tmp 74), none⟩,
    ⟨(some 76), .bin .lss (.tmp 73) (.tmp 75) (some (.int .i64)), none⟩,
    ⟨(some 77), .mov (.tmp 76), none⟩,
    ⟨(some 78), .mov (.tmp 8), (some (77, true))⟩,
    ⟨(some 79), .mov (.tmp 5), (some (77, true))⟩,
    ⟨(some 80), .bin .sub (.tmp 78) (.tmp 79) (some (.int .i64)), (some (77, true))⟩,
    ⟨(some 81), .bin .lss (.tmp 80) (.const (.int .i64 128)) (some (.int .i64)), (some (77, true))⟩,
    ⟨(some 82), .pick (.tmp 77) (.tmp 81) (.const (.bool false)), none⟩,
    ⟨(some 83), .mov (.tmp 82), none⟩,
    ⟨(some 84), .mov (.tmp 4), (some (83, true))⟩,
    ⟨(some 85), .mov (.tmp 8), (some (83, true))⟩,
    ⟨(some 86), .indexAddr 1 (.tmp 84) (.tmp 85), (some (83, true))⟩,
    ⟨(some 87), .load false 1 (.tmp 86), (some (83, true))⟩,
    ⟨(some 88), .bin .lss (.tmp 87) (.const (.int .i64 0)) (some (.int .i64)), (some (83, true))⟩,
    ⟨(some 89), .pick (.tmp 83) (.tmp 88) (.const (.bool false)), none⟩])
  (.cond (.tmp 89)
  .skip
  (.exit 4)))
  (.block 5 (.ops [⟨(some 90), .mov (.tmp 8), none⟩,
    ⟨(some 91), .bin .add (.tmp 90) (.const (.int .i64 1)) (some (.int .i64)), none⟩,
    ⟨(some 8), .mov (.tmp 91), none⟩])))))
  (.seq (.ops [⟨(some 92), .mov (.tmp 3), none⟩,
    ⟨(some 93), .mov (.tmp 0), none⟩,
    ⟨(some 94), .mov (.tmp 5), none⟩,
    ⟨(some 95), .mov (.tmp 8), none⟩,
    ⟨(some 96), .slice 1 (.tmp 93) (some (.tmp 94)) (some (.tmp 95)) none, none⟩,
    ⟨(some 97), .call 29 [(.tmp 92), (.tmp 96)], none⟩,
    ⟨(some 3), .mov (.tmp 97), none⟩])
  (.ops [⟨(some 98), .mov (.tmp 8), none⟩,
    ⟨(some 5), .mov (.tmp 98), none⟩]))))))))))
  (.seq (.ops [⟨(some 99), .mov (.tmp 3), none⟩,
    ⟨(some 2), .mov (.tmp 99), none⟩])
  .ret)))))⟩
theorem F26_ok : compF Try.prog 26 = some F26 := by kernel_rfl

/-- colonnade/press.packed$1 -/
def F27 : FC := ⟨30, [],
  (.block 0 (.loop (.seq (.seq (.ops [⟨(some 6), .load false 1 (.tmp 1), none⟩,
    ⟨(some 7), .mov (.tmp 0), none⟩,
    ⟨(some 8), .bin .lss (.tmp 6) (.tmp 7) (some (.int .i64)), none⟩])
  (.cond (.tmp 8)
  .skip
  (.exit 0)))
  (.block 1 (.seq (.ops [⟨(some 9), .mov (.tmp 0), none⟩,
    ⟨(some 10), .load false 1 (.tmp 1), none⟩,
    ⟨(some 11), .bin .sub (.tmp 9) (.tmp 10) (some (.int .i64)), none⟩,
    ⟨(some 12), .minmax false (.tmp 11) [(.const (.int .i64 128))], none⟩,
    ⟨(some 5), .mov (.tmp 12), none⟩])
  (.seq (.ops [⟨(some 13), .load false 1 (.tmp 2), none⟩,
    ⟨(some 14), .mov (.tmp 5), none⟩,
    ⟨(some 15), .bin .sub (.tmp 14) (.const (.int .i64 1)) (some (.int .i64)), none⟩,
    ⟨(some 16), .conv .u8 (.tmp 15), none⟩,
    ⟨(some 17), .buildSlice 1 1 [(.int .u8 0)] [(0, 1, (.tmp 16))], none⟩,
    ⟨(some 18), .append 1 1 (.tmp 13) (.tmp 17), none⟩,
    ⟨none, .store 1 (.tmp 2) (.tmp 18), none⟩])
  (.seq (.ops [⟨(some 19), .load false 1 (.tmp 2), none⟩,
    ⟨(some 20), .load false 1 (.tmp 3), none⟩,
    ⟨(some 21), .load false 1 (.tmp 1), none⟩,
    ⟨(some 22), .load false 1 (.tmp 1), none⟩,
    ⟨(some 23), .mov (.tmp 5), none⟩,
    ⟨(some 24), .bin .add (.tmp 22) (.tmp 23) (some (.int .i64)), none⟩,
    ⟨(some 25), .slice 1 (.tmp 20) (some (.tmp 21)) (some (.tmp 24)) none, none⟩,
    ⟨(some 26), .append 1 1 (.tmp 19) (.tmp 25), none⟩,
    ⟨none, .store 1 (.tmp 2) (.tmp 26), none⟩])
  (.ops [⟨(some 27), .load false 1 (.tmp 1), none⟩,
    ⟨(some 28), .mov (.tmp 5), none⟩,
    ⟨(some 29), .bin .add (.tmp 27) (.tmp 28) (some (.int .i64)), none⟩,
    ⟨none, .store 1 (.tmp 1) (.tmp 29), none⟩]))))))))⟩
theorem F27_ok : compF Try.prog 27 = some F27 := by kernel_rfl

/-- colonnade/colonnaderef06.run -/
def F28 : FC := ⟨32, [.tmp 4],
  (.seq (.ops [⟨(some 4), .mov (.const (.int .i64 0)), none⟩])
  (.seq (.ops [⟨(some 5), .mov (.const (.int .i64 0)), none⟩])
  (.seq (.block 0 (.loop (.seq (.seq (.ops [⟨(some 6), .mov (.tmp 1), none⟩,
    ⟨(some 7), .mov (.tmp 5), none⟩,
    ⟨(some 8), .bin .add (.tmp 6) (.tmp 7) (some (.int .i64)), none⟩,
    ⟨(some 9), .mov (.tmp 0), none⟩,
    ⟨(some 10), .len 1 (.tmp 9), none⟩,
    ⟨(some 11), .bin .lss (.tmp 8) (.tmp 10) (some (.int .i64)), none⟩,
    ⟨(some 12), .mov (.tmp 11), none⟩,
    ⟨(some 13), .mov (.tmp 0), (some (12, true))⟩,
    ⟨(some 14), .mov (.tmp 1), (some (12, true))⟩,
    ⟨(some 15), .mov (.tmp 5), (some (12, true))⟩,
    ⟨(some 16), .bin .add (.tmp 14) (.tmp 15) (some (.int .i64)), (some (12, true))⟩,
    ⟨(some 17), .indexAddr 1 (.tmp 13) (.tmp 16), (some (12, true))⟩,
    ⟨(some 18), .load false 1 (.tmp 17), (some (12, true))⟩,
    ⟨(some 19), .mov (.tmp 0), (some (12, true))⟩,
    ⟨(some 20), .mov (.tmp 1), (some (12, true))⟩,
    ⟨(some 21), .indexAddr 1 (.tmp 19) (.tmp 20), (some (12, true))⟩,
    ⟨(some 22), .load false 1 (.tmp 21), (some (12, true))⟩,
    ⟨(some 23), .bin .eql (.tmp 18) (.tmp 22) (some (.int .u8)), (some (12, true))⟩,
    ⟨(some 24), .pick (.tmp 12) (.tmp 23) (.const (.bool false)), none⟩,
    ⟨(some 25), .mov (.tmp 24), none⟩,
    ⟨(some 26), .mov (.tmp 5), (some (25, true))⟩,
    ⟨(some 27), .bin .lss (.tmp 26) (.const (.int .i64 130)) (some (.int .i64)), (some (25, true))⟩,
    ⟨(some 28), .pick (.tmp 25) (.tmp 27) (.const (.bool false)), none⟩])
  (.cond (.tmp 28)
  .skip
  (.exit 0)))
  (.block 1 (.ops [⟨(some 29), .mov (.tmp 5), none⟩,
    ⟨(some 30), .bin .add (.tmp 29) (.const (.int .i64 1)) (some (.int .i64)), none⟩,
    ⟨(some 5), .mov (.tmp 30), none⟩])))))
  (.seq (.ops [⟨(some 31), .mov (.tmp 5), none⟩,
    ⟨(some 4), .mov (.tmp 31), none⟩])
  .ret))))⟩
theorem F28_ok : compF Try.prog 28 = some F28 := by kernel_rfl

/-- colonnade/colonnaderef06.literal -/
def F29 : FC := ⟨15, [.tmp 4],
  (.seq (.ops [⟨(some 4), .mov (.const (.slice none 0 0)), none⟩])
  (.seq (.ops [⟨(some 5), .mov (.tmp 0), none⟩,
    ⟨(some 6), .mov (.tmp 1), none⟩,
    ⟨(some 7), .len 1 (.tmp 6), none⟩,
    ⟨(some 8), .bin .sub (.tmp 7) (.const (.int .i64 1)) (some (.int .i64)), none⟩,
    ⟨(some 9), .conv .u8 (.tmp 8), none⟩,
    ⟨(some 10), .buildSlice 1 1 [(.int .u8 0)] [(0, 1, (.tmp 9))], none⟩,
    ⟨(some 11), .append 1 1 (.tmp 5) (.tmp 10), none⟩,
    ⟨(some 0), .mov (.tmp 11), none⟩])
  (.seq (.ops [⟨(some 12), .mov (.tmp 0), none⟩,
    ⟨(some 13), .mov (.tmp 1), none⟩,
    ⟨(some 14), .append 1 1 (.tmp 12) (.tmp 13), none⟩,
    ⟨(some 4), .mov (.tmp 14), none⟩])
  .ret)))⟩
theorem F29_ok : compF Try.prog 29 = some F29 := by kernel_rfl

/-- colonnade/colonnaderef06.metAt -/
def F30 : FC := ⟨74, [.tmp 2],
  (.seq (.ops [⟨(some 2), .mov (.const (.slice none 0 0)), none⟩])
  (.seq (.ops [⟨(some 11), .mkSlice 1 8 [(.int .i64 0)] (.const (.int .i64 4093)) (.const (.int .i64 4093)), none⟩,
    ⟨(some 3), .mov (.tmp 11), none⟩])
  (.seq (.seq (.ops [⟨(some 12), .mov (.tmp 3), none⟩,
    ⟨(some 13), .len 1 (.tmp 12), none⟩,
    ⟨(some 14), .mov (.const (.int .i64 0)), none⟩])
  (.block 0 (.loop (.seq (.ops [⟨(some 15), .bin .lss (.tmp 14) (.tmp 13) (some (.int .i64)), none⟩])
  (.seq (.cond (.tmp 15)
  .skip
  (.exit 0))
  (.seq (.block 1 (.seq (.ops [⟨(some 16), .mov (.tmp 14), none⟩,
    ⟨(some 4), .mov (.tmp 16), none⟩])
  (.ops [⟨(some 17), .mov (.tmp 3), none⟩,
    ⟨(some 18), .mov (.tmp 4), none⟩,
    ⟨(some 19), .indexAddr 1 (.tmp 17) (.tmp 18), none⟩,
    ⟨none, .store 1 (.tmp 19) (.const (.int .i64 (-1))), none⟩])))
  (.ops [⟨(some 20), .bin .add (.tmp 14) (.const (.int .i64 1)) (some (.int .i64)), none⟩,
    ⟨(some 14), .mov (.tmp 20), none⟩])))))))
  (.seq (.ops [⟨(some 21), .mov (.tmp 0), none⟩,
    ⟨(some 22), .len 1 (.tmp 21), none⟩,
    ⟨(some 23), .mkSlice 1 8 [(.int .i64 0)] (.tmp 22) (.tmp 22), none⟩,
    ⟨(some 5), .mov (.tmp 23), none⟩])
  (.seq (.ops [⟨(some 24), .mov (.tmp 0), none⟩,
    ⟨(some 25), .len 1 (.tmp 24), none⟩,
    ⟨(some 26), .mkSlice 1 8 [(.int .i64 0)] (.tmp 25) (.tmp 25), none⟩,
    ⟨(some 6), .mov (.tmp 26), none⟩])
  (.seq (.seq (.ops [⟨(some 27), .mov (.tmp 0), none⟩,
    ⟨(some 28), .len 1 (.tmp 27), none⟩,
    ⟨(some 29), .mov (.const (.int .i64 0)), none⟩])
  (.block 2 (.loop (.seq (.ops [⟨(some 30), .bin .lss (.tmp 29) (.tmp 28) (some (.int .i64)), none⟩])
  (.seq (.cond (.tmp 30)
  .skip
  (.exit 2))
  (.seq (.block 3 (.seq (.ops [⟨(some 31), .mov (.tmp 29), none⟩,
    ⟨(some 7), .mov (.tmp 31), none⟩])
  (.seq (.ops [⟨(some 32), .mov (.tmp 6), none⟩,
    ⟨(some 33), .mov (.tmp 7), none⟩,
    ⟨(some 34), .indexAddr 1 (.tmp 32) (.tmp 33), none⟩,
    ⟨none, .store 1 (.tmp 34) (.const (.int .i64 (-1))), none⟩])
  (.seq (.ops [⟨(some 35), .mov (.tmp 0), none⟩,
    ⟨(some 36), .mov (.tmp 7), none⟩,
    ⟨(some 37), .call 31 [(.tmp 35), (.tmp 36)], none⟩,
    ⟨(some 8), .mov (.tmp 37), none⟩])
  (.seq (.seq (.ops [⟨(some 38), .mov (.tmp 8), none⟩,
    ⟨(some 39), .bin .lss (.tmp 38) (.const (.int .i64 0)) (some (.int .i64)), none⟩])
  (.cond (.tmp 39)
  (.exit 3)
  .skip))
  (.seq (.ops [⟨(some 40), .mov (.tmp 8), none⟩,
    ⟨(some 41), .bin .rem (.tmp 40) (.const (.int .i64 4093)) (some (.int .i64)), none⟩,
    ⟨(some 9), .mov (.tmp 41), none⟩])
  (.seq (.seq (.ops [⟨(some 42), .mov (.tmp 3), none⟩,
    ⟨(some 43), .mov (.tmp 9), none⟩,
    ⟨(some 44), .indexAddr 1 (.tmp 42) (.tmp 43), none⟩,
    ⟨(some 45), .load false 1 (.tmp 44), none⟩,
    ⟨(some 10), .mov (.tmp 45), none⟩])
  (.block 4 (.loop (.seq (.seq (.ops [⟨(some 46), .mov (.tmp 10), none⟩,
    ⟨(some 47), .bin .geq (.tmp 46) (.const (.int .i64 0)) (some (.int .i64)), none⟩])
  (.cond (.tmp 47)
  .skip
  (.exit 4)))
  (.seq (.block 5 (.seq (.ops [⟨(some 52), .mov (.tmp 0), none⟩,
    ⟨(some 53), .mov (.tmp 10), none⟩,
    ⟨(some 54), .call 31 [(.tmp 52), (.tmp 53)], none⟩,
    ⟨(some 55), .mov (.tmp 8), none⟩,
    ⟨(some 56), .bin .eql (.tmp 54) (.tmp 55) (some (.int .i64)), none⟩])
  (.cond (.tmp 56)
  (.seq (.ops [⟨(some 57), .mov (.tmp 6), none⟩,
    ⟨(some 58), .mov (.tmp 7), none⟩,
    ⟨(some 59), .mov (.tmp 10), none⟩,
    ⟨(some 60), .indexAddr 1 (.tmp 57) (.tmp 58), none⟩,
    ⟨none, .store 1 (.tmp 60) (.tmp 59), none⟩])
  (.exit 4))
  .skip)))
  (.ops [⟨(some 48), .mov (.tmp 5), none⟩,
    ⟨(some 49), .mov (.tmp 10), none⟩,
    ⟨(some 50), .indexAddr 1 (.tmp 48) (.tmp 49), none⟩,
    ⟨(some 51), .load false 1 (.tmp 50), none⟩,
    ⟨(some 10), .mov (.tmp 51), none⟩]))))))
  (.seq (.ops [⟨(some 61), .mov (.tmp 5), none⟩,
    ⟨(some 62), .mov (.tmp 7), none⟩,
    ⟨(some 63), .mov (.tmp 3), none⟩,
    ⟨(some 64), .mov (.tmp 9), none⟩,
    ⟨(some 65), .indexAddr 1 (.tmp 63) (.tmp 64), none⟩,
    ⟨(some 66), .load false 1 (.tmp 65), none⟩,
    ⟨(some 67), .indexAddr 1 (.tmp 61) (.tmp 62), none⟩,
    ⟨none, .store 1 (.tmp 67) (.tmp 66), none⟩])
  (.ops [⟨(some 68), .mov (.tmp 3), none⟩,
    ⟨(some 69), .mov (.tmp 9), none⟩,
    ⟨(some 70), .mov (.tmp 7), none⟩,
    ⟨(some 71), .indexAddr 1 (.tmp 68) (.tmp 69), none⟩,
    ⟨none, .store 1 (.tmp 71) (.tmp 70), none⟩])))))))))
  (.ops [⟨(some 72), .bin .add (.tmp 29) (.const (.int .i64 1)) (some (.int .i64)), none⟩,
    ⟨(some 29), .mov (.tmp 72), none⟩])))))))
  (.seq (.ops [⟨(some 73), .mov (.tmp 6), none⟩,
    ⟨(some 2), .mov (.tmp 73), none⟩])
  .ret)))))))⟩
theorem F30_ok : compF Try.prog 30 = some F30 := by kernel_rfl

/-- colonnade/colonnaderef06.word -/
def F31 : FC := ⟨39, [.tmp 4],
  (.seq (.ops [⟨(some 4), .mov (.const (.int .i64 0)), none⟩])
  (.seq (.seq (.ops [⟨(some 5), .mov (.tmp 1), none⟩,
    ⟨(some 6), .bin .add (.tmp 5) (.const (.int .i64 4)) (some (.int .i64)), none⟩,
    ⟨(some 7), .mov (.tmp 0), none⟩,
    ⟨(some 8), .len 1 (.tmp 7), none⟩,
    ⟨(some 9), .bin .gtr (.tmp 6) (.tmp 8) (some (.int .i64)), none⟩])
  (.cond (.tmp 9)
  (.seq (.ops [⟨(some 4), .mov (.const (.int .i64 (-1))), none⟩])
  .ret)
  .skip))
  (.seq (.ops [⟨(some 10), .mov (.tmp 0), none⟩,
    ⟨(some 11), .mov (.tmp 1), none⟩,
    ⟨(some 12), .indexAddr 1 (.tmp 10) (.tmp 11), none⟩,
    ⟨(some 13), .load false 1 (.tmp 12), none⟩,
    ⟨(some 14), .conv .i64 (.tmp 13), none⟩,
    ⟨(some 15), .mov (.tmp 0), none⟩,
    ⟨(some 16), .mov (.tmp 1), none⟩,
    ⟨(some 17), .bin .add (.tmp 16) (.const (.int .i64 1)) (some (.int .i64)), none⟩,
    ⟨(some 18), .indexAddr 1 (.tmp 15) (.tmp 17), none⟩,
    ⟨(some 19), .load false 1 (.tmp 18), none⟩,
    ⟨(some 20), .conv .i64 (.tmp 19), none⟩,
    ⟨(some 21), .bin .shl (.tmp 20) (.const (.int .u64 8)) (some (.int .i64)), none⟩,
    ⟨(some 22), .bin .or (.tmp 14) (.tmp 21) (some (.int .i64)), none⟩,
    ⟨(some 23), .mov (.tmp 0), none⟩,
    ⟨(some 24), .mov (.tmp 1), none⟩,
    ⟨(some 25), .bin .add (.tmp 24) (.const (.int .i64 2)) (some (.int .i64)), none⟩,
    ⟨(some 26), .indexAddr 1 (.tmp 23) (.tmp 25), none⟩,
    ⟨(some 27), .load false 1 (.tmp 26), none⟩,
    ⟨(some 28), .conv .i64 (.tmp 27), none⟩,
    ⟨(some 29), .bin .shl (.tmp 28) (.const (.int .u64 16)) (some (.int .i64)), none⟩,
    ⟨(some 30), .bin .or (.tmp 22) (.tmp 29) (some (.int .i64)), none⟩,
    ⟨(some 31), .mov (.tmp 0), none⟩,
    ⟨(some 32), .mov (.tmp 1), none⟩,
    ⟨(some 33), .bin .add (.tmp 32) (.const (.int .i64 3)) (some (.int .i64)), none⟩,
    ⟨(some 34), .indexAddr 1 (.tmp 31) (.tmp 33), none⟩,
    ⟨(some 35), .load false 1 (.tmp 34), none⟩,
    ⟨(some 36), .conv .i64 (.tmp 35), none⟩,
    ⟨(some 37), .bin .shl (.tmp 36) (.const (.int .u64 24)) (some (.int .i64)), none⟩,
    ⟨(some 38), .bin .or (.tmp 30) (.tmp 37) (some (.int .i64)), none⟩,
    ⟨(some 4), .mov (.tmp 38), none⟩])
  .ret)))⟩
theorem F31_ok : compF Try.prog 31 = some F31 := by kernel_rfl

/-- (colonnade/press.runs).at -/
def F48 : FC := ⟨47, [.tmp 4, .tmp 5],
  (.seq (.ops [⟨(some 2), .box (.tmp 0), none⟩,
    ⟨(some 4), .mov (.const (.int .i64 0)), none⟩,
    ⟨(some 5), .mov (.const (.slice none 0 0)), none⟩])
  (.seq (.ops [⟨(some 6), .mov (.const (.int .i64 1)), none⟩])
  (.seq (.block 0 (.loop (.seq (.seq (.ops [⟨(some 7), .mov (.tmp 1), none⟩,
    ⟨(some 8), .mov (.tmp 6), none⟩,
    ⟨(some 9), .bin .add (.tmp 7) (.tmp 8) (some (.int .i64)), none⟩,
    ⟨(some 10), .fieldAddr 0 (.tmp 2), none⟩,
    ⟨(some 11), .load false 1 (.tmp 10), none⟩,
    ⟨(some 12), .len 1 (.tmp 11), none⟩,
    ⟨(some 13), .bin .lss (.tmp 9) (.tmp 12) (some (.int .i64)), none⟩,
    ⟨(some 14), .mov (.tmp 13), none⟩,
    ⟨(some 15), .mov (.tmp 6), (some (14, true))⟩,
    ⟨(some 16), .bin .lss (.tmp 15) (.const (.int .i64 130)) (some (.int .i64)), (some (14, true))⟩,
    ⟨(some 17), .pick (.tmp 14) (.tmp 16) (.const (.bool false)), none⟩,
    ⟨(some 18), .mov (.tmp 17), none⟩,
    ⟨(some 19), .fieldAddr 0 (.tmp 2), (some (18, true))⟩,
    ⟨(some 20), .load false 1 (.tmp 19), (some (18, true))⟩,
    ⟨(some 21), .mov (.tmp 1), (some (18, true))⟩,
    ⟨(some 22), .mov (.tmp 6), (some (18, true))⟩,
    ⟨(some 23), .bin .add (.tmp 21) (.tmp 22) (some (.int .i64)), (some (18, true))⟩,
    ⟨(some 24), .indexAddr 1 (.tmp 20) (.tmp 23), (some (18, true))⟩,
    ⟨(some 25), .load false 1 (.tmp 24), (some (18, true))⟩,
    ⟨(some 26), .fieldAddr 0 (.tmp 2), (some (18, true))⟩,
    ⟨(some 27), .load false 1 (.tmp 26), (some (18, true))⟩,
    ⟨(some 28), .mov (.tmp 1), (some (18, true))⟩,
    ⟨(some 29), .indexAddr 1 (.tmp 27) (.tmp 28), (some (18, true))⟩,
    ⟨(some 30), .load false 1 (.tmp 29), (some (18, true))⟩,
    ⟨(some 31), .bin .eql (.tmp 25) (.tmp 30) (some (.int .u8)), (some (18, true))⟩,
    ⟨(some 32), .pick (.tmp 18) (.tmp 31) (.const (.bool false)), none⟩])
  (.cond (.tmp 32)
  .skip
  (.exit 0)))
  (.block 1 (.ops [⟨(some 33), .mov (.tmp 6), none⟩,
    ⟨(some 34), .bin .add (.tmp 33) (.const (.int .i64 1)) (some (.int .i64)), none⟩,
    ⟨(some 6), .mov (.tmp 34), none⟩])))))
  (.seq (.seq (.ops [⟨(some 35), .mov (.tmp 6), none⟩,
    ⟨(some 36), .bin .lss (.tmp 35) (.const (.int .i64 3)) (some (.int .i64)), none⟩])
  (.cond (.tmp 36)
  (.seq (.ops [⟨(some 4), .mov (.const (.int .i64 0)), none⟩,
    ⟨(some 5), .mov (.const (.slice none 0 0)), none⟩])
  .ret)
  .skip))
  (.seq (.ops [⟨(some 37), .mov (.tmp 6), none⟩,
    ⟨(some 38), .mov (.tmp 6), none⟩,
    ⟨(some 39), .bin .add (.tmp 38) (.const (.int .i64 125)) (some (.int .i64)), none⟩,
    ⟨(some 40), .conv .u8 (.tmp 39), none⟩,
    ⟨(some 41), .fieldAddr 0 (.tmp 2), none⟩,
    ⟨(some 42), .load false 1 (.tmp 41), none⟩,
    ⟨(some 43), .mov (.tmp 1), none⟩,
    ⟨(some 44), .indexAddr 1 (.tmp 42) (.tmp 43), none⟩,
    ⟨(some 45), .load false 1 (.tmp 44), none⟩,
    ⟨(some 4), .mov (.tmp 37), none⟩,
    ⟨(some 46), .buildSlice 1 2 [(.int .u8 0), (.int .u8 0)] [(0, 1, (.tmp 40)), (1, 1, (.tmp 45))], none⟩,
    ⟨(some 5), .mov (.tmp 46), none⟩])
  .ret)))))⟩
theorem F48_ok : compF Try.prog 48 = some F48 := by kernel_rfl

/-- (colonnade/press.backs).at -/
def F49 : FC := ⟨60, [.tmp 4, .tmp 5],
  (.seq (.ops [⟨(some 2), .box (.tmp 0), none⟩,
    ⟨(some 4), .mov (.const (.int .i64 0)), none⟩,
    ⟨(some 5), .mov (.const (.slice none 0 0)), none⟩])
  (.seq (.ops [⟨(some 9), .fieldAddr 1 (.tmp 2), none⟩,
    ⟨(some 10), .load false 1 (.tmp 9), none⟩,
    ⟨(some 11), .mov (.tmp 1), none⟩,
    ⟨(some 12), .indexAddr 1 (.tmp 10) (.tmp 11), none⟩,
    ⟨(some 13), .load false 1 (.tmp 12), none⟩,
    ⟨(some 6), .mov (.tmp 13), none⟩])
  (.seq (.seq (.ops [⟨(some 14), .mov (.tmp 6), none⟩,
    ⟨(some 15), .bin .lss (.tmp 14) (.const (.int .i64 0)) (some (.int .i64)), none⟩])
  (.cond (.tmp 15)
  (.seq (.ops [⟨(some 4), .mov (.const (.int .i64 0)), none⟩,
    ⟨(some 5), .mov (.const (.slice none 0 0)), none⟩])
  .ret)
  .skip))
  (.seq (.ops [⟨(some 7), .mov (.const (.int .i64 4)), none⟩])
  (.seq (.block 0 (.loop (.seq (.seq (.ops [⟨(some 16), .mov (.tmp 7), none⟩,
    ⟨(some 17), .bin .lss (.tmp 16) (.const (.int .i64 131)) (some (.int .i64)), none⟩,
    ⟨(some 18), .mov (.tmp 17), none⟩,
    ⟨(some 19), .mov (.tmp 1), (some (18, true))⟩,
    ⟨(some 20), .mov (.tmp 7), (some (18, true))⟩,
    ⟨(some 21), .bin .add (.tmp 19) (.tmp 20) (some (.int .i64)), (some (18, true))⟩,
    ⟨(some 22), .fieldAddr 0 (.tmp 2), (some (18, true))⟩,
    ⟨(some 23), .load false 1 (.tmp 22), (some (18, true))⟩,
    ⟨(some 24), .len 1 (.tmp 23), (some (18, true))⟩,
    ⟨(some 25), .bin .lss (.tmp 21) (.tmp 24) (some (.int .i64)), (some (18, true))⟩,
    ⟨(some 26), .pick (.tmp 18) (.tmp 25) (.const (.bool false)), none⟩,
    ⟨(some 27), .mov (.tmp 26), none⟩,
    ⟨(some 28), .fieldAddr 0 (.tmp 2), (some (27, true))⟩,
    ⟨(some 29), .load false 1 (.tmp 28), (some (27, true))⟩,
    ⟨(some 30), .mov (.tmp 1), (some (27, true))⟩,
    ⟨(some 31), .mov (.tmp 7), (some (27, true))⟩,
    ⟨(some 32), .bin .add (.tmp 30) (.tmp 31) (some (.int .i64)), (some (27, true))⟩,
    ⟨(some 33), .indexAddr 1 (.tmp 29) (.tmp 32), (some (27, true))⟩,
    ⟨(some 34), .load false 1 (.tmp 33), (some (27, true))⟩,
    ⟨(some 35), .fieldAddr 0 (.tmp 2), (some (27, true))⟩,
    ⟨(some 36), .load false 1 (.tmp 35), (some (27, true))⟩,
    ⟨(some 37), .mov (.tmp 6), (some (27, true))⟩,
    ⟨(some 38), .mov (.tmp 7), (some (27, true))⟩,
    ⟨(some 39), .bin .add (.tmp 37) (.tmp 38) (some (.int .i64)), (some (27, true))⟩,
    ⟨(some 40), .indexAddr 1 (.tmp 36) (.tmp 39), (some (27, true))⟩,
    ⟨(some 41), .load false 1 (.tmp 40), (some (27, true))⟩,
    ⟨(some 42), .bin .eql (.tmp 34) (.tmp 41) (some (.int .u8)), (some (27, true))⟩,
    ⟨(some 43), .pick (.tmp 27) (.tmp 42) (.const (.bool false)), none⟩])
  (.cond (.tmp 43)
  .skip
  (.exit 0)))
  (.block 1 (.ops [⟨(some 44), .mov (.tmp 7), none⟩,
    ⟨(some 45), .bin .add (.tmp 44) (.const (.int .i64 1)) (some (.int .i64)), none⟩,
    ⟨(some 7), .mov (.tmp 45), none⟩])))))
  (.seq (.ops [⟨(some 46), .mov (.tmp 1), none⟩,
    ⟨(some 47), .mov (.tmp 6), none⟩,
    ⟨(some 48), .bin .sub (.tmp 46) (.tmp 47) (some (.int .i64)), none⟩,
    ⟨(some 49), .bin .sub (.tmp 48) (.const (.int .i64 1)) (some (.int .i64)), none⟩,
    ⟨(some 8), .mov (.tmp 49), none⟩])
  (.seq (.ops [⟨(some 50), .mov (.tmp 7), none⟩,
    ⟨(some 51), .mov (.tmp 7), none⟩,
    ⟨(some 52), .bin .add (.tmp 51) (.const (.int .i64 124)) (some (.int .i64)), none⟩,
    ⟨(some 53), .conv .u8 (.tmp 52), none⟩,
    ⟨(some 54), .mov (.tmp 8), none⟩,
    ⟨(some 55), .conv .u8 (.tmp 54), none⟩,
    ⟨(some 56), .mov (.tmp 8), none⟩,
    ⟨(some 57), .bin .shr (.tmp 56) (.const (.int .u64 8)) (some (.int .i64)), none⟩,
    ⟨(some 58), .conv .u8 (.tmp 57), none⟩,
    ⟨(some 59), .buildSlice 1 3 [(.int .u8 0), (.int .u8 0), (.int .u8 0)] [(0, 1, (.tmp 53)), (1, 1, (.tmp 55)), (2, 1, (.tmp 58))], none⟩,
    ⟨(some 4), .mov (.tmp 50), none⟩,
    ⟨(some 5), .mov (.tmp 59), none⟩])
  .ret)))))))⟩
theorem F49_ok : compF Try.prog 49 = some F49 := by kernel_rfl

def tab : List (Nat × FC) := [(3, F3), (4, F4), (5, F5), (6, F6), (7, F7), (8, F8), (9, F9), (10, F10), (11, F11), (12, F12), (13, F13), (14, F14), (15, F15), (16, F16), (17, F17), (18, F18), (19, F19), (20, F20), (21, F21), (22, F22), (23, F23), (24, F24), (25, F25), (26, F26), (27, F27), (28, F28), (29, F29), (30, F30), (31, F31), (48, F48), (49, F49)]
theorem tab_ok : tabOK Try.prog tab := ⟨F3_ok, F4_ok, F5_ok, F6_ok, F7_ok, F8_ok, F9_ok, F10_ok, F11_ok, F12_ok, F13_ok, F14_ok, F15_ok, F16_ok, F17_ok, F18_ok, F19_ok, F20_ok, F21_ok, F22_ok, F23_ok, F24_ok, F25_ok, F26_ok, F27_ok, F28_ok, F29_ok, F30_ok, F31_ok, F48_ok, F49_ok, trivial⟩

end Go.Proofs.Ytplibngmgebigaa.Press
