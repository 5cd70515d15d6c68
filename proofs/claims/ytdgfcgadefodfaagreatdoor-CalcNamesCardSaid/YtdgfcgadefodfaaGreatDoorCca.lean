/- The code that the call meets, as instructions. No conditions. -/
import Derived.Test.YtdgfcgadefodfaaGreatDoorEm22
import Derived.Test.YtdgfcgadefodfaaGreatDoorProg
import Derived.KernelRfl
set_option linter.unusedVariables false
namespace Go.Proofs.YtdgfcgadefodfaaGreatDoor.Calc
open Go Go.Proofs.YtdgfcgadefodfaaGreatDoor Go.Proofs.YtdgfcgadefodfaaGreatDoor.Em

/-- what the program's variables hold -/
def gs : List (List EV) := [[], [], [.lit (.string ⟨#[]⟩), .lit (.int .i64 0), .lit (.int .i64 0), .lit (.bool false), .lit (.string ⟨#[110, 117, 108, 108]⟩), .lit (.int .i64 0), .lit (.int .i64 0), .lit (.bool false), .lit (.string ⟨#[98, 111, 111, 108]⟩), .lit (.int .i64 0), .lit (.int .i64 2), .lit (.bool false), .lit (.string ⟨#[105, 110, 116, 56]⟩), .lit (.int .i64 1), .lit (.int .i64 2), .lit (.bool true), .lit (.string ⟨#[105, 110, 116, 49, 54]⟩), .lit (.int .i64 2), .lit (.int .i64 2), .lit (.bool true), .lit (.string ⟨#[105, 110, 116, 51, 50]⟩), .lit (.int .i64 4), .lit (.int .i64 2), .lit (.bool true), .lit (.string ⟨#[105, 110, 116, 54, 52]⟩), .lit (.int .i64 8), .lit (.int .i64 2), .lit (.bool true), .lit (.string ⟨#[117, 105, 110, 116, 56]⟩), .lit (.int .i64 1), .lit (.int .i64 2), .lit (.bool true), .lit (.string ⟨#[117, 105, 110, 116, 49, 54]⟩), .lit (.int .i64 2), .lit (.int .i64 2), .lit (.bool true), .lit (.string ⟨#[117, 105, 110, 116, 51, 50]⟩), .lit (.int .i64 4), .lit (.int .i64 2), .lit (.bool true), .lit (.string ⟨#[117, 105, 110, 116, 54, 52]⟩), .lit (.int .i64 8), .lit (.int .i64 2), .lit (.bool true), .lit (.string ⟨#[102, 108, 111, 97, 116, 54, 52]⟩), .lit (.int .i64 8), .lit (.int .i64 2), .lit (.bool false), .lit (.string ⟨#[116, 101, 120, 116]⟩), .lit (.int .i64 0), .lit (.int .i64 3), .lit (.bool false), .lit (.string ⟨#[98, 121, 116, 101, 115]⟩), .lit (.int .i64 0), .lit (.int .i64 3), .lit (.bool false), .lit (.string ⟨#[102, 105, 120, 101, 100]⟩), .lit (.int .i64 0), .lit (.int .i64 2), .lit (.bool false), .lit (.string ⟨#[108, 105, 115, 116]⟩), .lit (.int .i64 0), .lit (.int .i64 2), .lit (.bool false), .lit (.string ⟨#[115, 112, 97, 110]⟩), .lit (.int .i64 0), .lit (.int .i64 1), .lit (.bool false), .lit (.string ⟨#[115, 116, 114, 117, 99, 116]⟩), .lit (.int .i64 0), .lit (.int .i64 1), .lit (.bool false), .lit (.string ⟨#[99, 104, 111, 105, 99, 101]⟩), .lit (.int .i64 0), .lit (.int .i64 2), .lit (.bool false), .lit (.string ⟨#[100, 105, 99, 116]⟩), .lit (.int .i64 0), .lit (.int .i64 2), .lit (.bool false), .lit (.string ⟨#[114, 117, 110, 115]⟩), .lit (.int .i64 0), .lit (.int .i64 0), .lit (.bool false)], [], [.lit (.int .u8 128), .lit (.int .u8 191), .lit (.int .u8 160), .lit (.int .u8 191), .lit (.int .u8 128), .lit (.int .u8 159), .lit (.int .u8 144), .lit (.int .u8 191), .lit (.int .u8 128), .lit (.int .u8 143), .lit (.int .u8 0), .lit (.int .u8 0), .lit (.int .u8 0), .lit (.int .u8 0), .lit (.int .u8 0), .lit (.int .u8 0), .lit (.int .u8 0), .lit (.int .u8 0), .lit (.int .u8 0), .lit (.int .u8 0), .lit (.int .u8 0), .lit (.int .u8 0), .lit (.int .u8 0), .lit (.int .u8 0), .lit (.int .u8 0), .lit (.int .u8 0), .lit (.int .u8 0), .lit (.int .u8 0), .lit (.int .u8 0), .lit (.int .u8 0), .lit (.int .u8 0), .lit (.int .u8 0)]]

/-- colonnade/colonnadelaw17.CalcNames -/
def F3 : FC := ⟨4, [.tmp 0],
  (.seq (.ops [⟨(some 0), .mov (.const (.bool false)), none⟩])
  (.seq (.ops [⟨(some 1), .mov (.const (.bool true)), none⟩,
    ⟨(some 2), .call 4 [], (some (1, true))⟩,
    ⟨(some 3), .pick (.tmp 1) (.tmp 2) (.const (.bool false)), none⟩,
    ⟨(some 0), .mov (.tmp 3), none⟩])
  .ret))⟩
theorem F3_ok : compF Tryz.prog 3 = some F3 := by kernel_rfl

/-- colonnade/colonnadelaw17.fixed -/
def F4 : FC := ⟨35, [.tmp 0],
  (.seq (.ops [⟨(some 0), .mov (.const (.bool false)), none⟩])
  (.seq (.ops [⟨(some 6), .build [(.int .i64 0), (.int .i64 0), (.int .i64 0), (.int .i64 0), (.slice none 0 0)] [(0, 1, (.const (.int .i64 3)))], none⟩,
    ⟨(some 7), .build [(.string ⟨#[]⟩), (.bool false), (.int .i64 0), (.int .i64 0), (.int .i64 0), (.int .i64 0), (.slice none 0 0)] [(0, 1, (.const (.string ⟨#[97]⟩))), (2, 5, (.tmp 6))], none⟩,
    ⟨(some 1), .alloc [(.string ⟨#[]⟩), (.bool false), (.int .i64 0), (.int .i64 0), (.int .i64 0), (.int .i64 0), (.slice none 0 0)], none⟩,
    ⟨none, .store 7 (.tmp 1) (.tmp 7), none⟩])
  (.seq (.ops [⟨(some 8), .buildSlice 1 2 [(.int .u8 0), (.int .u8 0)] [(0, 1, (.const (.int .u8 3))), (1, 1, (.const (.int .u8 4)))], none⟩,
    ⟨(some 9), .buildSlice 1 2 [(.slice none 0 0), (.slice none 0 0)] [(0, 1, (.const (.slice none 0 0))), (1, 1, (.tmp 8))], none⟩,
    ⟨(some 10), .build [(.int .i64 0), (.int .i64 0), (.int .i64 0), (.slice none 0 0), (.slice none 0 0), (.slice none 0 0)] [(0, 1, (.const (.int .i64 2))), (3, 1, (.tmp 9))], none⟩,
    ⟨(some 2), .alloc [(.int .i64 0), (.int .i64 0), (.int .i64 0), (.slice none 0 0), (.slice none 0 0), (.slice none 0 0)], none⟩,
    ⟨none, .store 6 (.tmp 2) (.tmp 10), none⟩])
  (.seq (.ops [⟨(some 12), .load true 7 (.tmp 1), none⟩,
    ⟨(some 13), .load true 7 (.tmp 1), none⟩,
    ⟨(some 14), .buildSlice 7 2 [(.string ⟨#[]⟩), (.bool false), (.int .i64 0), (.int .i64 0), (.int .i64 0), (.int .i64 0), (.slice none 0 0), (.string ⟨#[]⟩), (.bool false), (.int .i64 0), (.int .i64 0), (.int .i64 0), (.int .i64 0), (.slice none 0 0)] [(0, 7, (.tmp 12)), (7, 7, (.tmp 13))], none⟩,
    ⟨(some 15), .load true 6 (.tmp 2), none⟩,
    ⟨(some 16), .load true 6 (.tmp 2), none⟩,
    ⟨(some 17), .buildSlice 6 2 [(.int .i64 0), (.int .i64 0), (.int .i64 0), (.slice none 0 0), (.slice none 0 0), (.slice none 0 0), (.int .i64 0), (.int .i64 0), (.int .i64 0), (.slice none 0 0), (.slice none 0 0), (.slice none 0 0)] [(0, 6, (.tmp 15)), (6, 6, (.tmp 16))], none⟩,
    ⟨(some 18), .call 5 [(.const (.int .i64 3)), (.tmp 14), (.tmp 17)], none⟩,
    ⟨(some 11), .mov (.tmp 18), none⟩,
    ⟨(some 19), .extract (.tmp 11) 0, none⟩,
    ⟨(some 20), .extract (.tmp 11) 1, none⟩,
    ⟨(some 21), .extract (.tmp 11) 2, none⟩,
    ⟨(some 3), .alloc [(.int .i64 0), (.int .i64 0), (.int .i64 0), (.slice none 0 0), (.slice none 0 0), (.slice none 0 0)], none⟩,
    ⟨none, .store 6 (.tmp 3) (.tmp 19), none⟩,
    ⟨(some 4), .mov (.tmp 20), none⟩,
    ⟨(some 5), .mov (.tmp 21), none⟩])
  (.seq (.ops [⟨(some 22), .mov (.tmp 4), none⟩,
    ⟨(some 23), .bin .eql (.tmp 22) (.const (.int .i64 0)) (some (.int .i64)), none⟩,
    ⟨(some 24), .mov (.tmp 23), none⟩,
    ⟨(some 25), .mov (.tmp 5), (some (24, true))⟩,
    ⟨(some 26), .bin .eql (.tmp 25) (.const (.int .i64 0)) (some (.int .i64)), (some (24, true))⟩,
    ⟨(some 27), .pick (.tmp 24) (.tmp 26) (.const (.bool false)), none⟩,
    ⟨(some 28), .mov (.tmp 27), none⟩,
    ⟨(some 29), .load true 6 (.tmp 3), (some (28, true))⟩,
    ⟨(some 30), .buildSlice 1 2 [(.int .u8 0), (.int .u8 0)] [(0, 1, (.const (.int .u8 9))), (1, 1, (.const (.int .u8 16)))], (some (28, true))⟩,
    ⟨(some 31), .buildSlice 1 2 [(.slice none 0 0), (.slice none 0 0)] [(0, 1, (.const (.slice none 0 0))), (1, 1, (.tmp 30))], (some (28, true))⟩,
    ⟨(some 32), .build [(.int .i64 0), (.int .i64 0), (.int .i64 0), (.slice none 0 0), (.slice none 0 0), (.slice none 0 0)] [(0, 1, (.const (.int .i64 2))), (3, 1, (.tmp 31))], (some (28, true))⟩,
    ⟨(some 33), .call 6 [(.tmp 29), (.tmp 32)], (some (28, true))⟩,
    ⟨(some 34), .pick (.tmp 28) (.tmp 33) (.const (.bool false)), none⟩,
    ⟨(some 0), .mov (.tmp 34), none⟩])
  .ret)))))⟩
theorem F4_ok : compF Tryz.prog 4 = some F4 := by kernel_rfl

/-- colonnade/calc.Do -/
def F5 : FC := ⟨110, [.cell 6 true 6, .tmp 7, .tmp 8],
  (.seq (.ops [⟨(some 6), .alloc [(.int .i64 0), (.int .i64 0), (.int .i64 0), (.slice none 0 0), (.slice none 0 0), (.slice none 0 0)], none⟩,
    ⟨(some 7), .mov (.const (.int .i64 0)), none⟩,
    ⟨(some 8), .mov (.const (.int .i64 0)), none⟩])
  (.seq (.seq (.ops [⟨(some 18), .mov (.tmp 2), none⟩,
    ⟨(some 19), .len 1 (.tmp 18), none⟩,
    ⟨(some 20), .mov (.tmp 1), none⟩,
    ⟨(some 21), .len 1 (.tmp 20), none⟩,
    ⟨(some 22), .bin .neq (.tmp 19) (.tmp 21) (some (.int .i64)), none⟩])
  (.cond (.tmp 22)
  (.seq (.ops [⟨(some 23), .build [(.int .i64 0), (.int .i64 0), (.int .i64 0), (.slice none 0 0), (.slice none 0 0), (.slice none 0 0)] [], none⟩,
    ⟨none, .store 6 (.tmp 6) (.tmp 23), none⟩,
    ⟨(some 7), .mov (.const (.int .i64 1)), none⟩,
    ⟨(some 8), .mov (.const (.int .i64 0)), none⟩])
  .ret)
  .skip))
  (.seq (.ops [⟨(some 24), .mov (.tmp 0), none⟩,
    ⟨(some 25), .call 7 [(.tmp 24)], none⟩,
    ⟨(some 9), .alloc [(.int .i64 0), .nilFunc, .nilFunc, (.bool false), .nilFunc], none⟩,
    ⟨none, .store 5 (.tmp 9) (.tmp 25), none⟩])
  (.seq (.ops [⟨(some 27), .load true 5 (.tmp 9), none⟩,
    ⟨(some 28), .mov (.tmp 1), none⟩,
    ⟨(some 29), .call 8 [(.tmp 27), (.tmp 28)], none⟩,
    ⟨(some 26), .mov (.tmp 29), none⟩,
    ⟨(some 30), .extract (.tmp 26) 0, none⟩,
    ⟨(some 31), .extract (.tmp 26) 1, none⟩,
    ⟨(some 32), .extract (.tmp 26) 2, none⟩,
    ⟨(some 10), .alloc [(.string ⟨#[]⟩), (.bool false), (.int .i64 0), (.int .i64 0), (.int .i64 0), (.int .i64 0), (.slice none 0 0)], none⟩,
    ⟨none, .store 7 (.tmp 10) (.tmp 30), none⟩,
    ⟨(some 11), .mov (.tmp 31), none⟩,
    ⟨(some 12), .mov (.tmp 32), none⟩])
  (.seq (.seq (.ops [⟨(some 33), .mov (.tmp 12), none⟩,
    ⟨(some 34), .bin .neq (.tmp 33) (.const (.int .i64 0)) (some (.int .i64)), none⟩])
  (.cond (.tmp 34)
  (.seq (.ops [⟨(some 35), .build [(.int .i64 0), (.int .i64 0), (.int .i64 0), (.slice none 0 0), (.slice none 0 0), (.slice none 0 0)] [], none⟩,
    ⟨(some 36), .mov (.tmp 12), none⟩,
    ⟨none, .store 6 (.tmp 6) (.tmp 35), none⟩,
    ⟨(some 7), .mov (.tmp 36), none⟩,
    ⟨(some 8), .mov (.const (.int .i64 0)), none⟩])
  .ret)
  .skip))
  (.seq (.ops [⟨(some 38), .mov (.tmp 1), none⟩,
    ⟨(some 39), .mov (.tmp 2), none⟩,
    ⟨(some 40), .call 9 [(.tmp 38), (.tmp 39)], none⟩,
    ⟨(some 37), .mov (.tmp 40), none⟩,
    ⟨(some 41), .extract (.tmp 37) 0, none⟩,
    ⟨(some 42), .extract (.tmp 37) 1, none⟩,
    ⟨(some 13), .mov (.tmp 41), none⟩,
    ⟨(some 12), .mov (.tmp 42), none⟩])
  (.seq (.seq (.ops [⟨(some 43), .mov (.tmp 12), none⟩,
    ⟨(some 44), .bin .neq (.tmp 43) (.const (.int .i64 0)) (some (.int .i64)), none⟩])
  (.cond (.tmp 44)
  (.seq (.ops [⟨(some 45), .build [(.int .i64 0), (.int .i64 0), (.int .i64 0), (.slice none 0 0), (.slice none 0 0), (.slice none 0 0)] [], none⟩,
    ⟨(some 46), .mov (.tmp 12), none⟩,
    ⟨none, .store 6 (.tmp 6) (.tmp 45), none⟩,
    ⟨(some 7), .mov (.tmp 46), none⟩,
    ⟨(some 8), .mov (.const (.int .i64 0)), none⟩])
  .ret)
  .skip))
  (.seq (.ops [⟨(some 47), .mov (.tmp 13), none⟩,
    ⟨(some 48), .indexAddr 1 (.tmp 47) (.const (.int .i64 0)), none⟩,
    ⟨(some 49), .load false 1 (.tmp 48), none⟩,
    ⟨(some 50), .len 1 (.tmp 49), none⟩,
    ⟨(some 51), .mkSlice 4 56 [(.bool false), (.int .i64 0), (.string ⟨#[]⟩), (.slice none 0 0)] (.tmp 50) (.tmp 50), none⟩,
    ⟨(some 14), .mov (.tmp 51), none⟩])
  (.seq (.ops [⟨(some 52), .mov (.tmp 13), none⟩,
    ⟨(some 53), .len 1 (.tmp 52), none⟩,
    ⟨(some 54), .mkSlice 4 56 [(.bool false), (.int .i64 0), (.string ⟨#[]⟩), (.slice none 0 0)] (.tmp 53) (.tmp 53), none⟩,
    ⟨(some 15), .mov (.tmp 54), none⟩])
  (.seq (.seq (.ops [⟨(some 55), .mov (.tmp 14), none⟩,
    ⟨(some 56), .len 1 (.tmp 55), none⟩,
    ⟨(some 57), .mov (.const (.int .i64 0)), none⟩])
  (.block 0 (.loop (.seq (.ops [⟨(some 58), .bin .lss (.tmp 57) (.tmp 56) (some (.int .i64)), none⟩])
  (.seq (.cond (.tmp 58)
  .skip
  (.exit 0))
  (.seq (.block 1 (.seq (.ops [⟨(some 59), .mov (.tmp 57), none⟩,
    ⟨(some 16), .mov (.tmp 59), none⟩])
  (.seq (.seq (.ops [⟨(some 60), .mov (.tmp 13), none⟩,
    ⟨(some 61), .len 1 (.tmp 60), none⟩,
    ⟨(some 62), .mov (.const (.int .i64 0)), none⟩])
  (.block 2 (.loop (.seq (.ops [⟨(some 63), .bin .lss (.tmp 62) (.tmp 61) (some (.int .i64)), none⟩])
  (.seq (.cond (.tmp 63)
  .skip
  (.exit 2))
  (.seq (.block 3 (.seq (.ops [⟨(some 64), .mov (.tmp 62), none⟩,
    ⟨(some 17), .mov (.tmp 64), none⟩])
  (.ops [⟨(some 65), .mov (.tmp 15), none⟩,
    ⟨(some 66), .mov (.tmp 17), none⟩,
    ⟨(some 67), .mov (.tmp 13), none⟩,
    ⟨(some 68), .mov (.tmp 17), none⟩,
    ⟨(some 69), .indexAddr 1 (.tmp 67) (.tmp 68), none⟩,
    ⟨(some 70), .load false 1 (.tmp 69), none⟩,
    ⟨(some 71), .mov (.tmp 16), none⟩,
    ⟨(some 72), .indexAddr 4 (.tmp 70) (.tmp 71), none⟩,
    ⟨(some 73), .load true 4 (.tmp 72), none⟩,
    ⟨(some 74), .indexAddr 4 (.tmp 65) (.tmp 66), none⟩,
    ⟨none, .store 4 (.tmp 74) (.tmp 73), none⟩])))
  (.ops [⟨(some 75), .bin .add (.tmp 62) (.const (.int .i64 1)) (some (.int .i64)), none⟩,
    ⟨(some 62), .mov (.tmp 75), none⟩])))))))
  (.seq (.seq (.ops [⟨(some 76), .fieldAddr 3 (.tmp 9), none⟩,
    ⟨(some 77), .load false 1 (.tmp 76), none⟩,
    ⟨(some 78), .un .not (.tmp 77), none⟩,
    ⟨(some 79), .mov (.tmp 78), none⟩,
    ⟨(some 80), .mov (.tmp 15), (some (79, true))⟩,
    ⟨(some 81), .call 10 [(.tmp 80)], (some (79, true))⟩,
    ⟨(some 82), .pick (.tmp 79) (.tmp 81) (.const (.bool false)), none⟩])
  (.cond (.tmp 82)
  (.seq (.ops [⟨(some 83), .mov (.tmp 14), none⟩,
    ⟨(some 84), .mov (.tmp 16), none⟩,
    ⟨(some 85), .build [(.bool false), (.int .i64 0), (.string ⟨#[]⟩), (.slice none 0 0)] [(0, 1, (.const (.bool true)))], none⟩,
    ⟨(some 86), .indexAddr 4 (.tmp 83) (.tmp 84), none⟩,
    ⟨none, .store 4 (.tmp 86) (.tmp 85), none⟩])
  (.exit 1))
  .skip))
  (.seq (.ops [⟨(some 88), .mov (.tmp 14), none⟩,
    ⟨(some 89), .mov (.tmp 16), none⟩,
    ⟨(some 90), .fieldAddr 4 (.tmp 9), none⟩,
    ⟨(some 91), .load false 1 (.tmp 90), none⟩,
    ⟨(some 92), .mov (.tmp 11), none⟩,
    ⟨(some 93), .mov (.tmp 15), none⟩,
    ⟨(some 94), .callv (.tmp 91) [(.tmp 92), (.tmp 93)], none⟩,
    ⟨(some 87), .mov (.tmp 94), none⟩,
    ⟨(some 95), .extract (.tmp 87) 0, none⟩,
    ⟨(some 96), .extract (.tmp 87) 1, none⟩,
    ⟨(some 97), .indexAddr 4 (.tmp 88) (.tmp 89), none⟩,
    ⟨none, .store 4 (.tmp 97) (.tmp 95), none⟩,
    ⟨(some 12), .mov (.tmp 96), none⟩])
  (.seq (.ops [⟨(some 98), .mov (.tmp 12), none⟩,
    ⟨(some 99), .bin .neq (.tmp 98) (.const (.int .i64 0)) (some (.int .i64)), none⟩])
  (.cond (.tmp 99)
  (.seq (.ops [⟨(some 100), .build [(.int .i64 0), (.int .i64 0), (.int .i64 0), (.slice none 0 0), (.slice none 0 0), (.slice none 0 0)] [], none⟩,
    ⟨(some 101), .mov (.tmp 12), none⟩,
    ⟨(some 102), .mov (.tmp 16), none⟩,
    ⟨none, .store 6 (.tmp 6) (.tmp 100), none⟩,
    ⟨(some 7), .mov (.tmp 101), none⟩,
    ⟨(some 8), .mov (.tmp 102), none⟩])
  .ret)
  .skip)))))))
  (.ops [⟨(some 103), .bin .add (.tmp 57) (.const (.int .i64 1)) (some (.int .i64)), none⟩,
    ⟨(some 57), .mov (.tmp 103), none⟩])))))))
  (.seq (.ops [⟨(some 104), .load true 7 (.tmp 10), none⟩,
    ⟨(some 105), .mov (.tmp 14), none⟩,
    ⟨(some 106), .call 11 [(.tmp 104), (.tmp 105)], none⟩,
    ⟨(some 107), .extract (.tmp 106) 0, none⟩,
    ⟨(some 108), .extract (.tmp 106) 1, none⟩,
    ⟨(some 109), .extract (.tmp 106) 2, none⟩,
    ⟨none, .store 6 (.tmp 6) (.tmp 107), none⟩,
    ⟨(some 7), .mov (.tmp 108), none⟩,
    ⟨(some 8), .mov (.tmp 109), none⟩])
  .ret)))))))))))⟩
theorem F5_ok : compF Tryz.prog 5 = some F5 := by kernel_rfl

/-- colonnade/colonnaderef09.Eq -/
def F6 : FC := ⟨66, [.tmp 4],
  (.seq (.ops [⟨(some 2), .box (.tmp 0), none⟩,
    ⟨(some 3), .box (.tmp 1), none⟩,
    ⟨(some 4), .mov (.const (.bool false)), none⟩])
  (.seq (.seq (.ops [⟨(some 6), .fieldAddr 0 (.tmp 2), none⟩,
    ⟨(some 7), .load false 1 (.tmp 6), none⟩,
    ⟨(some 8), .fieldAddr 0 (.tmp 3), none⟩,
    ⟨(some 9), .load false 1 (.tmp 8), none⟩,
    ⟨(some 10), .bin .neq (.tmp 7) (.tmp 9) (some (.int .i64)), none⟩,
    ⟨(some 11), .mov (.tmp 10), none⟩,
    ⟨(some 12), .fieldAddr 1 (.tmp 2), (some (11, false))⟩,
    ⟨(some 13), .load false 1 (.tmp 12), (some (11, false))⟩,
    ⟨(some 14), .fieldAddr 1 (.tmp 3), (some (11, false))⟩,
    ⟨(some 15), .load false 1 (.tmp 14), (some (11, false))⟩,
    ⟨(some 16), .bin .neq (.tmp 13) (.tmp 15) (some (.int .i64)), (some (11, false))⟩,
    ⟨(some 17), .pick (.tmp 11) (.const (.bool true)) (.tmp 16), none⟩,
    ⟨(some 18), .mov (.tmp 17), none⟩,
    ⟨(some 19), .fieldAddr 2 (.tmp 2), (some (18, false))⟩,
    ⟨(some 20), .load false 1 (.tmp 19), (some (18, false))⟩,
    ⟨(some 21), .fieldAddr 2 (.tmp 3), (some (18, false))⟩,
    ⟨(some 22), .load false 1 (.tmp 21), (some (18, false))⟩,
    ⟨(some 23), .bin .neq (.tmp 20) (.tmp 22) (some (.int .i64)), (some (18, false))⟩,
    ⟨(some 24), .pick (.tmp 18) (.const (.bool true)) (.tmp 23), none⟩,
    ⟨(some 25), .mov (.tmp 24), none⟩,
    ⟨(some 26), .fieldAddr 3 (.tmp 2), (some (25, false))⟩,
    ⟨(some 27), .load false 1 (.tmp 26), (some (25, false))⟩,
    ⟨(some 28), .len 1 (.tmp 27), (some (25, false))⟩,
    ⟨(some 29), .fieldAddr 3 (.tmp 3), (some (25, false))⟩,
    ⟨(some 30), .load false 1 (.tmp 29), (some (25, false))⟩,
    ⟨(some 31), .len 1 (.tmp 30), (some (25, false))⟩,
    ⟨(some 32), .bin .neq (.tmp 28) (.tmp 31) (some (.int .i64)), (some (25, false))⟩,
    ⟨(some 33), .pick (.tmp 25) (.const (.bool true)) (.tmp 32), none⟩])
  (.cond (.tmp 33)
  (.seq (.ops [⟨(some 4), .mov (.const (.bool false)), none⟩])
  .ret)
  .skip))
  (.seq (.seq (.ops [⟨(some 5), .mov (.const (.int .i64 0)), none⟩])
  (.block 0 (.loop (.seq (.seq (.ops [⟨(some 34), .mov (.tmp 5), none⟩,
    ⟨(some 35), .fieldAddr 3 (.tmp 2), none⟩,
    ⟨(some 36), .load false 1 (.tmp 35), none⟩,
    ⟨(some 37), .len 1 (.tmp 36), none⟩,
    ⟨(some 38), .bin .lss (.tmp 34) (.tmp 37) (some (.int .i64)), none⟩])
  (.cond (.tmp 38)
  .skip
  (.exit 0)))
  (.seq (.block 1 (.seq (.ops [⟨(some 41), .fieldAddr 3 (.tmp 2), none⟩,
    ⟨(some 42), .load false 1 (.tmp 41), none⟩,
    ⟨(some 43), .mov (.tmp 5), none⟩,
    ⟨(some 44), .indexAddr 1 (.tmp 42) (.tmp 43), none⟩,
    ⟨(some 45), .load false 1 (.tmp 44), none⟩,
    ⟨(some 46), .b2s (.tmp 45), none⟩,
    ⟨(some 47), .fieldAddr 3 (.tmp 3), none⟩,
    ⟨(some 48), .load false 1 (.tmp 47), none⟩,
    ⟨(some 49), .mov (.tmp 5), none⟩,
    ⟨(some 50), .indexAddr 1 (.tmp 48) (.tmp 49), none⟩,
    ⟨(some 51), .load false 1 (.tmp 50), none⟩,
    ⟨(some 52), .b2s (.tmp 51), none⟩,
    ⟨(some 53), .bin .neq (.tmp 46) (.tmp 52) (some .string), none⟩])
  (.cond (.tmp 53)
  (.seq (.ops [⟨(some 4), .mov (.const (.bool false)), none⟩])
  .ret)
  .skip)))
  (.ops [⟨(some 39), .mov (.tmp 5), none⟩,
    ⟨(some 40), .bin .add (.tmp 39) (.const (.int .i64 1)) (some (.int .i64)), none⟩,
    ⟨(some 5), .mov (.tmp 40), none⟩]))))))
  (.seq (.ops [⟨(some 54), .fieldAddr 4 (.tmp 2), none⟩,
    ⟨(some 55), .load false 1 (.tmp 54), none⟩,
    ⟨(some 56), .fieldAddr 4 (.tmp 3), none⟩,
    ⟨(some 57), .load false 1 (.tmp 56), none⟩,
    ⟨(some 58), .call 12 [(.tmp 55), (.tmp 57)], none⟩,
    ⟨(some 59), .mov (.tmp 58), none⟩,
    ⟨(some 60), .fieldAddr 5 (.tmp 2), (some (59, true))⟩,
    ⟨(some 61), .load false 1 (.tmp 60), (some (59, true))⟩,
    ⟨(some 62), .fieldAddr 5 (.tmp 3), (some (59, true))⟩,
    ⟨(some 63), .load false 1 (.tmp 62), (some (59, true))⟩,
    ⟨(some 64), .call 12 [(.tmp 61), (.tmp 63)], (some (59, true))⟩,
    ⟨(some 65), .pick (.tmp 59) (.tmp 64) (.const (.bool false)), none⟩,
    ⟨(some 4), .mov (.tmp 65), none⟩])
  .ret))))⟩
theorem F6_ok : compF Tryz.prog 6 = some F6 := by kernel_rfl

/-- colonnade/calc.ruleOf -/
def F7 : FC := ⟨63, [.cell 2 true 5],
  (.seq (.ops [⟨(some 2), .alloc [(.int .i64 0), .nilFunc, .nilFunc, (.bool false), .nilFunc], none⟩])
  (.seq (.seq (.ops [⟨(some 3), .mov (.tmp 0), none⟩])
  (.block 0 (.seq (.seq (.ops [⟨(some 5), .bin .eql (.tmp 3) (.const (.int .i64 1)) (some (.int .i64)), none⟩,
    ⟨(some 4), .mov (.tmp 5), none⟩])
  (.cond (.tmp 4)
  .skip
  (.seq (.ops [⟨(some 6), .bin .eql (.tmp 3) (.const (.int .i64 2)) (some (.int .i64)), none⟩,
    ⟨(some 4), .mov (.tmp 6), none⟩])
  (.cond (.tmp 4)
  .skip
  (.seq (.ops [⟨(some 7), .bin .eql (.tmp 3) (.const (.int .i64 3)) (some (.int .i64)), none⟩,
    ⟨(some 4), .mov (.tmp 7), none⟩])
  (.cond (.tmp 4)
  .skip
  (.ops [⟨(some 8), .bin .eql (.tmp 3) (.const (.int .i64 4)) (some (.int .i64)), none⟩,
    ⟨(some 4), .mov (.tmp 8), none⟩])))))))
  (.cond (.tmp 4)
  (.seq (.ops [⟨(some 9), .mov (.tmp 0), none⟩,
    ⟨(some 10), .call 15 [(.tmp 9)], none⟩,
    ⟨(some 11), .build [(.int .i64 0), .nilFunc, .nilFunc, (.bool false), .nilFunc] [(0, 1, (.const (.int .i64 2))), (1, 1, (.func 13)), (2, 1, (.func 14)), (3, 1, (.const (.bool false))), (4, 1, (.tmp 10))], none⟩,
    ⟨none, .store 5 (.tmp 2) (.tmp 11), none⟩])
  .ret)
  (.seq (.ops [⟨(some 13), .bin .eql (.tmp 3) (.const (.int .i64 5)) (some (.int .i64)), none⟩,
    ⟨(some 12), .mov (.tmp 13), none⟩])
  (.cond (.tmp 12)
  (.seq (.ops [⟨(some 14), .mov (.tmp 0), none⟩,
    ⟨(some 15), .call 15 [(.tmp 14)], none⟩,
    ⟨(some 16), .build [(.int .i64 0), .nilFunc, .nilFunc, (.bool false), .nilFunc] [(0, 1, (.const (.int .i64 2))), (1, 1, (.func 16)), (2, 1, (.func 14)), (3, 1, (.const (.bool false))), (4, 1, (.tmp 15))], none⟩,
    ⟨none, .store 5 (.tmp 2) (.tmp 16), none⟩])
  .ret)
  (.seq (.ops [⟨(some 18), .bin .eql (.tmp 3) (.const (.int .i64 6)) (some (.int .i64)), none⟩,
    ⟨(some 17), .mov (.tmp 18), none⟩])
  (.cond (.tmp 17)
  (.seq (.ops [⟨(some 19), .build [(.int .i64 0), .nilFunc, .nilFunc, (.bool false), .nilFunc] [(0, 1, (.const (.int .i64 1))), (1, 1, (.func 17)), (2, 1, (.func 14)), (3, 1, (.const (.bool false))), (4, 1, (.func 18))], none⟩,
    ⟨none, .store 5 (.tmp 2) (.tmp 19), none⟩])
  .ret)
  (.seq (.seq (.ops [⟨(some 21), .bin .eql (.tmp 3) (.const (.int .i64 7)) (some (.int .i64)), none⟩,
    ⟨(some 20), .mov (.tmp 21), none⟩])
  (.cond (.tmp 20)
  .skip
  (.seq (.ops [⟨(some 22), .bin .eql (.tmp 3) (.const (.int .i64 8)) (some (.int .i64)), none⟩,
    ⟨(some 20), .mov (.tmp 22), none⟩])
  (.cond (.tmp 20)
  .skip
  (.seq (.ops [⟨(some 23), .bin .eql (.tmp 3) (.const (.int .i64 9)) (some (.int .i64)), none⟩,
    ⟨(some 20), .mov (.tmp 23), none⟩])
  (.cond (.tmp 20)
  .skip
  (.seq (.ops [⟨(some 24), .bin .eql (.tmp 3) (.const (.int .i64 10)) (some (.int .i64)), none⟩,
    ⟨(some 20), .mov (.tmp 24), none⟩])
  (.cond (.tmp 20)
  .skip
  (.seq (.ops [⟨(some 25), .bin .eql (.tmp 3) (.const (.int .i64 11)) (some (.int .i64)), none⟩,
    ⟨(some 20), .mov (.tmp 25), none⟩])
  (.cond (.tmp 20)
  .skip
  (.ops [⟨(some 26), .bin .eql (.tmp 3) (.const (.int .i64 12)) (some (.int .i64)), none⟩,
    ⟨(some 20), .mov (.tmp 26), none⟩])))))))))))
  (.cond (.tmp 20)
  (.seq (.ops [⟨(some 27), .mov (.tmp 0), none⟩,
    ⟨(some 28), .call 20 [(.tmp 27)], none⟩,
    ⟨(some 29), .build [(.int .i64 0), .nilFunc, .nilFunc, (.bool false), .nilFunc] [(0, 1, (.const (.int .i64 2))), (1, 1, (.func 19)), (2, 1, (.func 14)), (3, 1, (.const (.bool false))), (4, 1, (.tmp 28))], none⟩,
    ⟨none, .store 5 (.tmp 2) (.tmp 29), none⟩])
  .ret)
  (.seq (.seq (.ops [⟨(some 31), .bin .eql (.tmp 3) (.const (.int .i64 13)) (some (.int .i64)), none⟩,
    ⟨(some 30), .mov (.tmp 31), none⟩])
  (.cond (.tmp 30)
  .skip
  (.ops [⟨(some 32), .bin .eql (.tmp 3) (.const (.int .i64 14)) (some (.int .i64)), none⟩,
    ⟨(some 30), .mov (.tmp 32), none⟩])))
  (.cond (.tmp 30)
  (.seq (.ops [⟨(some 33), .mov (.tmp 0), none⟩,
    ⟨(some 34), .bin .eql (.tmp 33) (.const (.int .i64 13)) (some (.int .i64)), none⟩,
    ⟨(some 35), .call 22 [(.tmp 34)], none⟩,
    ⟨(some 36), .build [(.int .i64 0), .nilFunc, .nilFunc, (.bool false), .nilFunc] [(0, 1, (.const (.int .i64 2))), (1, 1, (.func 21)), (2, 1, (.func 14)), (3, 1, (.const (.bool true))), (4, 1, (.tmp 35))], none⟩,
    ⟨none, .store 5 (.tmp 2) (.tmp 36), none⟩])
  .ret)
  (.seq (.ops [⟨(some 38), .bin .eql (.tmp 3) (.const (.int .i64 15)) (some (.int .i64)), none⟩,
    ⟨(some 37), .mov (.tmp 38), none⟩])
  (.cond (.tmp 37)
  (.seq (.ops [⟨(some 39), .build [(.int .i64 0), .nilFunc, .nilFunc, (.bool false), .nilFunc] [(0, 1, (.const (.int .i64 1))), (1, 1, (.func 21)), (2, 1, (.func 14)), (3, 1, (.const (.bool false))), (4, 1, (.func 23))], none⟩,
    ⟨none, .store 5 (.tmp 2) (.tmp 39), none⟩])
  .ret)
  (.seq (.ops [⟨(some 41), .bin .eql (.tmp 3) (.const (.int .i64 16)) (some (.int .i64)), none⟩,
    ⟨(some 40), .mov (.tmp 41), none⟩])
  (.cond (.tmp 40)
  (.seq (.ops [⟨(some 42), .build [(.int .i64 0), .nilFunc, .nilFunc, (.bool false), .nilFunc] [(0, 1, (.const (.int .i64 1))), (1, 1, (.func 24)), (2, 1, (.func 25)), (3, 1, (.const (.bool true))), (4, 1, (.func 26))], none⟩,
    ⟨none, .store 5 (.tmp 2) (.tmp 42), none⟩])
  .ret)
  (.seq (.ops [⟨(some 44), .bin .eql (.tmp 3) (.const (.int .i64 17)) (some (.int .i64)), none⟩,
    ⟨(some 43), .mov (.tmp 44), none⟩])
  (.cond (.tmp 43)
  (.seq (.ops [⟨(some 45), .build [(.int .i64 0), .nilFunc, .nilFunc, (.bool false), .nilFunc] [(0, 1, (.const (.int .i64 2))), (1, 1, (.func 27)), (2, 1, (.func 28)), (3, 1, (.const (.bool true))), (4, 1, (.func 29))], none⟩,
    ⟨none, .store 5 (.tmp 2) (.tmp 45), none⟩])
  .ret)
  (.seq (.ops [⟨(some 47), .bin .eql (.tmp 3) (.const (.int .i64 18)) (some (.int .i64)), none⟩,
    ⟨(some 46), .mov (.tmp 47), none⟩])
  (.cond (.tmp 46)
  (.seq (.ops [⟨(some 48), .build [(.int .i64 0), .nilFunc, .nilFunc, (.bool false), .nilFunc] [(0, 1, (.const (.int .i64 3))), (1, 1, (.func 30)), (2, 1, (.func 31)), (3, 1, (.const (.bool true))), (4, 1, (.func 32))], none⟩,
    ⟨none, .store 5 (.tmp 2) (.tmp 48), none⟩])
  .ret)
  (.seq (.ops [⟨(some 50), .bin .eql (.tmp 3) (.const (.int .i64 19)) (some (.int .i64)), none⟩,
    ⟨(some 49), .mov (.tmp 50), none⟩])
  (.cond (.tmp 49)
  (.seq (.ops [⟨(some 51), .build [(.int .i64 0), .nilFunc, .nilFunc, (.bool false), .nilFunc] [(0, 1, (.const (.int .i64 2))), (1, 1, (.func 33)), (2, 1, (.func 14)), (3, 1, (.const (.bool false))), (4, 1, (.func 34))], none⟩,
    ⟨none, .store 5 (.tmp 2) (.tmp 51), none⟩])
  .ret)
  (.seq (.ops [⟨(some 53), .bin .eql (.tmp 3) (.const (.int .i64 20)) (some (.int .i64)), none⟩,
    ⟨(some 52), .mov (.tmp 53), none⟩])
  (.cond (.tmp 52)
  (.seq (.ops [⟨(some 54), .build [(.int .i64 0), .nilFunc, .nilFunc, (.bool false), .nilFunc] [(0, 1, (.const (.int .i64 1))), (1, 1, (.func 35)), (2, 1, (.func 14)), (3, 1, (.const (.bool false))), (4, 1, (.func 36))], none⟩,
    ⟨none, .store 5 (.tmp 2) (.tmp 54), none⟩])
  .ret)
  (.seq (.seq (.ops [⟨(some 56), .bin .eql (.tmp 3) (.const (.int .i64 21)) (some (.int .i64)), none⟩,
    ⟨(some 55), .mov (.tmp 56), none⟩])
  (.cond (.tmp 55)
  .skip
  (.ops [⟨(some 57), .bin .eql (.tmp 3) (.const (.int .i64 22)) (some (.int .i64)), none⟩,
    ⟨(some 55), .mov (.tmp 57), none⟩])))
  (.cond (.tmp 55)
  (.seq (.ops [⟨(some 58), .mov (.tmp 0), none⟩,
    ⟨(some 59), .bin .eql (.tmp 58) (.const (.int .i64 22)) (some (.int .i64)), none⟩,
    ⟨(some 60), .call 38 [(.tmp 59)], none⟩,
    ⟨(some 61), .build [(.int .i64 0), .nilFunc, .nilFunc, (.bool false), .nilFunc] [(0, 1, (.const (.int .i64 2))), (1, 1, (.func 37)), (2, 1, (.func 14)), (3, 1, (.const (.bool false))), (4, 1, (.tmp 60))], none⟩,
    ⟨none, .store 5 (.tmp 2) (.tmp 61), none⟩])
  .ret)
  .skip))))))))))))))))))))))))))
  (.seq (.ops [⟨(some 62), .build [(.int .i64 0), .nilFunc, .nilFunc, (.bool false), .nilFunc] [], none⟩,
    ⟨none, .store 5 (.tmp 2) (.tmp 62), none⟩])
  .ret)))⟩
theorem F7_ok : compF Tryz.prog 7 = some F7 := by kernel_rfl

/-- colonnade/calc.typeOf -/
def F8 : FC := ⟨69, [.cell 4 true 7, .tmp 5, .tmp 6],
  (.seq (.ops [⟨(some 2), .box (.tmp 0), none⟩,
    ⟨(some 4), .alloc [(.string ⟨#[]⟩), (.bool false), (.int .i64 0), (.int .i64 0), (.int .i64 0), (.int .i64 0), (.slice none 0 0)], none⟩,
    ⟨(some 5), .mov (.const (.slice none 0 0)), none⟩,
    ⟨(some 6), .mov (.const (.int .i64 0)), none⟩])
  (.seq (.seq (.ops [⟨(some 13), .fieldAddr 0 (.tmp 2), none⟩,
    ⟨(some 14), .load false 1 (.tmp 13), none⟩,
    ⟨(some 15), .bin .eql (.tmp 14) (.const (.int .i64 0)) (some (.int .i64)), none⟩,
    ⟨(some 16), .mov (.tmp 15), none⟩,
    ⟨(some 17), .mov (.tmp 1), (some (16, false))⟩,
    ⟨(some 18), .len 1 (.tmp 17), (some (16, false))⟩,
    ⟨(some 19), .fieldAddr 0 (.tmp 2), (some (16, false))⟩,
    ⟨(some 20), .load false 1 (.tmp 19), (some (16, false))⟩,
    ⟨(some 21), .bin .neq (.tmp 18) (.tmp 20) (some (.int .i64)), (some (16, false))⟩,
    ⟨(some 22), .pick (.tmp 16) (.const (.bool true)) (.tmp 21), none⟩])
  (.cond (.tmp 22)
  (.seq (.ops [⟨(some 23), .build [(.string ⟨#[]⟩), (.bool false), (.int .i64 0), (.int .i64 0), (.int .i64 0), (.int .i64 0), (.slice none 0 0)] [], none⟩,
    ⟨none, .store 7 (.tmp 4) (.tmp 23), none⟩,
    ⟨(some 5), .mov (.const (.slice none 0 0)), none⟩,
    ⟨(some 6), .mov (.const (.int .i64 1)), none⟩])
  .ret)
  .skip))
  (.seq (.ops [⟨(some 7), .mov (.const (.slice none 0 0)), none⟩])
  (.seq (.seq (.ops [⟨(some 24), .mov (.tmp 1), none⟩,
    ⟨(some 25), .len 1 (.tmp 24), none⟩,
    ⟨(some 26), .mov (.const (.int .i64 0)), none⟩])
  (.block 0 (.loop (.seq (.ops [⟨(some 27), .bin .lss (.tmp 26) (.tmp 25) (some (.int .i64)), none⟩])
  (.seq (.cond (.tmp 27)
  .skip
  (.exit 0))
  (.seq (.block 1 (.seq (.ops [⟨(some 28), .indexAddr 7 (.tmp 24) (.tmp 26), none⟩,
    ⟨(some 29), .load true 7 (.tmp 28), none⟩,
    ⟨(some 9), .alloc [(.string ⟨#[]⟩), (.bool false), (.int .i64 0), (.int .i64 0), (.int .i64 0), (.int .i64 0), (.slice none 0 0)], none⟩,
    ⟨none, .store 7 (.tmp 9) (.tmp 29), none⟩])
  (.seq (.seq (.ops [⟨(some 30), .load true 7 (.tmp 9), none⟩,
    ⟨(some 31), .call 39 [(.tmp 30)], none⟩,
    ⟨(some 32), .field false 0 1 (.tmp 31), none⟩,
    ⟨(some 33), .bin .neq (.tmp 32) (.const (.int .i64 0)) (some (.int .i64)), none⟩])
  (.cond (.tmp 33)
  (.seq (.ops [⟨(some 34), .build [(.string ⟨#[]⟩), (.bool false), (.int .i64 0), (.int .i64 0), (.int .i64 0), (.int .i64 0), (.slice none 0 0)] [], none⟩,
    ⟨none, .store 7 (.tmp 4) (.tmp 34), none⟩,
    ⟨(some 5), .mov (.const (.slice none 0 0)), none⟩,
    ⟨(some 6), .mov (.const (.int .i64 5)), none⟩])
  .ret)
  .skip))
  (.ops [⟨(some 35), .mov (.tmp 7), none⟩,
    ⟨(some 36), .load true 7 (.tmp 9), none⟩,
    ⟨(some 37), .call 40 [(.tmp 36)], none⟩,
    ⟨(some 38), .buildSlice 7 1 [(.string ⟨#[]⟩), (.bool false), (.int .i64 0), (.int .i64 0), (.int .i64 0), (.int .i64 0), (.slice none 0 0)] [(0, 7, (.tmp 37))], none⟩,
    ⟨(some 39), .append 7 80 (.tmp 35) (.tmp 38), none⟩,
    ⟨(some 7), .mov (.tmp 39), none⟩]))))
  (.ops [⟨(some 40), .bin .add (.tmp 26) (.const (.int .i64 1)) (some (.int .i64)), none⟩,
    ⟨(some 26), .mov (.tmp 40), none⟩])))))))
  (.seq (.ops [⟨(some 42), .fieldAddr 1 (.tmp 2), none⟩,
    ⟨(some 43), .load false 1 (.tmp 42), none⟩,
    ⟨(some 44), .mov (.tmp 7), none⟩,
    ⟨(some 45), .callv (.tmp 43) [(.tmp 44)], none⟩,
    ⟨(some 41), .mov (.tmp 45), none⟩,
    ⟨(some 46), .extract (.tmp 41) 0, none⟩,
    ⟨(some 47), .extract (.tmp 41) 1, none⟩,
    ⟨(some 10), .alloc [(.int .i64 0), (.int .i64 0), (.int .i64 0), (.int .i64 0), (.slice none 0 0)], none⟩,
    ⟨none, .store 5 (.tmp 10) (.tmp 46), none⟩,
    ⟨(some 11), .mov (.tmp 47), none⟩])
  (.seq (.seq (.ops [⟨(some 48), .mov (.tmp 11), none⟩,
    ⟨(some 49), .un .not (.tmp 48), none⟩])
  (.cond (.tmp 49)
  (.seq (.ops [⟨(some 50), .build [(.string ⟨#[]⟩), (.bool false), (.int .i64 0), (.int .i64 0), (.int .i64 0), (.int .i64 0), (.slice none 0 0)] [], none⟩,
    ⟨none, .store 7 (.tmp 4) (.tmp 50), none⟩,
    ⟨(some 5), .mov (.const (.slice none 0 0)), none⟩,
    ⟨(some 6), .mov (.const (.int .i64 5)), none⟩])
  .ret)
  .skip))
  (.seq (.ops [⟨(some 51), .mov (.tmp 1), none⟩,
    ⟨(some 52), .indexAddr 7 (.tmp 51) (.const (.int .i64 0)), none⟩,
    ⟨(some 53), .fieldAddr 0 (.tmp 52), none⟩,
    ⟨(some 54), .load false 1 (.tmp 53), none⟩,
    ⟨(some 55), .fieldAddr 2 (.tmp 2), none⟩,
    ⟨(some 56), .load false 1 (.tmp 55), none⟩,
    ⟨(some 57), .mov (.tmp 7), none⟩,
    ⟨(some 59), .load true 5 (.tmp 10), none⟩,
    ⟨(some 58), .callv (.tmp 56) [(.tmp 57)], none⟩,
    ⟨none, .again 59 true 5 (.tmp 10), none⟩,
    ⟨none, .again 54 false 1 (.tmp 53), none⟩,
    ⟨(some 60), .build [(.string ⟨#[]⟩), (.bool false), (.int .i64 0), (.int .i64 0), (.int .i64 0), (.int .i64 0), (.slice none 0 0)] [(0, 1, (.tmp 54)), (1, 1, (.tmp 58)), (2, 5, (.tmp 59))], none⟩,
    ⟨(some 61), .call 41 [(.tmp 60)], none⟩,
    ⟨(some 12), .alloc [(.string ⟨#[]⟩), (.bool false), (.int .i64 0), (.int .i64 0), (.int .i64 0), (.int .i64 0), (.slice none 0 0)], none⟩,
    ⟨none, .store 7 (.tmp 12) (.tmp 61), none⟩])
  (.seq (.seq (.ops [⟨(some 62), .load true 7 (.tmp 12), none⟩,
    ⟨(some 63), .call 39 [(.tmp 62)], none⟩,
    ⟨(some 64), .field false 0 1 (.tmp 63), none⟩,
    ⟨(some 65), .bin .neq (.tmp 64) (.const (.int .i64 0)) (some (.int .i64)), none⟩])
  (.cond (.tmp 65)
  (.seq (.ops [⟨(some 66), .build [(.string ⟨#[]⟩), (.bool false), (.int .i64 0), (.int .i64 0), (.int .i64 0), (.int .i64 0), (.slice none 0 0)] [], none⟩,
    ⟨none, .store 7 (.tmp 4) (.tmp 66), none⟩,
    ⟨(some 5), .mov (.const (.slice none 0 0)), none⟩,
    ⟨(some 6), .mov (.const (.int .i64 5)), none⟩])
  .ret)
  .skip))
  (.seq (.ops [⟨(some 67), .load true 7 (.tmp 12), none⟩,
    ⟨(some 68), .mov (.tmp 7), none⟩,
    ⟨none, .store 7 (.tmp 4) (.tmp 67), none⟩,
    ⟨(some 5), .mov (.tmp 68), none⟩,
    ⟨(some 6), .mov (.const (.int .i64 0)), none⟩])
  .ret)))))))))⟩
theorem F8_ok : compF Tryz.prog 8 = some F8 := by kernel_rfl

/-- colonnade/calc.columns -/
def F9 : FC := ⟨55, [.tmp 4, .tmp 5],
  (.seq (.ops [⟨(some 4), .mov (.const (.slice none 0 0)), none⟩,
    ⟨(some 5), .mov (.const (.int .i64 0)), none⟩])
  (.seq (.ops [⟨(some 6), .mov (.const (.slice none 0 0)), none⟩])
  (.seq (.seq (.ops [⟨(some 13), .mov (.tmp 1), none⟩,
    ⟨(some 14), .len 1 (.tmp 13), none⟩,
    ⟨(some 15), .mov (.const (.int .i64 0)), none⟩])
  (.block 0 (.loop (.seq (.ops [⟨(some 16), .bin .lss (.tmp 15) (.tmp 14) (some (.int .i64)), none⟩])
  (.seq (.cond (.tmp 16)
  .skip
  (.exit 0))
  (.seq (.block 1 (.seq (.ops [⟨(some 17), .mov (.tmp 15), none⟩,
    ⟨(some 18), .indexAddr 6 (.tmp 13) (.tmp 15), none⟩,
    ⟨(some 19), .load true 6 (.tmp 18), none⟩,
    ⟨(some 8), .alloc [(.int .i64 0), (.int .i64 0), (.int .i64 0), (.slice none 0 0), (.slice none 0 0), (.slice none 0 0)], none⟩,
    ⟨(some 7), .mov (.tmp 17), none⟩,
    ⟨none, .store 6 (.tmp 8) (.tmp 19), none⟩])
  (.seq (.ops [⟨(some 21), .mov (.tmp 0), none⟩,
    ⟨(some 22), .mov (.tmp 7), none⟩,
    ⟨(some 23), .indexAddr 7 (.tmp 21) (.tmp 22), none⟩,
    ⟨(some 24), .load true 7 (.tmp 23), none⟩,
    ⟨(some 25), .load true 6 (.tmp 8), none⟩,
    ⟨(some 26), .call 42 [(.tmp 24), (.tmp 25)], none⟩,
    ⟨(some 20), .mov (.tmp 26), none⟩,
    ⟨(some 27), .extract (.tmp 20) 0, none⟩,
    ⟨(some 28), .extract (.tmp 20) 1, none⟩,
    ⟨(some 9), .mov (.tmp 27), none⟩,
    ⟨(some 10), .alloc [(.int .i64 0), (.slice none 0 0), (.int .i64 0)], none⟩,
    ⟨none, .store 3 (.tmp 10) (.tmp 28), none⟩])
  (.seq (.seq (.ops [⟨(some 29), .fieldAddr 0 (.tmp 10), none⟩,
    ⟨(some 30), .load false 1 (.tmp 29), none⟩,
    ⟨(some 31), .bin .neq (.tmp 30) (.const (.int .i64 0)) (some (.int .i64)), none⟩])
  (.cond (.tmp 31)
  (.seq (.ops [⟨(some 32), .fieldAddr 0 (.tmp 10), none⟩,
    ⟨(some 33), .load false 1 (.tmp 32), none⟩,
    ⟨(some 4), .mov (.const (.slice none 0 0)), none⟩,
    ⟨(some 5), .mov (.tmp 33), none⟩])
  .ret)
  .skip))
  (.ops [⟨(some 34), .mov (.tmp 6), none⟩,
    ⟨(some 35), .mov (.tmp 9), none⟩,
    ⟨(some 36), .call 43 [(.tmp 35)], none⟩,
    ⟨(some 37), .buildSlice 1 1 [(.slice none 0 0)] [(0, 1, (.tmp 36))], none⟩,
    ⟨(some 38), .append 1 24 (.tmp 34) (.tmp 37), none⟩,
    ⟨(some 6), .mov (.tmp 38), none⟩])))))
  (.ops [⟨(some 39), .bin .add (.tmp 15) (.const (.int .i64 1)) (some (.int .i64)), none⟩,
    ⟨(some 15), .mov (.tmp 39), none⟩])))))))
  (.seq (.seq (.ops [⟨(some 40), .mov (.tmp 6), none⟩,
    ⟨(some 41), .len 1 (.tmp 40), none⟩,
    ⟨(some 42), .mov (.const (.int .i64 0)), none⟩])
  (.block 2 (.loop (.seq (.ops [⟨(some 43), .bin .lss (.tmp 42) (.tmp 41) (some (.int .i64)), none⟩])
  (.seq (.cond (.tmp 43)
  .skip
  (.exit 2))
  (.seq (.block 3 (.seq (.ops [⟨(some 44), .indexAddr 1 (.tmp 40) (.tmp 42), none⟩,
    ⟨(some 45), .load false 1 (.tmp 44), none⟩,
    ⟨(some 12), .mov (.tmp 45), none⟩])
  (.seq (.ops [⟨(some 46), .mov (.tmp 12), none⟩,
    ⟨(some 47), .len 1 (.tmp 46), none⟩,
    ⟨(some 48), .mov (.tmp 6), none⟩,
    ⟨(some 49), .indexAddr 1 (.tmp 48) (.const (.int .i64 0)), none⟩,
    ⟨(some 50), .load false 1 (.tmp 49), none⟩,
    ⟨(some 51), .len 1 (.tmp 50), none⟩,
    ⟨(some 52), .bin .neq (.tmp 47) (.tmp 51) (some (.int .i64)), none⟩])
  (.cond (.tmp 52)
  (.seq (.ops [⟨(some 4), .mov (.const (.slice none 0 0)), none⟩,
    ⟨(some 5), .mov (.const (.int .i64 6)), none⟩])
  .ret)
  .skip))))
  (.ops [⟨(some 53), .bin .add (.tmp 42) (.const (.int .i64 1)) (some (.int .i64)), none⟩,
    ⟨(some 42), .mov (.tmp 53), none⟩])))))))
  (.seq (.ops [⟨(some 54), .mov (.tmp 6), none⟩,
    ⟨(some 4), .mov (.tmp 54), none⟩,
    ⟨(some 5), .mov (.const (.int .i64 0)), none⟩])
  .ret)))))⟩
theorem F9_ok : compF Tryz.prog 9 = some F9 := by kernel_rfl

/-- colonnade/calc.aNull -/
def F10 : FC := ⟨14, [.tmp 2],
  (.seq (.ops [⟨(some 2), .mov (.const (.bool false)), none⟩])
  (.seq (.seq (.ops [⟨(some 5), .mov (.tmp 0), none⟩,
    ⟨(some 6), .len 1 (.tmp 5), none⟩,
    ⟨(some 7), .mov (.const (.int .i64 0)), none⟩])
  (.block 0 (.loop (.seq (.ops [⟨(some 8), .bin .lss (.tmp 7) (.tmp 6) (some (.int .i64)), none⟩])
  (.seq (.cond (.tmp 8)
  .skip
  (.exit 0))
  (.seq (.block 1 (.seq (.ops [⟨(some 9), .indexAddr 4 (.tmp 5) (.tmp 7), none⟩,
    ⟨(some 10), .load true 4 (.tmp 9), none⟩,
    ⟨(some 4), .alloc [(.bool false), (.int .i64 0), (.string ⟨#[]⟩), (.slice none 0 0)], none⟩,
    ⟨none, .store 4 (.tmp 4) (.tmp 10), none⟩])
  (.seq (.ops [⟨(some 11), .fieldAddr 0 (.tmp 4), none⟩,
    ⟨(some 12), .load false 1 (.tmp 11), none⟩])
  (.cond (.tmp 12)
  (.seq (.ops [⟨(some 2), .mov (.const (.bool true)), none⟩])
  .ret)
  .skip))))
  (.ops [⟨(some 13), .bin .add (.tmp 7) (.const (.int .i64 1)) (some (.int .i64)), none⟩,
    ⟨(some 7), .mov (.tmp 13), none⟩])))))))
  (.seq (.ops [⟨(some 2), .mov (.const (.bool false)), none⟩])
  .ret)))⟩
theorem F10_ok : compF Tryz.prog 10 = some F10 := by kernel_rfl

/-- colonnade/build.Of -/
def F11 : FC := ⟨45, [.cell 4 true 6, .tmp 5, .tmp 6],
  (.seq (.ops [⟨(some 2), .box (.tmp 0), none⟩,
    ⟨(some 4), .alloc [(.int .i64 0), (.int .i64 0), (.int .i64 0), (.slice none 0 0), (.slice none 0 0), (.slice none 0 0)], none⟩,
    ⟨(some 5), .mov (.const (.int .i64 0)), none⟩,
    ⟨(some 6), .mov (.const (.int .i64 0)), none⟩])
  (.seq (.ops [⟨(some 15), .load true 7 (.tmp 2), none⟩,
    ⟨(some 16), .call 44 [(.tmp 15)], none⟩,
    ⟨(some 14), .mov (.tmp 16), none⟩,
    ⟨(some 17), .extract (.tmp 14) 0, none⟩,
    ⟨(some 18), .extract (.tmp 14) 1, none⟩,
    ⟨(some 7), .mov (.tmp 17), none⟩,
    ⟨(some 8), .mov (.tmp 18), none⟩])
  (.seq (.seq (.ops [⟨(some 19), .mov (.tmp 8), none⟩,
    ⟨(some 20), .bin .neq (.tmp 19) (.const (.int .i64 0)) (some (.int .i64)), none⟩])
  (.cond (.tmp 20)
  (.seq (.ops [⟨(some 21), .build [(.int .i64 0), (.int .i64 0), (.int .i64 0), (.slice none 0 0), (.slice none 0 0), (.slice none 0 0)] [], none⟩,
    ⟨(some 22), .mov (.tmp 8), none⟩,
    ⟨none, .store 6 (.tmp 4) (.tmp 21), none⟩,
    ⟨(some 5), .mov (.tmp 22), none⟩,
    ⟨(some 6), .mov (.const (.int .i64 0)), none⟩])
  .ret)
  .skip))
  (.seq (.seq (.ops [⟨(some 23), .mov (.tmp 1), none⟩,
    ⟨(some 24), .len 1 (.tmp 23), none⟩,
    ⟨(some 25), .mov (.const (.int .i64 0)), none⟩])
  (.block 0 (.loop (.seq (.ops [⟨(some 26), .bin .lss (.tmp 25) (.tmp 24) (some (.int .i64)), none⟩])
  (.seq (.cond (.tmp 26)
  .skip
  (.exit 0))
  (.seq (.block 1 (.seq (.ops [⟨(some 27), .mov (.tmp 25), none⟩,
    ⟨(some 28), .indexAddr 4 (.tmp 23) (.tmp 25), none⟩,
    ⟨(some 29), .load true 4 (.tmp 28), none⟩,
    ⟨(some 10), .alloc [(.bool false), (.int .i64 0), (.string ⟨#[]⟩), (.slice none 0 0)], none⟩,
    ⟨(some 9), .mov (.tmp 27), none⟩,
    ⟨none, .store 4 (.tmp 10) (.tmp 29), none⟩])
  (.seq (.ops [⟨(some 30), .mov (.tmp 7), none⟩,
    ⟨(some 31), .load true 4 (.tmp 10), none⟩,
    ⟨(some 32), .call 45 [(.tmp 30), (.tmp 31)], none⟩,
    ⟨(some 11), .mov (.tmp 32), none⟩])
  (.seq (.ops [⟨(some 33), .mov (.tmp 11), none⟩,
    ⟨(some 34), .bin .neq (.tmp 33) (.const (.int .i64 0)) (some (.int .i64)), none⟩])
  (.cond (.tmp 34)
  (.seq (.ops [⟨(some 35), .build [(.int .i64 0), (.int .i64 0), (.int .i64 0), (.slice none 0 0), (.slice none 0 0), (.slice none 0 0)] [], none⟩,
    ⟨(some 36), .mov (.tmp 11), none⟩,
    ⟨(some 37), .mov (.tmp 9), none⟩,
    ⟨none, .store 6 (.tmp 4) (.tmp 35), none⟩,
    ⟨(some 5), .mov (.tmp 36), none⟩,
    ⟨(some 6), .mov (.tmp 37), none⟩])
  .ret)
  .skip)))))
  (.ops [⟨(some 38), .bin .add (.tmp 25) (.const (.int .i64 1)) (some (.int .i64)), none⟩,
    ⟨(some 25), .mov (.tmp 38), none⟩])))))))
  (.seq (.ops [⟨(some 40), .mov (.tmp 7), none⟩,
    ⟨(some 41), .call 46 [(.tmp 40)], none⟩,
    ⟨(some 39), .mov (.tmp 41), none⟩,
    ⟨(some 42), .extract (.tmp 39) 0, none⟩,
    ⟨(some 43), .extract (.tmp 39) 1, none⟩,
    ⟨(some 12), .alloc [(.int .i64 0), (.int .i64 0), (.int .i64 0), (.slice none 0 0), (.slice none 0 0), (.slice none 0 0)], none⟩,
    ⟨none, .store 6 (.tmp 12) (.tmp 42), none⟩,
    ⟨(some 13), .mov (.tmp 43), none⟩])
  (.seq (.ops [⟨(some 44), .load true 6 (.tmp 12), none⟩,
    ⟨none, .store 6 (.tmp 4) (.tmp 44), none⟩,
    ⟨(some 5), .mov (.const (.int .i64 0)), none⟩,
    ⟨(some 6), .mov (.const (.int .i64 0)), none⟩])
  .ret))))))⟩
theorem F11_ok : compF Tryz.prog 11 = some F11 := by kernel_rfl

/-- colonnade/colonnaderef09.EqList -/
def F12 : FC := ⟨27, [.tmp 4],
  (.seq (.ops [⟨(some 4), .mov (.const (.bool false)), none⟩])
  (.seq (.seq (.ops [⟨(some 6), .mov (.tmp 0), none⟩,
    ⟨(some 7), .len 1 (.tmp 6), none⟩,
    ⟨(some 8), .mov (.tmp 1), none⟩,
    ⟨(some 9), .len 1 (.tmp 8), none⟩,
    ⟨(some 10), .bin .neq (.tmp 7) (.tmp 9) (some (.int .i64)), none⟩])
  (.cond (.tmp 10)
  (.seq (.ops [⟨(some 4), .mov (.const (.bool false)), none⟩])
  .ret)
  .skip))
  (.seq (.seq (.ops [⟨(some 5), .mov (.const (.int .i64 0)), none⟩])
  (.block 0 (.loop (.seq (.seq (.ops [⟨(some 11), .mov (.tmp 5), none⟩,
    ⟨(some 12), .mov (.tmp 0), none⟩,
    ⟨(some 13), .len 1 (.tmp 12), none⟩,
    ⟨(some 14), .bin .lss (.tmp 11) (.tmp 13) (some (.int .i64)), none⟩])
  (.cond (.tmp 14)
  .skip
  (.exit 0)))
  (.seq (.block 1 (.seq (.ops [⟨(some 17), .mov (.tmp 0), none⟩,
    ⟨(some 18), .mov (.tmp 5), none⟩,
    ⟨(some 19), .indexAddr 6 (.tmp 17) (.tmp 18), none⟩,
    ⟨(some 20), .load true 6 (.tmp 19), none⟩,
    ⟨(some 21), .mov (.tmp 1), none⟩,
    ⟨(some 22), .mov (.tmp 5), none⟩,
    ⟨(some 23), .indexAddr 6 (.tmp 21) (.tmp 22), none⟩,
    ⟨(some 24), .load true 6 (.tmp 23), none⟩,
    ⟨(some 25), .call 6 [(.tmp 20), (.tmp 24)], none⟩,
    ⟨(some 26), .un .not (.tmp 25), none⟩])
  (.cond (.tmp 26)
  (.seq (.ops [⟨(some 4), .mov (.const (.bool false)), none⟩])
  .ret)
  .skip)))
  (.ops [⟨(some 15), .mov (.tmp 5), none⟩,
    ⟨(some 16), .bin .add (.tmp 15) (.const (.int .i64 1)) (some (.int .i64)), none⟩,
    ⟨(some 5), .mov (.tmp 16), none⟩]))))))
  (.seq (.ops [⟨(some 4), .mov (.const (.bool true)), none⟩])
  .ret))))⟩
theorem F12_ok : compF Tryz.prog 12 = some F12 := by kernel_rfl

/-- colonnade/calc.numbers -/
def F13 : FC := ⟨33, [.cell 2 true 5, .tmp 3],
  (.seq (.ops [⟨(some 2), .alloc [(.int .i64 0), (.int .i64 0), (.int .i64 0), (.int .i64 0), (.slice none 0 0)], none⟩,
    ⟨(some 3), .mov (.const (.bool false)), none⟩])
  (.seq (.ops [⟨(some 7), .mov (.tmp 0), none⟩,
    ⟨(some 8), .indexAddr 7 (.tmp 7) (.const (.int .i64 0)), none⟩,
    ⟨(some 9), .fieldAddr 2 (.tmp 8), none⟩,
    ⟨(some 10), .fieldAddr 0 (.tmp 9), none⟩,
    ⟨(some 11), .load false 1 (.tmp 10), none⟩,
    ⟨(some 4), .mov (.tmp 11), none⟩])
  (.seq (.seq (.ops [⟨(some 12), .mov (.tmp 0), none⟩,
    ⟨(some 13), .len 1 (.tmp 12), none⟩,
    ⟨(some 14), .mov (.const (.int .i64 0)), none⟩])
  (.block 0 (.loop (.seq (.ops [⟨(some 15), .bin .lss (.tmp 14) (.tmp 13) (some (.int .i64)), none⟩])
  (.seq (.cond (.tmp 15)
  .skip
  (.exit 0))
  (.seq (.block 1 (.seq (.ops [⟨(some 16), .indexAddr 7 (.tmp 12) (.tmp 14), none⟩,
    ⟨(some 17), .load true 7 (.tmp 16), none⟩,
    ⟨(some 6), .alloc [(.string ⟨#[]⟩), (.bool false), (.int .i64 0), (.int .i64 0), (.int .i64 0), (.int .i64 0), (.slice none 0 0)], none⟩,
    ⟨none, .store 7 (.tmp 6) (.tmp 17), none⟩])
  (.seq (.ops [⟨(some 18), .fieldAddr 2 (.tmp 6), none⟩,
    ⟨(some 19), .fieldAddr 0 (.tmp 18), none⟩,
    ⟨(some 20), .load false 1 (.tmp 19), none⟩,
    ⟨(some 21), .mov (.tmp 4), none⟩,
    ⟨(some 22), .bin .neq (.tmp 20) (.tmp 21) (some (.int .i64)), none⟩])
  (.cond (.tmp 22)
  (.seq (.ops [⟨(some 23), .build [(.int .i64 0), (.int .i64 0), (.int .i64 0), (.int .i64 0), (.slice none 0 0)] [], none⟩,
    ⟨none, .store 5 (.tmp 2) (.tmp 23), none⟩,
    ⟨(some 3), .mov (.const (.bool false)), none⟩])
  .ret)
  .skip))))
  (.ops [⟨(some 24), .bin .add (.tmp 14) (.const (.int .i64 1)) (some (.int .i64)), none⟩,
    ⟨(some 14), .mov (.tmp 24), none⟩])))))))
  (.seq (.ops [⟨(some 25), .mov (.tmp 4), none⟩,
    ⟨(some 26), .build [(.int .i64 0), (.int .i64 0), (.int .i64 0), (.int .i64 0), (.slice none 0 0)] [(0, 1, (.tmp 25))], none⟩,
    ⟨(some 27), .mov (.tmp 4), none⟩,
    ⟨(some 28), .call 47 [(.tmp 27)], none⟩,
    ⟨(some 29), .mov (.tmp 28), none⟩,
    ⟨(some 30), .mov (.tmp 4), (some (29, false))⟩,
    ⟨(some 31), .bin .eql (.tmp 30) (.const (.int .i64 11)) (some (.int .i64)), (some (29, false))⟩,
    ⟨(some 32), .pick (.tmp 29) (.const (.bool true)) (.tmp 31), none⟩,
    ⟨none, .store 5 (.tmp 2) (.tmp 26), none⟩,
    ⟨(some 3), .mov (.tmp 32), none⟩])
  .ret))))⟩
theorem F13_ok : compF Tryz.prog 13 = some F13 := by kernel_rfl

/-- colonnade/calc.oneLets -/
def F14 : FC := ⟨14, [.tmp 2],
  (.seq (.ops [⟨(some 2), .mov (.const (.bool false)), none⟩])
  (.seq (.seq (.ops [⟨(some 5), .mov (.tmp 0), none⟩,
    ⟨(some 6), .len 1 (.tmp 5), none⟩,
    ⟨(some 7), .mov (.const (.int .i64 0)), none⟩])
  (.block 0 (.loop (.seq (.ops [⟨(some 8), .bin .lss (.tmp 7) (.tmp 6) (some (.int .i64)), none⟩])
  (.seq (.cond (.tmp 8)
  .skip
  (.exit 0))
  (.seq (.block 1 (.seq (.ops [⟨(some 9), .indexAddr 7 (.tmp 5) (.tmp 7), none⟩,
    ⟨(some 10), .load true 7 (.tmp 9), none⟩,
    ⟨(some 4), .alloc [(.string ⟨#[]⟩), (.bool false), (.int .i64 0), (.int .i64 0), (.int .i64 0), (.int .i64 0), (.slice none 0 0)], none⟩,
    ⟨none, .store 7 (.tmp 4) (.tmp 10), none⟩])
  (.seq (.ops [⟨(some 11), .fieldAddr 1 (.tmp 4), none⟩,
    ⟨(some 12), .load false 1 (.tmp 11), none⟩])
  (.cond (.tmp 12)
  (.seq (.ops [⟨(some 2), .mov (.const (.bool true)), none⟩])
  .ret)
  .skip))))
  (.ops [⟨(some 13), .bin .add (.tmp 7) (.const (.int .i64 1)) (some (.int .i64)), none⟩,
    ⟨(some 7), .mov (.tmp 13), none⟩])))))))
  (.seq (.ops [⟨(some 2), .mov (.const (.bool false)), none⟩])
  .ret)))⟩
theorem F14_ok : compF Tryz.prog 14 = some F14 := by kernel_rfl

/-- colonnade/calc.reckon -/
def F15 : FC := ⟨4, [.tmp 2],
  (.seq (.ops [⟨(some 1), .box (.tmp 0), none⟩,
    ⟨(some 2), .mov (.const .nilFunc), none⟩])
  (.seq (.ops [⟨(some 3), .mkFunc (.func 48) [] [(.tmp 1)], none⟩,
    ⟨(some 2), .mov (.tmp 3), none⟩])
  .ret))⟩
theorem F15_ok : compF Tryz.prog 15 = some F15 := by kernel_rfl

/-- colonnade/kind.CheckField -/
def F39 : FC := ⟨17, [.cell 2 true 3],
  (.seq (.ops [⟨(some 1), .box (.tmp 0), none⟩,
    ⟨(some 2), .alloc [(.int .i64 0), (.slice none 0 0), (.int .i64 0)], none⟩])
  (.seq (.ops [⟨(some 4), .load true 7 (.tmp 1), none⟩,
    ⟨(some 5), .buildSlice 7 1 [(.string ⟨#[]⟩), (.bool false), (.int .i64 0), (.int .i64 0), (.int .i64 0), (.int .i64 0), (.slice none 0 0)] [(0, 7, (.tmp 4))], none⟩,
    ⟨(some 6), .build [(.slice none 0 0), (.slice none 0 0)] [(0, 1, (.tmp 5))], none⟩,
    ⟨(some 7), .call 61 [(.tmp 6)], none⟩,
    ⟨(some 3), .alloc [(.int .i64 0), (.slice none 0 0), (.int .i64 0)], none⟩,
    ⟨none, .store 3 (.tmp 3) (.tmp 7), none⟩])
  (.seq (.seq (.ops [⟨(some 8), .fieldAddr 1 (.tmp 3), none⟩,
    ⟨(some 9), .load false 1 (.tmp 8), none⟩,
    ⟨(some 10), .len 1 (.tmp 9), none⟩,
    ⟨(some 11), .bin .gtr (.tmp 10) (.const (.int .i64 0)) (some (.int .i64)), none⟩])
  (.cond (.tmp 11)
  (.ops [⟨(some 12), .fieldAddr 1 (.tmp 3), none⟩,
    ⟨(some 13), .load false 1 (.tmp 12), none⟩,
    ⟨(some 14), .slice 1 (.tmp 13) (some (.const (.int .i64 1))) none none, none⟩,
    ⟨(some 15), .fieldAddr 1 (.tmp 3), none⟩,
    ⟨none, .store 1 (.tmp 15) (.tmp 14), none⟩])
  .skip))
  (.seq (.ops [⟨(some 16), .load true 3 (.tmp 3), none⟩,
    ⟨none, .store 3 (.tmp 2) (.tmp 16), none⟩])
  .ret))))⟩
theorem F39_ok : compF Tryz.prog 39 = some F39 := by kernel_rfl

/-- colonnade/calc.plain -/
def F40 : FC := ⟨31, [.cell 2 true 7],
  (.seq (.ops [⟨(some 1), .box (.tmp 0), none⟩,
    ⟨(some 2), .alloc [(.string ⟨#[]⟩), (.bool false), (.int .i64 0), (.int .i64 0), (.int .i64 0), (.int .i64 0), (.slice none 0 0)], none⟩])
  (.seq (.block 0 (.loop (.seq (.seq (.ops [⟨(some 4), .fieldAddr 2 (.tmp 1), none⟩,
    ⟨(some 5), .fieldAddr 0 (.tmp 4), none⟩,
    ⟨(some 6), .load false 1 (.tmp 5), none⟩,
    ⟨(some 7), .bin .eql (.tmp 6) (.const (.int .i64 19)) (some (.int .i64)), none⟩,
    ⟨(some 8), .mov (.tmp 7), none⟩,
    ⟨(some 9), .fieldAddr 2 (.tmp 1), (some (8, false))⟩,
    ⟨(some 10), .fieldAddr 0 (.tmp 9), (some (8, false))⟩,
    ⟨(some 11), .load false 1 (.tmp 10), (some (8, false))⟩,
    ⟨(some 12), .bin .eql (.tmp 11) (.const (.int .i64 20)) (some (.int .i64)), (some (8, false))⟩,
    ⟨(some 13), .pick (.tmp 8) (.const (.bool true)) (.tmp 12), none⟩])
  (.cond (.tmp 13)
  .skip
  (.exit 0)))
  (.block 1 (.seq (.ops [⟨(some 14), .fieldAddr 2 (.tmp 1), none⟩,
    ⟨(some 15), .fieldAddr 4 (.tmp 14), none⟩,
    ⟨(some 16), .load false 1 (.tmp 15), none⟩,
    ⟨(some 17), .indexAddr 7 (.tmp 16) (.const (.int .i64 0)), none⟩,
    ⟨(some 18), .load true 7 (.tmp 17), none⟩,
    ⟨(some 3), .alloc [(.string ⟨#[]⟩), (.bool false), (.int .i64 0), (.int .i64 0), (.int .i64 0), (.int .i64 0), (.slice none 0 0)], none⟩,
    ⟨none, .store 7 (.tmp 3) (.tmp 18), none⟩])
  (.seq (.seq (.ops [⟨(some 19), .fieldAddr 2 (.tmp 1), none⟩,
    ⟨(some 20), .fieldAddr 0 (.tmp 19), none⟩,
    ⟨(some 21), .load false 1 (.tmp 20), none⟩,
    ⟨(some 22), .bin .eql (.tmp 21) (.const (.int .i64 19)) (some (.int .i64)), none⟩])
  (.cond (.tmp 22)
  (.ops [⟨(some 23), .fieldAddr 1 (.tmp 1), none⟩,
    ⟨(some 24), .load false 1 (.tmp 23), none⟩,
    ⟨(some 25), .fieldAddr 1 (.tmp 3), none⟩,
    ⟨none, .store 1 (.tmp 25) (.tmp 24), none⟩])
  .skip))
  (.seq (.ops [⟨(some 26), .fieldAddr 0 (.tmp 1), none⟩,
    ⟨(some 27), .load false 1 (.tmp 26), none⟩,
    ⟨(some 28), .fieldAddr 0 (.tmp 3), none⟩,
    ⟨none, .store 1 (.tmp 28) (.tmp 27), none⟩])
  (.ops [⟨(some 29), .load true 7 (.tmp 3), none⟩,
    ⟨none, .store 7 (.tmp 1) (.tmp 29), none⟩]))))))))
  (.seq (.ops [⟨(some 30), .load true 7 (.tmp 1), none⟩,
    ⟨none, .store 7 (.tmp 2) (.tmp 30), none⟩])
  .ret)))⟩
theorem F40_ok : compF Tryz.prog 40 = some F40 := by kernel_rfl

/-- colonnade/calc.copied -/
def F41 : FC := ⟨24, [.cell 2 true 7],
  (.seq (.ops [⟨(some 1), .box (.tmp 0), none⟩,
    ⟨(some 2), .alloc [(.string ⟨#[]⟩), (.bool false), (.int .i64 0), (.int .i64 0), (.int .i64 0), (.int .i64 0), (.slice none 0 0)], none⟩])
  (.seq (.ops [⟨(some 3), .mov (.const (.slice none 0 0)), none⟩])
  (.seq (.seq (.ops [⟨(some 6), .fieldAddr 2 (.tmp 1), none⟩,
    ⟨(some 7), .fieldAddr 4 (.tmp 6), none⟩,
    ⟨(some 8), .load false 1 (.tmp 7), none⟩,
    ⟨(some 9), .len 1 (.tmp 8), none⟩,
    ⟨(some 10), .mov (.const (.int .i64 0)), none⟩])
  (.block 0 (.loop (.seq (.ops [⟨(some 11), .bin .lss (.tmp 10) (.tmp 9) (some (.int .i64)), none⟩])
  (.seq (.cond (.tmp 11)
  .skip
  (.exit 0))
  (.seq (.block 1 (.seq (.ops [⟨(some 12), .indexAddr 7 (.tmp 8) (.tmp 10), none⟩,
    ⟨(some 13), .load true 7 (.tmp 12), none⟩,
    ⟨(some 5), .alloc [(.string ⟨#[]⟩), (.bool false), (.int .i64 0), (.int .i64 0), (.int .i64 0), (.int .i64 0), (.slice none 0 0)], none⟩,
    ⟨none, .store 7 (.tmp 5) (.tmp 13), none⟩])
  (.ops [⟨(some 14), .mov (.tmp 3), none⟩,
    ⟨(some 15), .load true 7 (.tmp 5), none⟩,
    ⟨(some 16), .call 41 [(.tmp 15)], none⟩,
    ⟨(some 17), .buildSlice 7 1 [(.string ⟨#[]⟩), (.bool false), (.int .i64 0), (.int .i64 0), (.int .i64 0), (.int .i64 0), (.slice none 0 0)] [(0, 7, (.tmp 16))], none⟩,
    ⟨(some 18), .append 7 80 (.tmp 14) (.tmp 17), none⟩,
    ⟨(some 3), .mov (.tmp 18), none⟩])))
  (.ops [⟨(some 19), .bin .add (.tmp 10) (.const (.int .i64 1)) (some (.int .i64)), none⟩,
    ⟨(some 10), .mov (.tmp 19), none⟩])))))))
  (.seq (.ops [⟨(some 20), .mov (.tmp 3), none⟩,
    ⟨(some 21), .fieldAddr 2 (.tmp 1), none⟩,
    ⟨(some 22), .fieldAddr 4 (.tmp 21), none⟩,
    ⟨none, .store 1 (.tmp 22) (.tmp 20), none⟩])
  (.seq (.ops [⟨(some 23), .load true 7 (.tmp 1), none⟩,
    ⟨none, .store 7 (.tmp 2) (.tmp 23), none⟩])
  .ret)))))⟩
theorem F41_ok : compF Tryz.prog 41 = some F41 := by kernel_rfl

/-- colonnade/array.Open -/
def F42 : FC := ⟨20, [.tmp 4, .cell 5 true 3],
  (.seq (.ops [⟨(some 2), .box (.tmp 0), none⟩,
    ⟨(some 3), .box (.tmp 1), none⟩,
    ⟨(some 4), .mov (.const (.pointer none)), none⟩,
    ⟨(some 5), .alloc [(.int .i64 0), (.slice none 0 0), (.int .i64 0)], none⟩])
  (.seq (.seq (.ops [⟨(some 7), .load true 7 (.tmp 2), none⟩,
    ⟨(some 8), .load true 6 (.tmp 3), none⟩,
    ⟨(some 9), .call 62 [(.tmp 7), (.tmp 8)], none⟩,
    ⟨(some 6), .alloc [(.int .i64 0), (.slice none 0 0), (.int .i64 0)], none⟩,
    ⟨none, .store 3 (.tmp 6) (.tmp 9), none⟩])
  (.seq (.ops [⟨(some 10), .fieldAddr 0 (.tmp 6), none⟩,
    ⟨(some 11), .load false 1 (.tmp 10), none⟩,
    ⟨(some 12), .bin .neq (.tmp 11) (.const (.int .i64 0)) (some (.int .i64)), none⟩])
  (.cond (.tmp 12)
  (.seq (.ops [⟨(some 13), .load true 3 (.tmp 6), none⟩,
    ⟨(some 4), .mov (.const (.pointer none)), none⟩,
    ⟨none, .store 3 (.tmp 5) (.tmp 13), none⟩])
  .ret)
  .skip)))
  (.seq (.ops [⟨(some 14), .load true 7 (.tmp 2), none⟩,
    ⟨(some 16), .load true 6 (.tmp 3), none⟩,
    ⟨(some 19), .build [(.int .i64 0), (.slice none 0 0), (.int .i64 0)] [], none⟩,
    ⟨(some 15), .call 64 [(.tmp 14)], none⟩,
    ⟨none, .again 16 true 6 (.tmp 3), none⟩,
    ⟨(some 17), .call 65 [(.tmp 16)], none⟩,
    ⟨(some 18), .call 63 [(.tmp 15), (.tmp 17), (.const (.pointer none))], none⟩,
    ⟨(some 4), .mov (.tmp 18), none⟩,
    ⟨none, .store 3 (.tmp 5) (.tmp 19), none⟩])
  .ret)))⟩
theorem F42_ok : compF Tryz.prog 42 = some F42 := by kernel_rfl

/-- (*colonnade/array.Array).Values -/
def F43 : FC := ⟨17, [.tmp 2],
  (.seq (.ops [⟨(some 2), .mov (.const (.slice none 0 0)), none⟩])
  (.seq (.ops [⟨(some 3), .alloc [(.slice none 0 0)], none⟩])
  (.seq (.seq (.ops [⟨(some 6), .mov (.tmp 0), none⟩,
    ⟨(some 7), .call 66 [(.tmp 6)], none⟩])
  (.block 0 (.rf (.tmp 7) [8, 9]
  (.ops [⟨(some 5), .alloc [(.bool false), (.int .i64 0), (.string ⟨#[]⟩), (.slice none 0 0)], none⟩,
    ⟨none, .store 4 (.tmp 5) (.tmp 9), none⟩])
  (.block 1 (.ops [⟨(some 10), .load false 1 (.tmp 3), none⟩,
    ⟨(some 11), .load true 4 (.tmp 5), none⟩,
    ⟨(some 12), .len 1 (.tmp 10), none⟩,
    ⟨(some 13), .buildSlice 4 1 [(.bool false), (.int .i64 0), (.string ⟨#[]⟩), (.slice none 0 0)] [(0, 4, (.const (.agg #[(.bool false), (.int .i64 0), (.string ⟨#[]⟩), (.slice none 0 0)])))], none⟩,
    ⟨none, .again 11 true 4 (.tmp 5), none⟩,
    ⟨none, .again 10 false 1 (.tmp 3), none⟩,
    ⟨(some 14), .append 4 56 (.tmp 10) (.tmp 13), none⟩,
    ⟨(some 15), .indexAddr 4 (.tmp 14) (.tmp 12), none⟩,
    ⟨none, .store 4 (.tmp 15) (.tmp 11), none⟩,
    ⟨none, .store 1 (.tmp 3) (.tmp 14), none⟩,
    ⟨none, .apart (.tmp 15) (.tmp 3), none⟩])))))
  (.seq (.ops [⟨(some 16), .load false 1 (.tmp 3), none⟩,
    ⟨(some 2), .mov (.tmp 16), none⟩])
  .ret))))⟩
theorem F43_ok : compF Tryz.prog 43 = some F43 := by kernel_rfl

/-- colonnade/build.New -/
def F44 : FC := ⟨15, [.tmp 2, .tmp 3],
  (.seq (.ops [⟨(some 1), .box (.tmp 0), none⟩,
    ⟨(some 2), .mov (.const (.pointer none)), none⟩,
    ⟨(some 3), .mov (.const (.int .i64 0)), none⟩])
  (.seq (.seq (.ops [⟨(some 5), .load true 7 (.tmp 1), none⟩,
    ⟨(some 6), .call 67 [(.tmp 5)], none⟩,
    ⟨(some 7), .un .not (.tmp 6), none⟩])
  (.cond (.tmp 7)
  (.seq (.ops [⟨(some 2), .mov (.const (.pointer none)), none⟩,
    ⟨(some 3), .mov (.const (.int .i64 5)), none⟩])
  .ret)
  .skip))
  (.seq (.ops [⟨(some 8), .load true 7 (.tmp 1), none⟩,
    ⟨(some 9), .call 68 [(.tmp 8)], none⟩,
    ⟨(some 4), .alloc [(.string ⟨#[]⟩), (.bool false), (.int .i64 0), (.int .i64 0), (.int .i64 0), (.int .i64 0), (.slice none 0 0)], none⟩,
    ⟨none, .store 7 (.tmp 4) (.tmp 9), none⟩])
  (.seq (.ops [⟨(some 10), .load true 7 (.tmp 4), none⟩,
    ⟨(some 11), .load true 7 (.tmp 4), none⟩,
    ⟨(some 12), .call 69 [(.tmp 11)], none⟩,
    ⟨none, .again 10 true 7 (.tmp 4), none⟩,
    ⟨(some 13), .build [(.string ⟨#[]⟩), (.bool false), (.int .i64 0), (.int .i64 0), (.int .i64 0), (.int .i64 0), (.slice none 0 0), .nilIface, (.bool false)] [(0, 7, (.tmp 10)), (7, 1, (.tmp 12))], none⟩,
    ⟨(some 14), .box (.tmp 13), none⟩,
    ⟨(some 2), .mov (.tmp 14), none⟩,
    ⟨(some 3), .mov (.const (.int .i64 0)), none⟩])
  .ret))))⟩
theorem F44_ok : compF Tryz.prog 44 = some F44 := by kernel_rfl

/-- (*colonnade/build.Builder).Add -/
def F45 : FC := ⟨22, [.tmp 4],
  (.seq (.ops [⟨(some 3), .box (.tmp 1), none⟩,
    ⟨(some 4), .mov (.const (.int .i64 0)), none⟩])
  (.seq (.seq (.ops [⟨(some 6), .mov (.tmp 0), none⟩,
    ⟨(some 7), .nilCheck (.tmp 6), none⟩,
    ⟨(some 8), .fieldAddr 8 (.tmp 7), none⟩,
    ⟨(some 9), .load false 1 (.tmp 8), none⟩])
  (.cond (.tmp 9)
  (.seq (.ops [⟨(some 4), .mov (.const (.int .i64 9)), none⟩])
  .ret)
  .skip))
  (.seq (.seq (.ops [⟨(some 10), .mov (.tmp 0), none⟩,
    ⟨(some 11), .nilCheck (.tmp 10), none⟩,
    ⟨(some 12), .fieldAddr 0 (.tmp 11), none⟩,
    ⟨(some 13), .load true 7 (.tmp 12), none⟩,
    ⟨(some 14), .load true 4 (.tmp 3), none⟩,
    ⟨(some 15), .call 70 [(.tmp 13), (.tmp 14)], none⟩,
    ⟨(some 5), .mov (.tmp 15), none⟩])
  (.seq (.ops [⟨(some 16), .mov (.tmp 5), none⟩,
    ⟨(some 17), .bin .neq (.tmp 16) (.const (.int .i64 0)) (some (.int .i64)), none⟩])
  (.cond (.tmp 17)
  (.seq (.ops [⟨(some 18), .mov (.tmp 5), none⟩,
    ⟨(some 4), .mov (.tmp 18), none⟩])
  .ret)
  .skip)))
  (.seq (.ops [⟨(some 19), .mov (.tmp 0), none⟩,
    ⟨(some 20), .load true 4 (.tmp 3), none⟩,
    ⟨(some 21), .call 71 [(.tmp 19), (.tmp 20)], none⟩,
    ⟨(some 4), .mov (.tmp 21), none⟩])
  .ret))))⟩
theorem F45_ok : compF Tryz.prog 45 = some F45 := by kernel_rfl

/-- (*colonnade/build.Builder).Done -/
def F46 : FC := ⟨17, [.cell 2 true 6, .tmp 3],
  (.seq (.ops [⟨(some 2), .alloc [(.int .i64 0), (.int .i64 0), (.int .i64 0), (.slice none 0 0), (.slice none 0 0), (.slice none 0 0)], none⟩,
    ⟨(some 3), .mov (.const (.int .i64 0)), none⟩])
  (.seq (.seq (.ops [⟨(some 4), .mov (.tmp 0), none⟩,
    ⟨(some 5), .nilCheck (.tmp 4), none⟩,
    ⟨(some 6), .fieldAddr 8 (.tmp 5), none⟩,
    ⟨(some 7), .load false 1 (.tmp 6), none⟩])
  (.cond (.tmp 7)
  (.seq (.ops [⟨(some 8), .build [(.int .i64 0), (.int .i64 0), (.int .i64 0), (.slice none 0 0), (.slice none 0 0), (.slice none 0 0)] [], none⟩,
    ⟨none, .store 6 (.tmp 2) (.tmp 8), none⟩,
    ⟨(some 3), .mov (.const (.int .i64 9)), none⟩])
  .ret)
  .skip))
  (.seq (.ops [⟨(some 9), .mov (.tmp 0), none⟩,
    ⟨(some 10), .nilCheck (.tmp 9), none⟩,
    ⟨(some 11), .fieldAddr 8 (.tmp 10), none⟩,
    ⟨none, .store 1 (.tmp 11) (.const (.bool true)), none⟩])
  (.seq (.ops [⟨(some 12), .mov (.tmp 0), none⟩,
    ⟨(some 13), .nilCheck (.tmp 12), none⟩,
    ⟨(some 14), .fieldAddr 7 (.tmp 13), none⟩,
    ⟨(some 15), .load false 1 (.tmp 14), none⟩,
    ⟨(some 16), .invoke (.tmp 15) "colonnade/build.done" [(143, 240), (146, 250), (149, 258), (152, 263), (155, 268), (158, 277), (161, 284), (165, 299), (168, 304)] [], none⟩,
    ⟨none, .store 6 (.tmp 2) (.tmp 16), none⟩,
    ⟨(some 3), .mov (.const (.int .i64 0)), none⟩])
  .ret))))⟩
theorem F46_ok : compF Tryz.prog 46 = some F46 := by kernel_rfl

/-- colonnade/calc.isWhole -/
def F47 : FC := ⟨9, [.tmp 2],
  (.seq (.ops [⟨(some 2), .mov (.const (.bool false)), none⟩])
  (.seq (.ops [⟨(some 3), .mov (.tmp 0), none⟩,
    ⟨(some 4), .bin .geq (.tmp 3) (.const (.int .i64 3)) (some (.int .i64)), none⟩,
    ⟨(some 5), .mov (.tmp 4), none⟩,
    ⟨(some 6), .mov (.tmp 0), (some (5, true))⟩,
    ⟨(some 7), .bin .leq (.tmp 6) (.const (.int .i64 10)) (some (.int .i64)), (some (5, true))⟩,
    ⟨(some 8), .pick (.tmp 5) (.tmp 7) (.const (.bool false)), none⟩,
    ⟨(some 2), .mov (.tmp 8), none⟩])
  .ret))⟩
theorem F47_ok : compF Tryz.prog 47 = some F47 := by kernel_rfl

/-- colonnade/calc.reckon$1 -/
def F48 : FC := ⟨38, [.cell 5 true 4, .tmp 6],
  (.seq (.ops [⟨(some 5), .alloc [(.bool false), (.int .i64 0), (.string ⟨#[]⟩), (.slice none 0 0)], none⟩,
    ⟨(some 6), .mov (.const (.int .i64 0)), none⟩])
  (.seq (.seq (.ops [⟨(some 8), .mov (.tmp 0), none⟩,
    ⟨(some 9), .indexAddr 7 (.tmp 8) (.const (.int .i64 0)), none⟩,
    ⟨(some 10), .fieldAddr 2 (.tmp 9), none⟩,
    ⟨(some 11), .fieldAddr 0 (.tmp 10), none⟩,
    ⟨(some 12), .load false 1 (.tmp 11), none⟩,
    ⟨(some 7), .mov (.tmp 12), none⟩])
  (.seq (.ops [⟨(some 13), .mov (.tmp 7), none⟩,
    ⟨(some 14), .bin .neq (.tmp 13) (.const (.int .i64 11)) (some (.int .i64)), none⟩])
  (.cond (.tmp 14)
  (.seq (.ops [⟨(some 15), .load false 1 (.tmp 2), none⟩,
    ⟨(some 16), .mov (.tmp 7), none⟩,
    ⟨(some 17), .mov (.tmp 1), none⟩,
    ⟨(some 18), .indexAddr 4 (.tmp 17) (.const (.int .i64 0)), none⟩,
    ⟨(some 19), .fieldAddr 1 (.tmp 18), none⟩,
    ⟨(some 20), .load false 1 (.tmp 19), none⟩,
    ⟨(some 21), .mov (.tmp 1), none⟩,
    ⟨(some 22), .indexAddr 4 (.tmp 21) (.const (.int .i64 1)), none⟩,
    ⟨(some 23), .fieldAddr 1 (.tmp 22), none⟩,
    ⟨(some 24), .load false 1 (.tmp 23), none⟩,
    ⟨(some 25), .call 49 [(.tmp 15), (.tmp 16), (.tmp 20), (.tmp 24)], none⟩,
    ⟨(some 26), .extract (.tmp 25) 0, none⟩,
    ⟨(some 27), .extract (.tmp 25) 1, none⟩,
    ⟨none, .store 4 (.tmp 5) (.tmp 26), none⟩,
    ⟨(some 6), .mov (.tmp 27), none⟩])
  .ret)
  .skip)))
  (.seq (.ops [⟨(some 28), .load false 1 (.tmp 2), none⟩,
    ⟨(some 29), .mov (.tmp 1), none⟩,
    ⟨(some 30), .indexAddr 4 (.tmp 29) (.const (.int .i64 0)), none⟩,
    ⟨(some 31), .fieldAddr 1 (.tmp 30), none⟩,
    ⟨(some 32), .load false 1 (.tmp 31), none⟩,
    ⟨(some 33), .mov (.tmp 1), none⟩,
    ⟨(some 34), .indexAddr 4 (.tmp 33) (.const (.int .i64 1)), none⟩,
    ⟨(some 35), .fieldAddr 1 (.tmp 34), none⟩,
    ⟨(some 36), .load false 1 (.tmp 35), none⟩,
    ⟨(some 37), .call 50 [(.tmp 28), (.tmp 32), (.tmp 36)], none⟩,
    ⟨none, .store 4 (.tmp 5) (.tmp 37), none⟩,
    ⟨(some 6), .mov (.const (.int .i64 0)), none⟩])
  .ret)))⟩
theorem F48_ok : compF Tryz.prog 48 = some F48 := by kernel_rfl

/-- colonnade/calc.wholly -/
def F49 : FC := ⟨68, [.cell 8 true 4, .tmp 9],
  (.seq (.ops [⟨(some 8), .alloc [(.bool false), (.int .i64 0), (.string ⟨#[]⟩), (.slice none 0 0)], none⟩,
    ⟨(some 9), .mov (.const (.int .i64 0)), none⟩])
  (.seq (.ops [⟨(some 13), .mov (.tmp 1), none⟩,
    ⟨(some 14), .mov (.tmp 2), none⟩,
    ⟨(some 15), .call 72 [(.tmp 13), (.tmp 14)], none⟩,
    ⟨(some 16), .mov (.tmp 1), none⟩,
    ⟨(some 17), .mov (.tmp 3), none⟩,
    ⟨(some 18), .call 72 [(.tmp 16), (.tmp 17)], none⟩,
    ⟨(some 19), .alloc [(.bool false), (.slice none 0 0)], none⟩,
    ⟨(some 10), .mov (.tmp 15), none⟩,
    ⟨(some 11), .mov (.tmp 18), none⟩,
    ⟨(some 12), .mov (.tmp 19), none⟩])
  (.seq (.seq (.ops [⟨(some 20), .mov (.tmp 0), none⟩,
    ⟨(some 21), .bin .eql (.tmp 20) (.const (.int .i64 4)) (some (.int .i64)), none⟩,
    ⟨(some 22), .mov (.tmp 21), none⟩,
    ⟨(some 23), .mov (.tmp 0), (some (22, false))⟩,
    ⟨(some 24), .bin .eql (.tmp 23) (.const (.int .i64 5)) (some (.int .i64)), (some (22, false))⟩,
    ⟨(some 25), .pick (.tmp 22) (.const (.bool true)) (.tmp 24), none⟩,
    ⟨(some 26), .mov (.tmp 25), none⟩,
    ⟨(some 27), .mov (.tmp 11), (some (26, true))⟩,
    ⟨(some 28), .call 73 [(.tmp 27)], (some (26, true))⟩,
    ⟨(some 29), .bin .eql (.tmp 28) (.const (.int .i64 0)) (some (.int .i64)), (some (26, true))⟩,
    ⟨(some 30), .pick (.tmp 26) (.tmp 29) (.const (.bool false)), none⟩])
  (.cond (.tmp 30)
  (.seq (.ops [⟨(some 31), .build [(.bool false), (.int .i64 0), (.string ⟨#[]⟩), (.slice none 0 0)] [], none⟩,
    ⟨none, .store 4 (.tmp 8) (.tmp 31), none⟩,
    ⟨(some 9), .mov (.const (.int .i64 171)), none⟩])
  .ret)
  .skip))
  (.seq (.seq (.ops [⟨(some 32), .mov (.tmp 0), none⟩])
  (.block 0 (.seq (.ops [⟨(some 34), .bin .eql (.tmp 32) (.const (.int .i64 1)) (some (.int .i64)), none⟩,
    ⟨(some 33), .mov (.tmp 34), none⟩])
  (.cond (.tmp 33)
  (.ops [⟨(some 35), .mov (.tmp 12), none⟩,
    ⟨(some 36), .mov (.tmp 10), none⟩,
    ⟨(some 37), .mov (.tmp 11), none⟩,
    ⟨(some 38), .call 74 [(.tmp 35), (.tmp 36), (.tmp 37)], none⟩])
  (.seq (.ops [⟨(some 40), .bin .eql (.tmp 32) (.const (.int .i64 2)) (some (.int .i64)), none⟩,
    ⟨(some 39), .mov (.tmp 40), none⟩])
  (.cond (.tmp 39)
  (.ops [⟨(some 41), .mov (.tmp 12), none⟩,
    ⟨(some 42), .mov (.tmp 10), none⟩,
    ⟨(some 43), .mov (.tmp 11), none⟩,
    ⟨(some 44), .call 75 [(.tmp 41), (.tmp 42), (.tmp 43)], none⟩])
  (.seq (.ops [⟨(some 46), .bin .eql (.tmp 32) (.const (.int .i64 3)) (some (.int .i64)), none⟩,
    ⟨(some 45), .mov (.tmp 46), none⟩])
  (.cond (.tmp 45)
  (.ops [⟨(some 47), .mov (.tmp 12), none⟩,
    ⟨(some 48), .mov (.tmp 10), none⟩,
    ⟨(some 49), .mov (.tmp 11), none⟩,
    ⟨(some 50), .call 76 [(.tmp 47), (.tmp 48), (.tmp 49)], none⟩])
  (.seq (.ops [⟨(some 52), .bin .eql (.tmp 32) (.const (.int .i64 4)) (some (.int .i64)), none⟩,
    ⟨(some 51), .mov (.tmp 52), none⟩])
  (.cond (.tmp 51)
  (.ops [⟨(some 53), .mov (.tmp 12), none⟩,
    ⟨(some 54), .mov (.tmp 10), none⟩,
    ⟨(some 55), .mov (.tmp 11), none⟩,
    ⟨(some 56), .call 77 [(.tmp 53), (.tmp 54), (.tmp 55)], none⟩])
  (.seq (.ops [⟨(some 58), .bin .eql (.tmp 32) (.const (.int .i64 5)) (some (.int .i64)), none⟩,
    ⟨(some 57), .mov (.tmp 58), none⟩])
  (.cond (.tmp 57)
  (.ops [⟨(some 59), .mov (.tmp 12), none⟩,
    ⟨(some 60), .mov (.tmp 10), none⟩,
    ⟨(some 61), .mov (.tmp 11), none⟩,
    ⟨(some 62), .call 78 [(.tmp 59), (.tmp 60), (.tmp 61)], none⟩])
  .skip))))))))))))
  (.seq (.ops [⟨(some 63), .mov (.tmp 1), none⟩,
    ⟨(some 64), .mov (.tmp 12), none⟩,
    ⟨(some 65), .call 79 [(.tmp 63), (.tmp 64)], none⟩,
    ⟨(some 66), .extract (.tmp 65) 0, none⟩,
    ⟨(some 67), .extract (.tmp 65) 1, none⟩,
    ⟨none, .store 4 (.tmp 8) (.tmp 66), none⟩,
    ⟨(some 9), .mov (.tmp 67), none⟩])
  .ret)))))⟩
theorem F49_ok : compF Tryz.prog 49 = some F49 := by kernel_rfl

/-- colonnade/calc.isSigned -/
def F51 : FC := ⟨9, [.tmp 2],
  (.seq (.ops [⟨(some 2), .mov (.const (.bool false)), none⟩])
  (.seq (.ops [⟨(some 3), .mov (.tmp 0), none⟩,
    ⟨(some 4), .bin .geq (.tmp 3) (.const (.int .i64 3)) (some (.int .i64)), none⟩,
    ⟨(some 5), .mov (.tmp 4), none⟩,
    ⟨(some 6), .mov (.tmp 0), (some (5, true))⟩,
    ⟨(some 7), .bin .leq (.tmp 6) (.const (.int .i64 6)) (some (.int .i64)), (some (5, true))⟩,
    ⟨(some 8), .pick (.tmp 5) (.tmp 7) (.const (.bool false)), none⟩,
    ⟨(some 2), .mov (.tmp 8), none⟩])
  .ret))⟩
theorem F51_ok : compF Tryz.prog 51 = some F51 := by kernel_rfl

/-- colonnade/kind.Check -/
def F61 : FC := ⟨71, [.cell 2 true 3],
  (.seq (.ops [⟨(some 1), .box (.tmp 0), none⟩,
    ⟨(some 2), .alloc [(.int .i64 0), (.slice none 0 0), (.int .i64 0)], none⟩])
  (.seq (.block 0 (.seq (.ops [⟨(some 10), .fieldAddr 0 (.tmp 1), none⟩,
    ⟨(some 11), .load false 1 (.tmp 10), none⟩,
    ⟨(some 12), .len 1 (.tmp 11), none⟩,
    ⟨(some 13), .bin .gtr (.tmp 12) (.const (.int .i64 32)) (some (.int .i64)), none⟩,
    ⟨(some 9), .mov (.tmp 13), none⟩])
  (.cond (.tmp 9)
  (.seq (.ops [⟨(some 14), .build [(.int .i64 0), (.slice none 0 0), (.int .i64 0)] [(0, 1, (.const (.int .i64 34))), (2, 1, (.const (.int .i64 32)))], none⟩,
    ⟨none, .store 3 (.tmp 2) (.tmp 14), none⟩])
  .ret)
  (.seq (.ops [⟨(some 16), .fieldAddr 1 (.tmp 1), none⟩,
    ⟨(some 17), .load false 1 (.tmp 16), none⟩,
    ⟨(some 18), .len 1 (.tmp 17), none⟩,
    ⟨(some 19), .bin .gtr (.tmp 18) (.const (.int .i64 16)) (some (.int .i64)), none⟩,
    ⟨(some 15), .mov (.tmp 19), none⟩])
  (.cond (.tmp 15)
  (.seq (.ops [⟨(some 20), .build [(.int .i64 0), (.slice none 0 0), (.int .i64 0)] [(0, 1, (.const (.int .i64 34))), (2, 1, (.const (.int .i64 16)))], none⟩,
    ⟨none, .store 3 (.tmp 2) (.tmp 20), none⟩])
  .ret)
  .skip)))))
  (.seq (.seq (.ops [⟨(some 21), .fieldAddr 1 (.tmp 1), none⟩,
    ⟨(some 22), .load false 1 (.tmp 21), none⟩,
    ⟨(some 23), .len 1 (.tmp 22), none⟩,
    ⟨(some 24), .mov (.const (.int .i64 0)), none⟩])
  (.block 1 (.loop (.seq (.ops [⟨(some 25), .bin .lss (.tmp 24) (.tmp 23) (some (.int .i64)), none⟩])
  (.seq (.cond (.tmp 25)
  .skip
  (.exit 1))
  (.seq (.block 2 (.seq (.ops [⟨(some 26), .mov (.tmp 24), none⟩,
    ⟨(some 27), .indexAddr 2 (.tmp 22) (.tmp 24), none⟩,
    ⟨(some 28), .load true 2 (.tmp 27), none⟩,
    ⟨(some 4), .alloc [(.string ⟨#[]⟩), (.string ⟨#[]⟩)], none⟩,
    ⟨(some 3), .mov (.tmp 26), none⟩,
    ⟨none, .store 2 (.tmp 4) (.tmp 28), none⟩])
  (.seq (.ops [⟨(some 29), .fieldAddr 0 (.tmp 4), none⟩,
    ⟨(some 30), .load false 1 (.tmp 29), none⟩,
    ⟨(some 31), .len 0 (.tmp 30), none⟩,
    ⟨(some 32), .bin .gtr (.tmp 31) (.const (.int .i64 256)) (some (.int .i64)), none⟩,
    ⟨(some 33), .mov (.tmp 32), none⟩,
    ⟨(some 34), .fieldAddr 1 (.tmp 4), (some (33, false))⟩,
    ⟨(some 35), .load false 1 (.tmp 34), (some (33, false))⟩,
    ⟨(some 36), .len 0 (.tmp 35), (some (33, false))⟩,
    ⟨(some 37), .bin .gtr (.tmp 36) (.const (.int .i64 256)) (some (.int .i64)), (some (33, false))⟩,
    ⟨(some 38), .pick (.tmp 33) (.const (.bool true)) (.tmp 37), none⟩])
  (.cond (.tmp 38)
  (.seq (.ops [⟨(some 39), .mov (.tmp 3), none⟩,
    ⟨(some 40), .build [(.int .i64 0), (.slice none 0 0), (.int .i64 0)] [(0, 1, (.const (.int .i64 37))), (2, 1, (.tmp 39))], none⟩,
    ⟨none, .store 3 (.tmp 2) (.tmp 40), none⟩])
  .ret)
  .skip))))
  (.ops [⟨(some 41), .bin .add (.tmp 24) (.const (.int .i64 1)) (some (.int .i64)), none⟩,
    ⟨(some 24), .mov (.tmp 41), none⟩])))))))
  (.seq (.ops [⟨(some 5), .alloc [(.int .i64 0)], none⟩,
    ⟨none, .store 1 (.tmp 5) (.const (.int .i64 0)), none⟩])
  (.seq (.ops [⟨(some 42), .mkMap, none⟩,
    ⟨(some 6), .alloc [(.map none)], none⟩,
    ⟨none, .store 1 (.tmp 6) (.tmp 42), none⟩])
  (.seq (.seq (.ops [⟨(some 43), .fieldAddr 0 (.tmp 1), none⟩,
    ⟨(some 44), .load false 1 (.tmp 43), none⟩,
    ⟨(some 45), .call 89 [(.tmp 44), (.const (.int .i64 65))], none⟩])
  (.block 3 (.rf (.tmp 45) [46]
  (.ops [⟨(some 7), .alloc [(.slice none 0 0), (.slice none 0 0), (.string ⟨#[]⟩), (.bool false), (.int .i64 0), (.int .i64 0), (.int .i64 0), (.int .i64 0), (.slice none 0 0), (.bool false)], none⟩,
    ⟨none, .store 10 (.tmp 7) (.tmp 46), none⟩])
  (.block 4 (.seq (.seq (.ops [⟨(some 47), .load true 10 (.tmp 7), none⟩,
    ⟨(some 48), .load false 1 (.tmp 5), none⟩,
    ⟨(some 49), .load false 1 (.tmp 6), none⟩,
    ⟨(some 50), .call 90 [(.tmp 47), (.tmp 48), (.tmp 49)], none⟩,
    ⟨(some 8), .mov (.tmp 50), none⟩])
  (.seq (.ops [⟨(some 51), .mov (.tmp 8), none⟩,
    ⟨(some 52), .bin .neq (.tmp 51) (.const (.int .i64 0)) (some (.int .i64)), none⟩])
  (.cond (.tmp 52)
  (.seq (.ops [⟨(some 53), .mov (.tmp 8), none⟩,
    ⟨(some 54), .fieldAddr 0 (.tmp 7), none⟩,
    ⟨(some 55), .load false 1 (.tmp 54), none⟩,
    ⟨(some 56), .build [(.int .i64 0), (.slice none 0 0), (.int .i64 0)] [(0, 1, (.tmp 53)), (1, 1, (.tmp 55))], none⟩,
    ⟨none, .store 3 (.tmp 2) (.tmp 56), none⟩])
  .ret)
  .skip)))
  (.seq (.ops [⟨(some 57), .load false 1 (.tmp 5), none⟩,
    ⟨(some 58), .bin .add (.tmp 57) (.const (.int .i64 1)) (some (.int .i64)), none⟩,
    ⟨none, .store 1 (.tmp 5) (.tmp 58), none⟩])
  (.seq (.ops [⟨(some 59), .fieldAddr 2 (.tmp 7), none⟩,
    ⟨(some 60), .fieldAddr 2 (.tmp 59), none⟩,
    ⟨(some 61), .fieldAddr 0 (.tmp 60), none⟩,
    ⟨(some 62), .load false 1 (.tmp 61), none⟩,
    ⟨(some 63), .bin .eql (.tmp 62) (.const (.int .i64 19)) (some (.int .i64)), none⟩])
  (.cond (.tmp 63)
  (.ops [⟨(some 64), .load false 1 (.tmp 6), none⟩,
    ⟨(some 65), .fieldAddr 2 (.tmp 7), none⟩,
    ⟨(some 66), .fieldAddr 2 (.tmp 65), none⟩,
    ⟨(some 67), .fieldAddr 2 (.tmp 66), none⟩,
    ⟨(some 68), .load false 1 (.tmp 67), none⟩,
    ⟨(some 69), .load false 1 (.tmp 5), none⟩,
    ⟨none, .mapSet 0 (.tmp 64) (.tmp 68) (.tmp 69), none⟩])
  .skip))))))))
  (.seq (.ops [⟨(some 70), .build [(.int .i64 0), (.slice none 0 0), (.int .i64 0)] [], none⟩,
    ⟨none, .store 3 (.tmp 2) (.tmp 70), none⟩])
  .ret)))))))⟩
theorem F61_ok : compF Tryz.prog 61 = some F61 := by kernel_rfl

/-- colonnade/array.Check -/
def F62 : FC := ⟨19, [.cell 4 true 3],
  (.seq (.ops [⟨(some 2), .box (.tmp 0), none⟩,
    ⟨(some 3), .box (.tmp 1), none⟩,
    ⟨(some 4), .alloc [(.int .i64 0), (.slice none 0 0), (.int .i64 0)], none⟩])
  (.seq (.seq (.ops [⟨(some 7), .load true 7 (.tmp 2), none⟩,
    ⟨(some 8), .call 39 [(.tmp 7)], none⟩,
    ⟨(some 9), .field false 0 1 (.tmp 8), none⟩,
    ⟨(some 10), .bin .neq (.tmp 9) (.const (.int .i64 0)) (some (.int .i64)), none⟩])
  (.cond (.tmp 10)
  (.seq (.ops [⟨(some 11), .call 91 [(.const (.int .i64 5)), (.const (.int .i64 0))], none⟩,
    ⟨none, .store 3 (.tmp 4) (.tmp 11), none⟩])
  .ret)
  .skip))
  (.seq (.ops [⟨(some 13), .load true 7 (.tmp 2), none⟩,
    ⟨(some 14), .load true 6 (.tmp 3), none⟩,
    ⟨(some 15), .call 92 [(.tmp 13), (.tmp 14)], none⟩,
    ⟨(some 12), .mov (.tmp 15), none⟩,
    ⟨(some 16), .extract (.tmp 12) 0, none⟩,
    ⟨(some 17), .extract (.tmp 12) 1, none⟩,
    ⟨(some 5), .alloc [(.int .i64 0), (.slice none 0 0), (.int .i64 0)], none⟩,
    ⟨none, .store 3 (.tmp 5) (.tmp 16), none⟩,
    ⟨(some 6), .mov (.tmp 17), none⟩])
  (.seq (.ops [⟨(some 18), .load true 3 (.tmp 5), none⟩,
    ⟨none, .store 3 (.tmp 4) (.tmp 18), none⟩])
  .ret))))⟩
theorem F62_ok : compF Tryz.prog 62 = some F62 := by kernel_rfl

/-- colonnade/array.opened -/
def F63 : FC := ⟨20, [.tmp 6],
  (.seq (.ops [⟨(some 3), .box (.tmp 0), none⟩,
    ⟨(some 4), .box (.tmp 1), none⟩,
    ⟨(some 6), .mov (.const (.pointer none)), none⟩])
  (.seq (.ops [⟨(some 7), .load true 7 (.tmp 3), none⟩,
    ⟨(some 8), .load true 6 (.tmp 4), none⟩,
    ⟨(some 9), .fieldAddr 1 (.tmp 4), none⟩,
    ⟨(some 10), .load false 1 (.tmp 9), none⟩,
    ⟨(some 11), .fieldAddr 0 (.tmp 4), none⟩,
    ⟨(some 12), .load false 1 (.tmp 11), none⟩,
    ⟨(some 13), .mov (.tmp 2), none⟩,
    ⟨(some 14), .fieldAddr 2 (.tmp 3), none⟩,
    ⟨(some 15), .fieldAddr 0 (.tmp 14), none⟩,
    ⟨(some 16), .load false 1 (.tmp 15), none⟩,
    ⟨(some 17), .call 93 [(.tmp 16)], none⟩,
    ⟨none, .again 12 false 1 (.tmp 11), none⟩,
    ⟨none, .again 10 false 1 (.tmp 9), none⟩,
    ⟨none, .again 8 true 6 (.tmp 4), none⟩,
    ⟨none, .again 7 true 7 (.tmp 3), none⟩,
    ⟨(some 18), .build [(.string ⟨#[]⟩), (.bool false), (.int .i64 0), (.int .i64 0), (.int .i64 0), (.int .i64 0), (.slice none 0 0), (.int .i64 0), (.int .i64 0), (.int .i64 0), (.slice none 0 0), (.slice none 0 0), (.slice none 0 0), (.int .i64 0), (.int .i64 0), (.pointer none), .nilIface] [(0, 7, (.tmp 7)), (7, 6, (.tmp 8)), (13, 1, (.tmp 10)), (14, 1, (.tmp 12)), (15, 1, (.tmp 13)), (16, 1, (.tmp 17))], none⟩,
    ⟨(some 19), .box (.tmp 18), none⟩,
    ⟨(some 6), .mov (.tmp 19), none⟩])
  .ret))⟩
theorem F63_ok : compF Tryz.prog 63 = some F63 := by kernel_rfl

/-- colonnade/array.copiedField -/
def F64 : FC := ⟨31, [.cell 2 true 7],
  (.seq (.ops [⟨(some 1), .box (.tmp 0), none⟩,
    ⟨(some 2), .alloc [(.string ⟨#[]⟩), (.bool false), (.int .i64 0), (.int .i64 0), (.int .i64 0), (.int .i64 0), (.slice none 0 0)], none⟩])
  (.seq (.ops [⟨(some 4), .fieldAddr 2 (.tmp 1), none⟩,
    ⟨(some 5), .fieldAddr 4 (.tmp 4), none⟩,
    ⟨(some 6), .load false 1 (.tmp 5), none⟩,
    ⟨(some 7), .call 94 [(.tmp 6)], none⟩,
    ⟨(some 8), .fieldAddr 2 (.tmp 1), none⟩,
    ⟨(some 9), .fieldAddr 4 (.tmp 8), none⟩,
    ⟨none, .store 1 (.tmp 9) (.tmp 7), none⟩])
  (.seq (.seq (.ops [⟨(some 10), .fieldAddr 2 (.tmp 1), none⟩,
    ⟨(some 11), .fieldAddr 4 (.tmp 10), none⟩,
    ⟨(some 12), .load false 1 (.tmp 11), none⟩,
    ⟨(some 13), .len 1 (.tmp 12), none⟩,
    ⟨(some 14), .mov (.const (.int .i64 0)), none⟩])
  (.block 0 (.loop (.seq (.ops [⟨(some 15), .bin .lss (.tmp 14) (.tmp 13) (some (.int .i64)), none⟩])
  (.seq (.cond (.tmp 15)
  .skip
  (.exit 0))
  (.seq (.block 1 (.seq (.ops [⟨(some 16), .mov (.tmp 14), none⟩,
    ⟨(some 3), .mov (.tmp 16), none⟩])
  (.ops [⟨(some 17), .fieldAddr 2 (.tmp 1), none⟩,
    ⟨(some 18), .fieldAddr 4 (.tmp 17), none⟩,
    ⟨(some 19), .load false 1 (.tmp 18), none⟩,
    ⟨(some 20), .mov (.tmp 3), none⟩,
    ⟨(some 21), .fieldAddr 2 (.tmp 1), none⟩,
    ⟨(some 22), .fieldAddr 4 (.tmp 21), none⟩,
    ⟨(some 23), .load false 1 (.tmp 22), none⟩,
    ⟨(some 24), .mov (.tmp 3), none⟩,
    ⟨(some 25), .indexAddr 7 (.tmp 23) (.tmp 24), none⟩,
    ⟨(some 26), .load true 7 (.tmp 25), none⟩,
    ⟨(some 27), .call 64 [(.tmp 26)], none⟩,
    ⟨none, .again 19 false 1 (.tmp 18), none⟩,
    ⟨(some 28), .indexAddr 7 (.tmp 19) (.tmp 20), none⟩,
    ⟨none, .store 7 (.tmp 28) (.tmp 27), none⟩])))
  (.ops [⟨(some 29), .bin .add (.tmp 14) (.const (.int .i64 1)) (some (.int .i64)), none⟩,
    ⟨(some 14), .mov (.tmp 29), none⟩])))))))
  (.seq (.ops [⟨(some 30), .load true 7 (.tmp 1), none⟩,
    ⟨none, .store 7 (.tmp 2) (.tmp 30), none⟩])
  .ret))))⟩
theorem F64_ok : compF Tryz.prog 64 = some F64 := by kernel_rfl


end Go.Proofs.YtdgfcgadefodfaaGreatDoor.Calc
