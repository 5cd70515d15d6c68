/- The code that the call meets, as instructions. No conditions. -/
import Derived.Test.YtpgeonghlabnhaaGreatDoorEm22
import Derived.Test.YtpgeonghlabnhaaGreatDoorProg
import Derived.KernelRfl
set_option linter.unusedVariables false
namespace Go.Proofs.YtpgeonghlabnhaaGreatDoor.Lin
open Go Go.Proofs.YtpgeonghlabnhaaGreatDoor Go.Proofs.YtpgeonghlabnhaaGreatDoor.Em
/-- slices.ContainsFunc[[]colonnade/lines.cell,colonnade/lines.cell] -/
def F34 : FC := ⟨9, [.tmp 4],
  (.seq (.ops [⟨(some 4), .mov (.const (.bool false)), none⟩])
  (.seq (.ops [⟨(some 5), .mov (.tmp 0), none⟩,
    ⟨(some 6), .mov (.tmp 1), none⟩,
    ⟨(some 7), .call 69 [(.tmp 5), (.tmp 6)], none⟩,
    ⟨(some 8), .bin .geq (.tmp 7) (.const (.int .i64 0)) (some (.int .i64)), none⟩,
    ⟨(some 4), .mov (.tmp 8), none⟩])
  .ret))⟩
theorem F34_ok : compF Tryz.prog 34 = some F34 := by kernel_rfl
/-- colonnade/lines.guessed$2 -/
def F35 : FC := ⟨7, [.tmp 2],
  (.seq (.ops [⟨(some 1), .box (.tmp 0), none⟩,
    ⟨(some 2), .mov (.const (.bool false)), none⟩])
  (.seq (.ops [⟨(some 3), .fieldAddr 0 (.tmp 1), none⟩,
    ⟨(some 4), .load false 1 (.tmp 3), none⟩,
    ⟨(some 5), .call 36 [(.tmp 4)], none⟩,
    ⟨(some 6), .un .not (.tmp 5), none⟩,
    ⟨(some 2), .mov (.tmp 6), none⟩])
  .ret))⟩
theorem F35_ok : compF Tryz.prog 35 = some F35 := by kernel_rfl
/-- unicode/utf8.ValidString -/
def F36 : FC := ⟨169, [.tmp 2],
  (.seq (.ops [⟨(some 2), .mov (.const (.bool false)), none⟩])
  (.seq (.block 0 (.loop (.seq (.seq (.ops [⟨(some 7), .mov (.tmp 0), none⟩,
    ⟨(some 8), .len 0 (.tmp 7), none⟩,
    ⟨(some 9), .bin .gtr (.tmp 8) (.const (.int .i64 0)) (some (.int .i64)), none⟩])
  (.cond (.tmp 9)
  .skip
  (.exit 0)))
  (.block 1 (.seq (.ops [⟨(some 10), .mov (.tmp 0), none⟩,
    ⟨(some 11), .indexStr (.tmp 10) (.const (.int .i64 0)), none⟩,
    ⟨(some 3), .mov (.tmp 11), none⟩])
  (.seq (.seq (.ops [⟨(some 12), .mov (.tmp 3), none⟩,
    ⟨(some 13), .bin .lss (.tmp 12) (.const (.int .u8 128)) (some (.int .u8)), none⟩])
  (.cond (.tmp 13)
  (.seq (.ops [⟨(some 14), .mov (.tmp 0), none⟩,
    ⟨(some 15), .sliceStr (.tmp 14) (some (.const (.int .i64 1))) none, none⟩,
    ⟨(some 0), .mov (.tmp 15), none⟩])
  (.seq (.seq (.ops [⟨(some 16), .mov (.tmp 0), none⟩,
    ⟨(some 17), .len 0 (.tmp 16), none⟩,
    ⟨(some 18), .bin .gtr (.tmp 17) (.const (.int .i64 8)) (some (.int .i64)), none⟩,
    ⟨(some 19), .mov (.tmp 18), none⟩,
    ⟨(some 20), .mov (.tmp 0), (some (19, true))⟩,
    ⟨(some 21), .call 74 [(.tmp 20)], (some (19, true))⟩,
    ⟨(some 22), .bin .and (.tmp 21) (.const (.int .u64 9259542123273814144)) (some (.int .u64)), (some (19, true))⟩,
    ⟨(some 23), .bin .eql (.tmp 22) (.const (.int .u64 0)) (some (.int .u64)), (some (19, true))⟩,
    ⟨(some 24), .pick (.tmp 19) (.tmp 23) (.const (.bool false)), none⟩])
  (.cond (.tmp 24)
  (.seq (.ops [⟨(some 25), .mov (.tmp 0), none⟩,
    ⟨(some 26), .sliceStr (.tmp 25) (some (.const (.int .i64 8))) none, none⟩,
    ⟨(some 0), .mov (.tmp 26), none⟩])
  (.seq (.ops [⟨(some 27), .mov (.tmp 0), none⟩,
    ⟨(some 28), .len 0 (.tmp 27), none⟩,
    ⟨(some 29), .bin .gtr (.tmp 28) (.const (.int .i64 16)) (some (.int .i64)), none⟩,
    ⟨(some 30), .mov (.tmp 29), none⟩,
    ⟨(some 31), .mov (.tmp 0), (some (30, true))⟩,
    ⟨(some 33), .mov (.tmp 0), (some (30, true))⟩,
    ⟨(some 34), .sliceStr (.tmp 33) (some (.const (.int .i64 8))) none, (some (30, true))⟩,
    ⟨(some 32), .call 74 [(.tmp 31)], (some (30, true))⟩,
    ⟨(some 35), .call 74 [(.tmp 34)], (some (30, true))⟩,
    ⟨(some 36), .bin .or (.tmp 32) (.tmp 35) (some (.int .u64)), (some (30, true))⟩,
    ⟨(some 37), .bin .and (.tmp 36) (.const (.int .u64 9259542123273814144)) (some (.int .u64)), (some (30, true))⟩,
    ⟨(some 38), .bin .eql (.tmp 37) (.const (.int .u64 0)) (some (.int .u64)), (some (30, true))⟩,
    ⟨(some 39), .pick (.tmp 30) (.tmp 38) (.const (.bool false)), none⟩])
  (.cond (.tmp 39)
  (.seq (.ops [⟨(some 40), .mov (.tmp 0), none⟩,
    ⟨(some 41), .sliceStr (.tmp 40) (some (.const (.int .i64 16))) none, none⟩,
    ⟨(some 0), .mov (.tmp 41), none⟩])
  (.block 2 (.loop (.seq (.seq (.ops [⟨(some 42), .mov (.tmp 0), none⟩,
    ⟨(some 43), .len 0 (.tmp 42), none⟩,
    ⟨(some 44), .bin .gtr (.tmp 43) (.const (.int .i64 32)) (some (.int .i64)), none⟩,
    ⟨(some 45), .mov (.tmp 44), none⟩,
    ⟨(some 46), .mov (.tmp 0), (some (45, true))⟩,
    ⟨(some 48), .mov (.tmp 0), (some (45, true))⟩,
    ⟨(some 49), .sliceStr (.tmp 48) (some (.const (.int .i64 8))) none, (some (45, true))⟩,
    ⟨(some 52), .mov (.tmp 0), (some (45, true))⟩,
    ⟨(some 53), .sliceStr (.tmp 52) (some (.const (.int .i64 16))) none, (some (45, true))⟩,
    ⟨(some 55), .mov (.tmp 0), (some (45, true))⟩,
    ⟨(some 56), .sliceStr (.tmp 55) (some (.const (.int .i64 24))) none, (some (45, true))⟩,
    ⟨(some 47), .call 74 [(.tmp 46)], (some (45, true))⟩,
    ⟨(some 50), .call 74 [(.tmp 49)], (some (45, true))⟩,
    ⟨(some 51), .bin .or (.tmp 47) (.tmp 50) (some (.int .u64)), (some (45, true))⟩,
    ⟨(some 54), .call 74 [(.tmp 53)], (some (45, true))⟩,
    ⟨(some 57), .call 74 [(.tmp 56)], (some (45, true))⟩,
    ⟨(some 58), .bin .or (.tmp 54) (.tmp 57) (some (.int .u64)), (some (45, true))⟩,
    ⟨(some 59), .bin .or (.tmp 51) (.tmp 58) (some (.int .u64)), (some (45, true))⟩,
    ⟨(some 60), .bin .and (.tmp 59) (.const (.int .u64 9259542123273814144)) (some (.int .u64)), (some (45, true))⟩,
    ⟨(some 61), .bin .eql (.tmp 60) (.const (.int .u64 0)) (some (.int .u64)), (some (45, true))⟩,
    ⟨(some 62), .pick (.tmp 45) (.tmp 61) (.const (.bool false)), none⟩])
  (.cond (.tmp 62)
  .skip
  (.exit 2)))
  (.block 3 (.ops [⟨(some 63), .mov (.tmp 0), none⟩,
    ⟨(some 64), .sliceStr (.tmp 63) (some (.const (.int .i64 32))) none, none⟩,
    ⟨(some 0), .mov (.tmp 64), none⟩]))))))
  .skip)))
  .skip))
  (.exit 1)))
  .skip))
  (.seq (.ops [⟨(some 65), .mov (.tmp 3), none⟩,
    ⟨(some 66), .indexAddrArr 1 256 (.global 0) (.tmp 65), none⟩,
    ⟨(some 67), .load false 1 (.tmp 66), none⟩,
    ⟨(some 4), .mov (.tmp 67), none⟩])
  (.seq (.ops [⟨(some 68), .mov (.tmp 4), none⟩,
    ⟨(some 69), .bin .and (.tmp 68) (.const (.int .u8 7)) (some (.int .u8)), none⟩,
    ⟨(some 70), .conv .i64 (.tmp 69), none⟩,
    ⟨(some 5), .mov (.tmp 70), none⟩])
  (.seq (.ops [⟨(some 71), .mov (.tmp 4), none⟩,
    ⟨(some 72), .bin .shr (.tmp 71) (.const (.int .u64 4)) (some (.int .u8)), none⟩,
    ⟨(some 73), .indexAddrArr 2 16 (.global 1) (.tmp 72), none⟩,
    ⟨(some 74), .load true 2 (.tmp 73), none⟩,
    ⟨(some 6), .alloc [(.int .u8 0), (.int .u8 0)], none⟩,
    ⟨none, .store 2 (.tmp 6) (.tmp 74), none⟩])
  (.seq (.ops [⟨(some 75), .mov (.tmp 5), none⟩])
  (.block 4 (.seq (.ops [⟨(some 77), .bin .eql (.tmp 75) (.const (.int .i64 2)) (some (.int .i64)), none⟩,
    ⟨(some 76), .mov (.tmp 77), none⟩])
  (.cond (.tmp 76)
  (.seq (.seq (.ops [⟨(some 78), .mov (.tmp 0), none⟩,
    ⟨(some 79), .len 0 (.tmp 78), none⟩,
    ⟨(some 80), .bin .lss (.tmp 79) (.const (.int .i64 2)) (some (.int .i64)), none⟩,
    ⟨(some 81), .mov (.tmp 80), none⟩,
    ⟨(some 82), .mov (.tmp 0), (some (81, false))⟩,
    ⟨(some 83), .indexStr (.tmp 82) (.const (.int .i64 1)), (some (81, false))⟩,
    ⟨(some 84), .fieldAddr 0 (.tmp 6), (some (81, false))⟩,
    ⟨(some 85), .load false 1 (.tmp 84), (some (81, false))⟩,
    ⟨(some 86), .bin .lss (.tmp 83) (.tmp 85) (some (.int .u8)), (some (81, false))⟩,
    ⟨(some 87), .pick (.tmp 81) (.const (.bool true)) (.tmp 86), none⟩,
    ⟨(some 88), .mov (.tmp 87), none⟩,
    ⟨(some 89), .fieldAddr 1 (.tmp 6), (some (88, false))⟩,
    ⟨(some 90), .load false 1 (.tmp 89), (some (88, false))⟩,
    ⟨(some 91), .mov (.tmp 0), (some (88, false))⟩,
    ⟨(some 92), .indexStr (.tmp 91) (.const (.int .i64 1)), (some (88, false))⟩,
    ⟨(some 93), .bin .lss (.tmp 90) (.tmp 92) (some (.int .u8)), (some (88, false))⟩,
    ⟨(some 94), .pick (.tmp 88) (.const (.bool true)) (.tmp 93), none⟩])
  (.cond (.tmp 94)
  (.seq (.ops [⟨(some 2), .mov (.const (.bool false)), none⟩])
  .ret)
  .skip))
  (.ops [⟨(some 95), .mov (.tmp 0), none⟩,
    ⟨(some 96), .sliceStr (.tmp 95) (some (.const (.int .i64 2))) none, none⟩,
    ⟨(some 0), .mov (.tmp 96), none⟩]))
  (.seq (.ops [⟨(some 98), .bin .eql (.tmp 75) (.const (.int .i64 3)) (some (.int .i64)), none⟩,
    ⟨(some 97), .mov (.tmp 98), none⟩])
  (.cond (.tmp 97)
  (.seq (.seq (.ops [⟨(some 99), .mov (.tmp 0), none⟩,
    ⟨(some 100), .len 0 (.tmp 99), none⟩,
    ⟨(some 101), .bin .lss (.tmp 100) (.const (.int .i64 3)) (some (.int .i64)), none⟩,
    ⟨(some 102), .mov (.tmp 101), none⟩,
    ⟨(some 103), .mov (.tmp 0), (some (102, false))⟩,
    ⟨(some 104), .indexStr (.tmp 103) (.const (.int .i64 1)), (some (102, false))⟩,
    ⟨(some 105), .fieldAddr 0 (.tmp 6), (some (102, false))⟩,
    ⟨(some 106), .load false 1 (.tmp 105), (some (102, false))⟩,
    ⟨(some 107), .bin .lss (.tmp 104) (.tmp 106) (some (.int .u8)), (some (102, false))⟩,
    ⟨(some 108), .pick (.tmp 102) (.const (.bool true)) (.tmp 107), none⟩,
    ⟨(some 109), .mov (.tmp 108), none⟩,
    ⟨(some 110), .fieldAddr 1 (.tmp 6), (some (109, false))⟩,
    ⟨(some 111), .load false 1 (.tmp 110), (some (109, false))⟩,
    ⟨(some 112), .mov (.tmp 0), (some (109, false))⟩,
    ⟨(some 113), .indexStr (.tmp 112) (.const (.int .i64 1)), (some (109, false))⟩,
    ⟨(some 114), .bin .lss (.tmp 111) (.tmp 113) (some (.int .u8)), (some (109, false))⟩,
    ⟨(some 115), .pick (.tmp 109) (.const (.bool true)) (.tmp 114), none⟩,
    ⟨(some 116), .mov (.tmp 115), none⟩,
    ⟨(some 117), .mov (.tmp 0), (some (116, false))⟩,
    ⟨(some 118), .indexStr (.tmp 117) (.const (.int .i64 2)), (some (116, false))⟩,
    ⟨(some 119), .bin .lss (.tmp 118) (.const (.int .u8 128)) (some (.int .u8)), (some (116, false))⟩,
    ⟨(some 120), .pick (.tmp 116) (.const (.bool true)) (.tmp 119), none⟩,
    ⟨(some 121), .mov (.tmp 120), none⟩,
    ⟨(some 122), .mov (.tmp 0), (some (121, false))⟩,
    ⟨(some 123), .indexStr (.tmp 122) (.const (.int .i64 2)), (some (121, false))⟩,
    ⟨(some 124), .bin .lss (.const (.int .u8 191)) (.tmp 123) (some (.int .u8)), (some (121, false))⟩,
    ⟨(some 125), .pick (.tmp 121) (.const (.bool true)) (.tmp 124), none⟩])
  (.cond (.tmp 125)
  (.seq (.ops [⟨(some 2), .mov (.const (.bool false)), none⟩])
  .ret)
  .skip))
  (.ops [⟨(some 126), .mov (.tmp 0), none⟩,
    ⟨(some 127), .sliceStr (.tmp 126) (some (.const (.int .i64 3))) none, none⟩,
    ⟨(some 0), .mov (.tmp 127), none⟩]))
  (.seq (.ops [⟨(some 129), .bin .eql (.tmp 75) (.const (.int .i64 4)) (some (.int .i64)), none⟩,
    ⟨(some 128), .mov (.tmp 129), none⟩])
  (.cond (.tmp 128)
  (.seq (.seq (.ops [⟨(some 130), .mov (.tmp 0), none⟩,
    ⟨(some 131), .len 0 (.tmp 130), none⟩,
    ⟨(some 132), .bin .lss (.tmp 131) (.const (.int .i64 4)) (some (.int .i64)), none⟩,
    ⟨(some 133), .mov (.tmp 132), none⟩,
    ⟨(some 134), .mov (.tmp 0), (some (133, false))⟩,
    ⟨(some 135), .indexStr (.tmp 134) (.const (.int .i64 1)), (some (133, false))⟩,
    ⟨(some 136), .fieldAddr 0 (.tmp 6), (some (133, false))⟩,
    ⟨(some 137), .load false 1 (.tmp 136), (some (133, false))⟩,
    ⟨(some 138), .bin .lss (.tmp 135) (.tmp 137) (some (.int .u8)), (some (133, false))⟩,
    ⟨(some 139), .pick (.tmp 133) (.const (.bool true)) (.tmp 138), none⟩,
    ⟨(some 140), .mov (.tmp 139), none⟩,
    ⟨(some 141), .fieldAddr 1 (.tmp 6), (some (140, false))⟩,
    ⟨(some 142), .load false 1 (.tmp 141), (some (140, false))⟩,
    ⟨(some 143), .mov (.tmp 0), (some (140, false))⟩,
    ⟨(some 144), .indexStr (.tmp 143) (.const (.int .i64 1)), (some (140, false))⟩,
    ⟨(some 145), .bin .lss (.tmp 142) (.tmp 144) (some (.int .u8)), (some (140, false))⟩,
    ⟨(some 146), .pick (.tmp 140) (.const (.bool true)) (.tmp 145), none⟩,
    ⟨(some 147), .mov (.tmp 146), none⟩,
    ⟨(some 148), .mov (.tmp 0), (some (147, false))⟩,
    ⟨(some 149), .indexStr (.tmp 148) (.const (.int .i64 2)), (some (147, false))⟩,
    ⟨(some 150), .bin .lss (.tmp 149) (.const (.int .u8 128)) (some (.int .u8)), (some (147, false))⟩,
    ⟨(some 151), .pick (.tmp 147) (.const (.bool true)) (.tmp 150), none⟩,
    ⟨(some 152), .mov (.tmp 151), none⟩,
    ⟨(some 153), .mov (.tmp 0), (some (152, false))⟩,
    ⟨(some 154), .indexStr (.tmp 153) (.const (.int .i64 2)), (some (152, false))⟩,
    ⟨(some 155), .bin .lss (.const (.int .u8 191)) (.tmp 154) (some (.int .u8)), (some (152, false))⟩,
    ⟨(some 156), .pick (.tmp 152) (.const (.bool true)) (.tmp 155), none⟩,
    ⟨(some 157), .mov (.tmp 156), none⟩,
    ⟨(some 158), .mov (.tmp 0), (some (157, false))⟩,
    ⟨(some 159), .indexStr (.tmp 158) (.const (.int .i64 3)), (some (157, false))⟩,
    ⟨(some 160), .bin .lss (.tmp 159) (.const (.int .u8 128)) (some (.int .u8)), (some (157, false))⟩,
    ⟨(some 161), .pick (.tmp 157) (.const (.bool true)) (.tmp 160), none⟩,
    ⟨(some 162), .mov (.tmp 161), none⟩,
    ⟨(some 163), .mov (.tmp 0), (some (162, false))⟩,
    ⟨(some 164), .indexStr (.tmp 163) (.const (.int .i64 3)), (some (162, false))⟩,
    ⟨(some 165), .bin .lss (.const (.int .u8 191)) (.tmp 164) (some (.int .u8)), (some (162, false))⟩,
    ⟨(some 166), .pick (.tmp 162) (.const (.bool true)) (.tmp 165), none⟩])
  (.cond (.tmp 166)
  (.seq (.ops [⟨(some 2), .mov (.const (.bool false)), none⟩])
  .ret)
  .skip))
  (.ops [⟨(some 167), .mov (.tmp 0), none⟩,
    ⟨(some 168), .sliceStr (.tmp 167) (some (.const (.int .i64 4))) none, none⟩,
    ⟨(some 0), .mov (.tmp 168), none⟩]))
  (.seq (.ops [⟨(some 2), .mov (.const (.bool false)), none⟩])
  .ret))))))))))))))))))
  (.seq (.ops [⟨(some 2), .mov (.const (.bool true)), none⟩])
  .ret)))⟩
theorem F36_ok : compF Tryz.prog 36 = some F36 := by kernel_rfl
/-- colonnade/kind.all -/
def F37 : FC := ⟨6, [.tmp 4],
  (.seq (.ops [⟨(some 2), .box (.tmp 0), none⟩,
    ⟨(some 3), .box (.tmp 1), none⟩,
    ⟨(some 4), .mov (.const .nilFunc), none⟩])
  (.seq (.ops [⟨(some 5), .mkFunc (.func 75) [] [(.tmp 3), (.tmp 2)], none⟩,
    ⟨(some 4), .mov (.tmp 5), none⟩])
  .ret))⟩
theorem F37_ok : compF Tryz.prog 37 = some F37 := by kernel_rfl
/-- colonnade/kind.wrong -/
def F38 : FC := ⟨74, [.tmp 6],
  (.seq (.ops [⟨(some 3), .box (.tmp 0), none⟩,
    ⟨(some 6), .mov (.const (.int .i64 0)), none⟩])
  (.seq (.ops [⟨(some 10), .fieldAddr 2 (.tmp 3), none⟩,
    ⟨(some 11), .fieldAddr 2 (.tmp 10), none⟩,
    ⟨(some 12), .load true 5 (.tmp 11), none⟩,
    ⟨(some 7), .alloc [(.int .i64 0), (.int .i64 0), (.int .i64 0), (.int .i64 0), (.slice none 0 0)], none⟩,
    ⟨none, .store 5 (.tmp 7) (.tmp 12), none⟩])
  (.seq (.ops [⟨(some 14), .mov (.tmp 2), none⟩,
    ⟨(some 15), .fieldAddr 2 (.tmp 7), none⟩,
    ⟨(some 16), .load false 1 (.tmp 15), none⟩,
    ⟨(some 17), .lookup 0 [(.int .i64 0)] false true (.tmp 14) (.tmp 16), none⟩,
    ⟨(some 13), .mov (.tmp 17), none⟩,
    ⟨(some 18), .extract (.tmp 13) 0, none⟩,
    ⟨(some 19), .extract (.tmp 13) 1, none⟩,
    ⟨(some 8), .mov (.tmp 18), none⟩,
    ⟨(some 9), .mov (.tmp 19), none⟩])
  (.seq (.block 0 (.seq (.ops [⟨(some 21), .fieldAddr 0 (.tmp 3), none⟩,
    ⟨(some 22), .load false 1 (.tmp 21), none⟩,
    ⟨(some 23), .len 1 (.tmp 22), none⟩,
    ⟨(some 24), .bin .gtr (.tmp 23) (.const (.int .i64 64)) (some (.int .i64)), none⟩,
    ⟨(some 20), .mov (.tmp 24), none⟩])
  (.cond (.tmp 20)
  (.seq (.ops [⟨(some 6), .mov (.const (.int .i64 33)), none⟩])
  .ret)
  (.seq (.ops [⟨(some 26), .mov (.tmp 1), none⟩,
    ⟨(some 27), .bin .geq (.tmp 26) (.const (.int .i64 256)) (some (.int .i64)), none⟩,
    ⟨(some 25), .mov (.tmp 27), none⟩])
  (.cond (.tmp 25)
  (.seq (.ops [⟨(some 6), .mov (.const (.int .i64 34)), none⟩])
  .ret)
  (.seq (.ops [⟨(some 29), .fieldAddr 2 (.tmp 3), none⟩,
    ⟨(some 30), .fieldAddr 0 (.tmp 29), none⟩,
    ⟨(some 31), .load false 1 (.tmp 30), none⟩,
    ⟨(some 32), .call 78 [(.tmp 31)], none⟩,
    ⟨(some 33), .un .not (.tmp 32), none⟩,
    ⟨(some 28), .mov (.tmp 33), none⟩])
  (.cond (.tmp 28)
  (.seq (.ops [⟨(some 6), .mov (.const (.int .i64 30)), none⟩])
  .ret)
  (.seq (.ops [⟨(some 35), .fieldAddr 1 (.tmp 3), none⟩,
    ⟨(some 36), .load false 1 (.tmp 35), none⟩,
    ⟨(some 37), .mkFunc (.func 80) [] [(.tmp 3)], none⟩,
    ⟨(some 38), .call 79 [(.tmp 36), (.tmp 37)], none⟩,
    ⟨(some 34), .mov (.tmp 38), none⟩])
  (.cond (.tmp 34)
  (.seq (.ops [⟨(some 6), .mov (.const (.int .i64 31)), none⟩])
  .ret)
  (.seq (.ops [⟨(some 40), .load true 5 (.tmp 7), none⟩,
    ⟨(some 41), .call 81 [(.tmp 40)], none⟩,
    ⟨(some 42), .un .not (.tmp 41), none⟩,
    ⟨(some 39), .mov (.tmp 42), none⟩])
  (.cond (.tmp 39)
  (.seq (.ops [⟨(some 6), .mov (.const (.int .i64 32)), none⟩])
  .ret)
  (.seq (.ops [⟨(some 44), .fieldAddr 2 (.tmp 3), none⟩,
    ⟨(some 45), .load true 7 (.tmp 44), none⟩,
    ⟨(some 46), .call 82 [(.tmp 45)], none⟩,
    ⟨(some 47), .un .not (.tmp 46), none⟩,
    ⟨(some 43), .mov (.tmp 47), none⟩])
  (.cond (.tmp 43)
  (.seq (.ops [⟨(some 6), .mov (.const (.int .i64 35)), none⟩])
  .ret)
  (.seq (.seq (.ops [⟨(some 49), .fieldAddr 9 (.tmp 3), none⟩,
    ⟨(some 50), .load false 1 (.tmp 49), none⟩,
    ⟨(some 51), .mov (.tmp 50), none⟩,
    ⟨(some 52), .fieldAddr 0 (.tmp 7), (some (51, true))⟩,
    ⟨(some 53), .load false 1 (.tmp 52), (some (51, true))⟩,
    ⟨(some 54), .bin .eql (.tmp 53) (.const (.int .i64 19)) (some (.int .i64)), (some (51, true))⟩,
    ⟨(some 55), .mov (.tmp 54), (some (51, true))⟩,
    ⟨(some 56), .fieldAddr 0 (.tmp 7), (some (55, false))⟩,
    ⟨(some 57), .load false 1 (.tmp 56), (some (55, false))⟩,
    ⟨(some 58), .bin .eql (.tmp 57) (.const (.int .i64 20)) (some (.int .i64)), (some (55, false))⟩,
    ⟨(some 59), .pick (.tmp 55) (.const (.bool true)) (.tmp 58), (some (51, true))⟩,
    ⟨(some 60), .pick (.tmp 51) (.tmp 59) (.const (.bool false)), none⟩,
    ⟨(some 48), .mov (.tmp 60), none⟩])
  (.cond (.tmp 48)
  .skip
  (.ops [⟨(some 61), .fieldAddr 0 (.tmp 7), none⟩,
    ⟨(some 62), .load false 1 (.tmp 61), none⟩,
    ⟨(some 63), .bin .eql (.tmp 62) (.const (.int .i64 19)) (some (.int .i64)), none⟩,
    ⟨(some 64), .mov (.tmp 63), none⟩,
    ⟨(some 65), .fieldAddr 4 (.tmp 7), (some (64, true))⟩,
    ⟨(some 66), .load false 1 (.tmp 65), (some (64, true))⟩,
    ⟨(some 67), .indexAddr 7 (.tmp 66) (.const (.int .i64 0)), (some (64, true))⟩,
    ⟨(some 68), .fieldAddr 1 (.tmp 67), (some (64, true))⟩,
    ⟨(some 69), .load false 1 (.tmp 68), (some (64, true))⟩,
    ⟨(some 70), .mov (.tmp 69), (some (64, true))⟩,
    ⟨(some 71), .mov (.tmp 9), (some (70, false))⟩,
    ⟨(some 72), .pick (.tmp 70) (.const (.bool true)) (.tmp 71), (some (64, true))⟩,
    ⟨(some 73), .pick (.tmp 64) (.tmp 72) (.const (.bool false)), none⟩,
    ⟨(some 48), .mov (.tmp 73), none⟩])))
  (.cond (.tmp 48)
  (.seq (.ops [⟨(some 6), .mov (.const (.int .i64 36)), none⟩])
  .ret)
  .skip)))))))))))))))
  (.seq (.ops [⟨(some 6), .mov (.const (.int .i64 0)), none⟩])
  .ret)))))⟩
theorem F38_ok : compF Tryz.prog 38 = some F38 := by kernel_rfl
/-- colonnade/build.New -/
def F47 : FC := ⟨15, [.tmp 2, .tmp 3],
  (.seq (.ops [⟨(some 1), .box (.tmp 0), none⟩,
    ⟨(some 2), .mov (.const (.pointer none)), none⟩,
    ⟨(some 3), .mov (.const (.int .i64 0)), none⟩])
  (.seq (.seq (.ops [⟨(some 5), .load true 7 (.tmp 1), none⟩,
    ⟨(some 6), .call 90 [(.tmp 5)], none⟩,
    ⟨(some 7), .un .not (.tmp 6), none⟩])
  (.cond (.tmp 7)
  (.seq (.ops [⟨(some 2), .mov (.const (.pointer none)), none⟩,
    ⟨(some 3), .mov (.const (.int .i64 5)), none⟩])
  .ret)
  .skip))
  (.seq (.ops [⟨(some 8), .load true 7 (.tmp 1), none⟩,
    ⟨(some 9), .call 91 [(.tmp 8)], none⟩,
    ⟨(some 4), .alloc [(.string ⟨#[]⟩), (.bool false), (.int .i64 0), (.int .i64 0), (.int .i64 0), (.int .i64 0), (.slice none 0 0)], none⟩,
    ⟨none, .store 7 (.tmp 4) (.tmp 9), none⟩])
  (.seq (.ops [⟨(some 10), .load true 7 (.tmp 4), none⟩,
    ⟨(some 11), .load true 7 (.tmp 4), none⟩,
    ⟨(some 12), .call 92 [(.tmp 11)], none⟩,
    ⟨none, .again 10 true 7 (.tmp 4), none⟩,
    ⟨(some 13), .build [(.string ⟨#[]⟩), (.bool false), (.int .i64 0), (.int .i64 0), (.int .i64 0), (.int .i64 0), (.slice none 0 0), .nilIface, (.bool false)] [(0, 7, (.tmp 10)), (7, 1, (.tmp 12))], none⟩,
    ⟨(some 14), .box (.tmp 13), none⟩,
    ⟨(some 2), .mov (.tmp 14), none⟩,
    ⟨(some 3), .mov (.const (.int .i64 0)), none⟩])
  .ret))))⟩
theorem F47_ok : compF Tryz.prog 47 = some F47 := by kernel_rfl
/-- colonnade/lines.heading -/
def F50 : FC := ⟨41, [.tmp 4, .tmp 5],
  (.seq (.ops [⟨(some 2), .box (.tmp 0), none⟩,
    ⟨(some 4), .mov (.const (.int .i64 0)), none⟩,
    ⟨(some 5), .mov (.const (.int .i64 0)), none⟩])
  (.seq (.seq (.ops [⟨(some 8), .fieldAddr 0 (.tmp 2), none⟩,
    ⟨(some 9), .load false 1 (.tmp 8), none⟩,
    ⟨(some 10), .len 1 (.tmp 9), none⟩,
    ⟨(some 11), .mov (.const (.int .i64 0)), none⟩])
  (.block 0 (.loop (.seq (.ops [⟨(some 12), .bin .lss (.tmp 11) (.tmp 10) (some (.int .i64)), none⟩])
  (.seq (.cond (.tmp 12)
  .skip
  (.exit 0))
  (.seq (.block 1 (.seq (.ops [⟨(some 13), .mov (.tmp 11), none⟩,
    ⟨(some 14), .indexAddr 7 (.tmp 9) (.tmp 11), none⟩,
    ⟨(some 15), .load true 7 (.tmp 14), none⟩,
    ⟨(some 7), .alloc [(.string ⟨#[]⟩), (.bool false), (.int .i64 0), (.int .i64 0), (.int .i64 0), (.int .i64 0), (.slice none 0 0)], none⟩,
    ⟨(some 6), .mov (.tmp 13), none⟩,
    ⟨none, .store 7 (.tmp 7) (.tmp 15), none⟩])
  (.seq (.ops [⟨(some 16), .mov (.tmp 6), none⟩,
    ⟨(some 17), .mov (.tmp 1), none⟩,
    ⟨(some 18), .len 1 (.tmp 17), none⟩,
    ⟨(some 19), .bin .geq (.tmp 16) (.tmp 18) (some (.int .i64)), none⟩,
    ⟨(some 20), .mov (.tmp 19), none⟩,
    ⟨(some 21), .mov (.tmp 1), (some (20, false))⟩,
    ⟨(some 22), .mov (.tmp 6), (some (20, false))⟩,
    ⟨(some 23), .indexAddr 2 (.tmp 21) (.tmp 22), (some (20, false))⟩,
    ⟨(some 24), .fieldAddr 0 (.tmp 23), (some (20, false))⟩,
    ⟨(some 25), .load false 1 (.tmp 24), (some (20, false))⟩,
    ⟨(some 26), .fieldAddr 0 (.tmp 7), (some (20, false))⟩,
    ⟨(some 27), .load false 1 (.tmp 26), (some (20, false))⟩,
    ⟨(some 28), .bin .neq (.tmp 25) (.tmp 27) (some .string), (some (20, false))⟩,
    ⟨(some 29), .pick (.tmp 20) (.const (.bool true)) (.tmp 28), none⟩])
  (.cond (.tmp 29)
  (.seq (.ops [⟨(some 30), .mov (.tmp 6), none⟩,
    ⟨(some 4), .mov (.const (.int .i64 253)), none⟩,
    ⟨(some 5), .mov (.tmp 30), none⟩])
  .ret)
  .skip))))
  (.ops [⟨(some 31), .bin .add (.tmp 11) (.const (.int .i64 1)) (some (.int .i64)), none⟩,
    ⟨(some 11), .mov (.tmp 31), none⟩])))))))
  (.seq (.seq (.ops [⟨(some 32), .mov (.tmp 1), none⟩,
    ⟨(some 33), .len 1 (.tmp 32), none⟩,
    ⟨(some 34), .fieldAddr 0 (.tmp 2), none⟩,
    ⟨(some 35), .load false 1 (.tmp 34), none⟩,
    ⟨(some 36), .len 1 (.tmp 35), none⟩,
    ⟨(some 37), .bin .gtr (.tmp 33) (.tmp 36) (some (.int .i64)), none⟩])
  (.cond (.tmp 37)
  (.seq (.ops [⟨(some 38), .fieldAddr 0 (.tmp 2), none⟩,
    ⟨(some 39), .load false 1 (.tmp 38), none⟩,
    ⟨(some 40), .len 1 (.tmp 39), none⟩,
    ⟨(some 4), .mov (.const (.int .i64 253)), none⟩,
    ⟨(some 5), .mov (.tmp 40), none⟩])
  .ret)
  .skip))
  (.seq (.ops [⟨(some 4), .mov (.const (.int .i64 0)), none⟩,
    ⟨(some 5), .mov (.const (.int .i64 0)), none⟩])
  .ret))))⟩
theorem F50_ok : compF Tryz.prog 50 = some F50 := by kernel_rfl
/-- (*colonnade/lines.table).take -/
def F51 : FC := ⟨80, [.tmp 4, .tmp 5],
  (.seq (.ops [⟨(some 4), .mov (.const (.int .i64 0)), none⟩,
    ⟨(some 5), .mov (.const (.int .i64 0)), none⟩])
  (.seq (.seq (.ops [⟨(some 11), .mov (.tmp 1), none⟩,
    ⟨(some 12), .len 1 (.tmp 11), none⟩,
    ⟨(some 13), .mov (.tmp 0), none⟩,
    ⟨(some 14), .nilCheck (.tmp 13), none⟩,
    ⟨(some 15), .fieldAddr 0 (.tmp 14), none⟩,
    ⟨(some 16), .fieldAddr 0 (.tmp 15), none⟩,
    ⟨(some 17), .load false 1 (.tmp 16), none⟩,
    ⟨(some 18), .len 1 (.tmp 17), none⟩,
    ⟨(some 19), .bin .neq (.tmp 12) (.tmp 18) (some (.int .i64)), none⟩])
  (.cond (.tmp 19)
  (.seq (.ops [⟨(some 20), .mov (.tmp 1), none⟩,
    ⟨(some 21), .len 1 (.tmp 20), none⟩,
    ⟨(some 22), .mov (.tmp 0), none⟩,
    ⟨(some 23), .nilCheck (.tmp 22), none⟩,
    ⟨(some 24), .fieldAddr 0 (.tmp 23), none⟩,
    ⟨(some 25), .fieldAddr 0 (.tmp 24), none⟩,
    ⟨(some 26), .load false 1 (.tmp 25), none⟩,
    ⟨(some 27), .len 1 (.tmp 26), none⟩,
    ⟨(some 28), .minmax false (.tmp 21) [(.tmp 27)], none⟩,
    ⟨(some 4), .mov (.const (.int .i64 251)), none⟩,
    ⟨(some 5), .mov (.tmp 28), none⟩])
  .ret)
  .skip))
  (.seq (.seq (.ops [⟨(some 29), .mov (.tmp 0), none⟩,
    ⟨(some 30), .nilCheck (.tmp 29), none⟩,
    ⟨(some 31), .fieldAddr 4 (.tmp 30), none⟩,
    ⟨(some 32), .load false 1 (.tmp 31), none⟩,
    ⟨(some 33), .bin .eql (.tmp 32) (.const (.int .i64 4096)) (some (.int .i64)), none⟩])
  (.cond (.tmp 33)
  (.ops [⟨(some 34), .mov (.tmp 0), none⟩,
    ⟨(some 35), .call 22 [(.tmp 34)], none⟩])
  .skip))
  (.seq (.seq (.ops [⟨(some 36), .mov (.tmp 1), none⟩,
    ⟨(some 37), .len 1 (.tmp 36), none⟩,
    ⟨(some 38), .mov (.const (.int .i64 0)), none⟩])
  (.block 0 (.loop (.seq (.ops [⟨(some 39), .bin .lss (.tmp 38) (.tmp 37) (some (.int .i64)), none⟩])
  (.seq (.cond (.tmp 39)
  .skip
  (.exit 0))
  (.seq (.block 1 (.seq (.ops [⟨(some 40), .mov (.tmp 38), none⟩,
    ⟨(some 41), .indexAddr 2 (.tmp 36) (.tmp 38), none⟩,
    ⟨(some 42), .load true 2 (.tmp 41), none⟩,
    ⟨(some 7), .alloc [(.string ⟨#[]⟩), (.bool false)], none⟩,
    ⟨(some 6), .mov (.tmp 40), none⟩,
    ⟨none, .store 2 (.tmp 7) (.tmp 42), none⟩])
  (.seq (.ops [⟨(some 44), .mov (.tmp 0), none⟩,
    ⟨(some 45), .nilCheck (.tmp 44), none⟩,
    ⟨(some 46), .fieldAddr 0 (.tmp 45), none⟩,
    ⟨(some 47), .fieldAddr 0 (.tmp 46), none⟩,
    ⟨(some 48), .load false 1 (.tmp 47), none⟩,
    ⟨(some 49), .mov (.tmp 6), none⟩,
    ⟨(some 50), .indexAddr 7 (.tmp 48) (.tmp 49), none⟩,
    ⟨(some 51), .load true 7 (.tmp 50), none⟩,
    ⟨(some 52), .load true 2 (.tmp 7), none⟩,
    ⟨(some 53), .call 93 [(.tmp 51), (.tmp 52)], none⟩,
    ⟨(some 43), .mov (.tmp 53), none⟩,
    ⟨(some 54), .extract (.tmp 43) 0, none⟩,
    ⟨(some 55), .extract (.tmp 43) 1, none⟩,
    ⟨(some 8), .alloc [(.bool false), (.int .i64 0), (.string ⟨#[]⟩), (.slice none 0 0)], none⟩,
    ⟨none, .store 4 (.tmp 8) (.tmp 54), none⟩,
    ⟨(some 9), .mov (.tmp 55), none⟩])
  (.seq (.seq (.ops [⟨(some 56), .mov (.tmp 9), none⟩,
    ⟨(some 57), .un .not (.tmp 56), none⟩])
  (.cond (.tmp 57)
  (.seq (.ops [⟨(some 58), .mov (.tmp 6), none⟩,
    ⟨(some 4), .mov (.const (.int .i64 252)), none⟩,
    ⟨(some 5), .mov (.tmp 58), none⟩])
  .ret)
  .skip))
  (.seq (.ops [⟨(some 59), .mov (.tmp 0), none⟩,
    ⟨(some 60), .nilCheck (.tmp 59), none⟩,
    ⟨(some 61), .fieldAddr 3 (.tmp 60), none⟩,
    ⟨(some 62), .load false 1 (.tmp 61), none⟩,
    ⟨(some 63), .mov (.tmp 6), none⟩,
    ⟨(some 64), .indexAddr 1 (.tmp 62) (.tmp 63), none⟩,
    ⟨(some 65), .load false 1 (.tmp 64), none⟩,
    ⟨(some 66), .load true 4 (.tmp 8), none⟩,
    ⟨(some 67), .call 94 [(.tmp 65), (.tmp 66)], none⟩,
    ⟨(some 10), .mov (.tmp 67), none⟩])
  (.seq (.ops [⟨(some 68), .mov (.tmp 10), none⟩,
    ⟨(some 69), .bin .neq (.tmp 68) (.const (.int .i64 0)) (some (.int .i64)), none⟩])
  (.cond (.tmp 69)
  (.seq (.ops [⟨(some 70), .mov (.tmp 10), none⟩,
    ⟨(some 71), .mov (.tmp 6), none⟩,
    ⟨(some 4), .mov (.tmp 70), none⟩,
    ⟨(some 5), .mov (.tmp 71), none⟩])
  .ret)
  .skip)))))))
  (.ops [⟨(some 72), .bin .add (.tmp 38) (.const (.int .i64 1)) (some (.int .i64)), none⟩,
    ⟨(some 38), .mov (.tmp 72), none⟩])))))))
  (.seq (.ops [⟨(some 73), .mov (.tmp 0), none⟩,
    ⟨(some 74), .nilCheck (.tmp 73), none⟩,
    ⟨(some 75), .fieldAddr 4 (.tmp 74), none⟩,
    ⟨(some 76), .load false 1 (.tmp 75), none⟩,
    ⟨(some 77), .bin .add (.tmp 76) (.const (.int .i64 1)) (some (.int .i64)), none⟩,
    ⟨(some 78), .nilCheck (.tmp 73), none⟩,
    ⟨(some 79), .fieldAddr 4 (.tmp 78), none⟩,
    ⟨none, .store 1 (.tmp 79) (.tmp 77), none⟩])
  (.seq (.ops [⟨(some 4), .mov (.const (.int .i64 0)), none⟩,
    ⟨(some 5), .mov (.const (.int .i64 0)), none⟩])
  .ret))))))⟩
theorem F51_ok : compF Tryz.prog 51 = some F51 := by kernel_rfl
/-- (*colonnade/build.Builder).Done -/
def F52 : FC := ⟨17, [.cell 2 true 6, .tmp 3],
  (.seq (.ops [⟨(some 2), .alloc [(.int .i64 0), (.int .i64 0), (.int .i64 0), (.slice none 0 0), (.slice none 0 0), (.slice none 0 0)], none⟩,
    ⟨(some 3), .mov (.const (.int .i64 0)), none⟩])
  (.seq (.seq (.ops [⟨(some 4), .mov (.tmp 0), none⟩,
    ⟨(some 5), .nilCheck (.tmp 4), none⟩,
    ⟨(some 6), .fieldAddr 8 (.tmp 5), none⟩,
    ⟨(some 7), .load false 1 (.tmp 6), none⟩])
  (.cond (.tmp 7)
  (.seq (.ops [⟨(some 8), .build [(.int .i64 0), (.int .i64 0), (.int .i64 0), (.slice none 0 0), (.slice none 0 0), (.slice none 0 0)] [], none⟩,
    ⟨none, .store 6 (.tmp 2) (.tmp 8), none⟩,
    ⟨(some 3), .mov (.const (.int .i64 9)), none⟩])
  .ret)
  .skip))
  (.seq (.ops [⟨(some 9), .mov (.tmp 0), none⟩,
    ⟨(some 10), .nilCheck (.tmp 9), none⟩,
    ⟨(some 11), .fieldAddr 8 (.tmp 10), none⟩,
    ⟨none, .store 1 (.tmp 11) (.const (.bool true)), none⟩])
  (.seq (.ops [⟨(some 12), .mov (.tmp 0), none⟩,
    ⟨(some 13), .nilCheck (.tmp 12), none⟩,
    ⟨(some 14), .fieldAddr 7 (.tmp 13), none⟩,
    ⟨(some 15), .load false 1 (.tmp 14), none⟩,
    ⟨(some 16), .invoke (.tmp 15) "colonnade/build.done" [(225, 300), (228, 310), (231, 318), (234, 323), (237, 328), (240, 337), (243, 344), (247, 359), (250, 364)] [], none⟩,
    ⟨none, .store 6 (.tmp 2) (.tmp 16), none⟩,
    ⟨(some 3), .mov (.const (.int .i64 0)), none⟩])
  .ret))))⟩
theorem F52_ok : compF Tryz.prog 52 = some F52 := by kernel_rfl
/-- colonnade/lines.fields -/
def F53 : FC := ⟨26, [.tmp 2],
  (.seq (.ops [⟨(some 2), .mov (.const (.slice none 0 0)), none⟩])
  (.seq (.ops [⟨(some 5), .mov (.tmp 0), none⟩,
    ⟨(some 6), .call 95 [(.tmp 5)], none⟩,
    ⟨(some 3), .mov (.tmp 6), none⟩])
  (.seq (.seq (.ops [⟨(some 7), .mov (.tmp 3), none⟩,
    ⟨(some 8), .len 1 (.tmp 7), none⟩,
    ⟨(some 9), .mov (.const (.int .i64 0)), none⟩])
  (.block 0 (.loop (.seq (.ops [⟨(some 10), .bin .lss (.tmp 9) (.tmp 8) (some (.int .i64)), none⟩])
  (.seq (.cond (.tmp 10)
  .skip
  (.exit 0))
  (.seq (.block 1 (.seq (.ops [⟨(some 11), .mov (.tmp 9), none⟩,
    ⟨(some 4), .mov (.tmp 11), none⟩])
  (.ops [⟨(some 12), .mov (.tmp 3), none⟩,
    ⟨(some 13), .mov (.tmp 4), none⟩,
    ⟨(some 14), .mov (.tmp 3), none⟩,
    ⟨(some 15), .mov (.tmp 4), none⟩,
    ⟨(some 16), .indexAddr 7 (.tmp 14) (.tmp 15), none⟩,
    ⟨(some 17), .fieldAddr 2 (.tmp 16), none⟩,
    ⟨(some 18), .fieldAddr 4 (.tmp 17), none⟩,
    ⟨(some 19), .load false 1 (.tmp 18), none⟩,
    ⟨(some 20), .call 53 [(.tmp 19)], none⟩,
    ⟨(some 21), .indexAddr 7 (.tmp 12) (.tmp 13), none⟩,
    ⟨(some 22), .fieldAddr 2 (.tmp 21), none⟩,
    ⟨(some 23), .fieldAddr 4 (.tmp 22), none⟩,
    ⟨none, .store 1 (.tmp 23) (.tmp 20), none⟩])))
  (.ops [⟨(some 24), .bin .add (.tmp 9) (.const (.int .i64 1)) (some (.int .i64)), none⟩,
    ⟨(some 9), .mov (.tmp 24), none⟩])))))))
  (.seq (.ops [⟨(some 25), .mov (.tmp 3), none⟩,
    ⟨(some 2), .mov (.tmp 25), none⟩])
  .ret))))⟩
theorem F53_ok : compF Tryz.prog 53 = some F53 := by kernel_rfl
/-- slices.Clone[[]colonnade/api.Note,colonnade/api.Note] -/
def F54 : FC := ⟨8, [.tmp 2],
  (.seq (.ops [⟨(some 2), .mov (.const (.slice none 0 0)), none⟩])
  (.seq (.seq (.ops [⟨(some 3), .mov (.tmp 0), none⟩,
    ⟨(some 4), .bin .eql (.tmp 3) (.const (.slice none 0 0)) (some (.slice 73)), none⟩])
  (.cond (.tmp 4)
  (.seq (.ops [⟨(some 2), .mov (.const (.slice none 0 0)), none⟩])
  .ret)
  .skip))
  (.seq (.ops [⟨(some 5), .buildSlice 2 0 [] [], none⟩,
    ⟨(some 6), .mov (.tmp 0), none⟩,
    ⟨(some 7), .append 2 32 (.tmp 5) (.tmp 6), none⟩,
    ⟨(some 2), .mov (.tmp 7), none⟩])
  .ret)))⟩
theorem F54_ok : compF Tryz.prog 54 = some F54 := by kernel_rfl
/-- colonnade/lines.opened -/
def F55 : FC := ⟨72, [.tmp 4, .tmp 5],
  (.seq (.ops [⟨(some 2), .box (.tmp 0), none⟩,
    ⟨(some 3), .box (.tmp 1), none⟩,
    ⟨(some 4), .mov (.const (.slice none 0 0)), none⟩,
    ⟨(some 5), .mov (.const (.int .i64 0)), none⟩])
  (.seq (.seq (.ops [⟨(some 13), .fieldAddr 0 (.tmp 3), none⟩,
    ⟨(some 14), .load false 1 (.tmp 13), none⟩,
    ⟨(some 15), .bin .lss (.tmp 14) (.const (.int .i64 0)) (some (.int .i64)), none⟩,
    ⟨(some 16), .mov (.tmp 15), none⟩,
    ⟨(some 17), .fieldAddr 0 (.tmp 3), (some (16, false))⟩,
    ⟨(some 18), .load false 1 (.tmp 17), (some (16, false))⟩,
    ⟨(some 19), .bin .gtr (.tmp 18) (.const (.int .i64 4096)) (some (.int .i64)), (some (16, false))⟩,
    ⟨(some 20), .pick (.tmp 16) (.const (.bool true)) (.tmp 19), none⟩,
    ⟨(some 21), .mov (.tmp 20), none⟩,
    ⟨(some 22), .fieldAddr 1 (.tmp 3), (some (21, false))⟩,
    ⟨(some 23), .load false 1 (.tmp 22), (some (21, false))⟩,
    ⟨(some 24), .len 1 (.tmp 23), (some (21, false))⟩,
    ⟨(some 25), .fieldAddr 0 (.tmp 2), (some (21, false))⟩,
    ⟨(some 26), .load false 1 (.tmp 25), (some (21, false))⟩,
    ⟨(some 27), .len 1 (.tmp 26), (some (21, false))⟩,
    ⟨(some 28), .bin .neq (.tmp 24) (.tmp 27) (some (.int .i64)), (some (21, false))⟩,
    ⟨(some 29), .pick (.tmp 21) (.const (.bool true)) (.tmp 28), none⟩])
  (.cond (.tmp 29)
  (.seq (.ops [⟨(some 4), .mov (.const (.slice none 0 0)), none⟩,
    ⟨(some 5), .mov (.const (.int .i64 110)), none⟩])
  .ret)
  .skip))
  (.seq (.seq (.ops [⟨(some 30), .fieldAddr 1 (.tmp 3), none⟩,
    ⟨(some 31), .load false 1 (.tmp 30), none⟩,
    ⟨(some 32), .len 1 (.tmp 31), none⟩,
    ⟨(some 33), .mov (.const (.int .i64 0)), none⟩])
  (.block 0 (.loop (.seq (.ops [⟨(some 34), .bin .lss (.tmp 33) (.tmp 32) (some (.int .i64)), none⟩])
  (.seq (.cond (.tmp 34)
  .skip
  (.exit 0))
  (.seq (.block 1 (.seq (.ops [⟨(some 35), .indexAddr 6 (.tmp 31) (.tmp 33), none⟩,
    ⟨(some 36), .load true 6 (.tmp 35), none⟩,
    ⟨(some 7), .alloc [(.int .i64 0), (.int .i64 0), (.int .i64 0), (.slice none 0 0), (.slice none 0 0), (.slice none 0 0)], none⟩,
    ⟨none, .store 6 (.tmp 7) (.tmp 36), none⟩])
  (.seq (.ops [⟨(some 37), .fieldAddr 0 (.tmp 7), none⟩,
    ⟨(some 38), .load false 1 (.tmp 37), none⟩,
    ⟨(some 39), .fieldAddr 0 (.tmp 3), none⟩,
    ⟨(some 40), .load false 1 (.tmp 39), none⟩,
    ⟨(some 41), .bin .neq (.tmp 38) (.tmp 40) (some (.int .i64)), none⟩])
  (.cond (.tmp 41)
  (.seq (.ops [⟨(some 4), .mov (.const (.slice none 0 0)), none⟩,
    ⟨(some 5), .mov (.const (.int .i64 110)), none⟩])
  .ret)
  .skip))))
  (.ops [⟨(some 42), .bin .add (.tmp 33) (.const (.int .i64 1)) (some (.int .i64)), none⟩,
    ⟨(some 33), .mov (.tmp 42), none⟩])))))))
  (.seq (.ops [⟨(some 8), .mov (.const (.slice none 0 0)), none⟩])
  (.seq (.seq (.ops [⟨(some 43), .fieldAddr 1 (.tmp 3), none⟩,
    ⟨(some 44), .load false 1 (.tmp 43), none⟩,
    ⟨(some 45), .len 1 (.tmp 44), none⟩,
    ⟨(some 46), .mov (.const (.int .i64 0)), none⟩])
  (.block 2 (.loop (.seq (.ops [⟨(some 47), .bin .lss (.tmp 46) (.tmp 45) (some (.int .i64)), none⟩])
  (.seq (.cond (.tmp 47)
  .skip
  (.exit 2))
  (.seq (.block 3 (.seq (.ops [⟨(some 48), .mov (.tmp 46), none⟩,
    ⟨(some 49), .indexAddr 6 (.tmp 44) (.tmp 46), none⟩,
    ⟨(some 50), .load true 6 (.tmp 49), none⟩,
    ⟨(some 10), .alloc [(.int .i64 0), (.int .i64 0), (.int .i64 0), (.slice none 0 0), (.slice none 0 0), (.slice none 0 0)], none⟩,
    ⟨(some 9), .mov (.tmp 48), none⟩,
    ⟨none, .store 6 (.tmp 10) (.tmp 50), none⟩])
  (.seq (.ops [⟨(some 52), .fieldAddr 0 (.tmp 2), none⟩,
    ⟨(some 53), .load false 1 (.tmp 52), none⟩,
    ⟨(some 54), .mov (.tmp 9), none⟩,
    ⟨(some 55), .indexAddr 7 (.tmp 53) (.tmp 54), none⟩,
    ⟨(some 56), .load true 7 (.tmp 55), none⟩,
    ⟨(some 57), .load true 6 (.tmp 10), none⟩,
    ⟨(some 58), .call 96 [(.tmp 56), (.tmp 57)], none⟩,
    ⟨(some 51), .mov (.tmp 58), none⟩,
    ⟨(some 59), .extract (.tmp 51) 0, none⟩,
    ⟨(some 60), .extract (.tmp 51) 1, none⟩,
    ⟨(some 11), .mov (.tmp 59), none⟩,
    ⟨(some 12), .alloc [(.int .i64 0), (.slice none 0 0), (.int .i64 0)], none⟩,
    ⟨none, .store 3 (.tmp 12) (.tmp 60), none⟩])
  (.seq (.seq (.ops [⟨(some 61), .fieldAddr 0 (.tmp 12), none⟩,
    ⟨(some 62), .load false 1 (.tmp 61), none⟩,
    ⟨(some 63), .bin .neq (.tmp 62) (.const (.int .i64 0)) (some (.int .i64)), none⟩])
  (.cond (.tmp 63)
  (.seq (.ops [⟨(some 64), .fieldAddr 0 (.tmp 12), none⟩,
    ⟨(some 65), .load false 1 (.tmp 64), none⟩,
    ⟨(some 4), .mov (.const (.slice none 0 0)), none⟩,
    ⟨(some 5), .mov (.tmp 65), none⟩])
  .ret)
  .skip))
  (.ops [⟨(some 66), .mov (.tmp 8), none⟩,
    ⟨(some 67), .mov (.tmp 11), none⟩,
    ⟨(some 68), .buildSlice 1 1 [(.pointer none)] [(0, 1, (.tmp 67))], none⟩,
    ⟨(some 69), .append 1 8 (.tmp 66) (.tmp 68), none⟩,
    ⟨(some 8), .mov (.tmp 69), none⟩])))))
  (.ops [⟨(some 70), .bin .add (.tmp 46) (.const (.int .i64 1)) (some (.int .i64)), none⟩,
    ⟨(some 46), .mov (.tmp 70), none⟩])))))))
  (.seq (.ops [⟨(some 71), .mov (.tmp 8), none⟩,
    ⟨(some 4), .mov (.tmp 71), none⟩,
    ⟨(some 5), .mov (.const (.int .i64 0)), none⟩])
  .ret))))))⟩
theorem F55_ok : compF Tryz.prog 55 = some F55 := by kernel_rfl
/-- (*strings.Builder).WriteString -/
def F57 : FC := ⟨19, [.tmp 4, .tmp 5],
  (.seq (.ops [⟨(some 4), .mov (.const (.int .i64 0)), none⟩,
    ⟨(some 5), .mov (.const .nilIface), none⟩])
  (.seq (.ops [⟨(some 6), .mov (.tmp 0), none⟩,
    ⟨(some 7), .call 97 [(.tmp 6)], none⟩])
  (.seq (.ops [⟨(some 8), .mov (.tmp 0), none⟩,
    ⟨(some 9), .mov (.tmp 0), none⟩,
    ⟨(some 10), .nilCheck (.tmp 9), none⟩,
    ⟨(some 11), .fieldAddr 1 (.tmp 10), none⟩,
    ⟨(some 12), .load false 1 (.tmp 11), none⟩,
    ⟨(some 13), .mov (.tmp 1), none⟩,
    ⟨(some 14), .appendB (.tmp 12) (.tmp 13), none⟩,
    ⟨(some 15), .nilCheck (.tmp 8), none⟩,
    ⟨(some 16), .fieldAddr 1 (.tmp 15), none⟩,
    ⟨none, .store 1 (.tmp 16) (.tmp 14), none⟩])
  (.seq (.ops [⟨(some 17), .mov (.tmp 1), none⟩,
    ⟨(some 18), .len 0 (.tmp 17), none⟩,
    ⟨(some 4), .mov (.tmp 18), none⟩,
    ⟨(some 5), .mov (.const .nilIface), none⟩])
  .ret))))⟩
theorem F57_ok : compF Tryz.prog 57 = some F57 := by kernel_rfl
/-- (*strings.Builder).String -/
def F58 : FC := ⟨14, [.tmp 2],
  (.seq (.ops [⟨(some 2), .mov (.const (.string ⟨#[]⟩)), none⟩])
  (.seq (.ops [⟨(some 3), .mov (.tmp 0), none⟩,
    ⟨(some 4), .nilCheck (.tmp 3), none⟩,
    ⟨(some 5), .fieldAddr 1 (.tmp 4), none⟩,
    ⟨(some 6), .load false 1 (.tmp 5), none⟩,
    ⟨(some 8), .mov (.tmp 0), none⟩,
    ⟨(some 9), .nilCheck (.tmp 8), none⟩,
    ⟨(some 10), .fieldAddr 1 (.tmp 9), none⟩,
    ⟨(some 11), .load false 1 (.tmp 10), none⟩,
    ⟨(some 12), .len 1 (.tmp 11), none⟩,
    ⟨(some 7), .sdata (.tmp 6), none⟩,
    ⟨none, .again 11 false 1 (.tmp 10), none⟩,
    ⟨(some 13), .ustr (.tmp 7) (.tmp 12), none⟩,
    ⟨(some 2), .mov (.tmp 13), none⟩])
  .ret))⟩
theorem F58_ok : compF Tryz.prog 58 = some F58 := by kernel_rfl
/-- (*colonnade/array.Array).there -/
def F59 : FC := ⟨15, [.tmp 4],
  (.seq (.ops [⟨(some 4), .mov (.const (.bool false)), none⟩])
  (.seq (.ops [⟨(some 5), .mov (.tmp 1), none⟩,
    ⟨(some 6), .bin .geq (.tmp 5) (.const (.int .i64 0)) (some (.int .i64)), none⟩,
    ⟨(some 7), .mov (.tmp 6), none⟩,
    ⟨(some 8), .mov (.tmp 1), (some (7, true))⟩,
    ⟨(some 9), .mov (.tmp 0), (some (7, true))⟩,
    ⟨(some 10), .nilCheck (.tmp 9), (some (7, true))⟩,
    ⟨(some 11), .fieldAddr 14 (.tmp 10), (some (7, true))⟩,
    ⟨(some 12), .load false 1 (.tmp 11), (some (7, true))⟩,
    ⟨(some 13), .bin .lss (.tmp 8) (.tmp 12) (some (.int .i64)), (some (7, true))⟩,
    ⟨(some 14), .pick (.tmp 7) (.tmp 13) (.const (.bool false)), none⟩,
    ⟨(some 4), .mov (.tmp 14), none⟩])
  .ret))⟩
theorem F59_ok : compF Tryz.prog 59 = some F59 := by kernel_rfl
/-- colonnade/lines.isText -/
def F61 : FC := ⟨19, [.tmp 2],
  (.seq (.ops [⟨(some 1), .box (.tmp 0), none⟩,
    ⟨(some 2), .mov (.const (.bool false)), none⟩])
  (.seq (.block 0 (.loop (.seq (.seq (.ops [⟨(some 3), .fieldAddr 0 (.tmp 1), none⟩,
    ⟨(some 4), .load false 1 (.tmp 3), none⟩,
    ⟨(some 5), .bin .eql (.tmp 4) (.const (.int .i64 19)) (some (.int .i64)), none⟩,
    ⟨(some 6), .mov (.tmp 5), none⟩,
    ⟨(some 7), .fieldAddr 0 (.tmp 1), (some (6, false))⟩,
    ⟨(some 8), .load false 1 (.tmp 7), (some (6, false))⟩,
    ⟨(some 9), .bin .eql (.tmp 8) (.const (.int .i64 20)) (some (.int .i64)), (some (6, false))⟩,
    ⟨(some 10), .pick (.tmp 6) (.const (.bool true)) (.tmp 9), none⟩])
  (.cond (.tmp 10)
  .skip
  (.exit 0)))
  (.block 1 (.ops [⟨(some 11), .fieldAddr 4 (.tmp 1), none⟩,
    ⟨(some 12), .load false 1 (.tmp 11), none⟩,
    ⟨(some 13), .indexAddr 7 (.tmp 12) (.const (.int .i64 0)), none⟩,
    ⟨(some 14), .fieldAddr 2 (.tmp 13), none⟩,
    ⟨(some 15), .load true 5 (.tmp 14), none⟩,
    ⟨none, .store 5 (.tmp 1) (.tmp 15), none⟩])))))
  (.seq (.ops [⟨(some 16), .fieldAddr 0 (.tmp 1), none⟩,
    ⟨(some 17), .load false 1 (.tmp 16), none⟩,
    ⟨(some 18), .bin .eql (.tmp 17) (.const (.int .i64 12)) (some (.int .i64)), none⟩,
    ⟨(some 2), .mov (.tmp 18), none⟩])
  .ret)))⟩
theorem F61_ok : compF Tryz.prog 61 = some F61 := by kernel_rfl
/-- colonnade/value.Print -/
def F62 : FC := ⟨31, [.tmp 4, .tmp 5],
  (.seq (.ops [⟨(some 2), .box (.tmp 0), none⟩,
    ⟨(some 3), .box (.tmp 1), none⟩,
    ⟨(some 4), .mov (.const (.string ⟨#[]⟩)), none⟩,
    ⟨(some 5), .mov (.const (.int .i64 0)), none⟩])
  (.seq (.block 0 (.seq (.ops [⟨(some 8), .load true 7 (.tmp 2), none⟩,
    ⟨(some 9), .call 70 [(.tmp 8)], none⟩,
    ⟨(some 10), .un .not (.tmp 9), none⟩,
    ⟨(some 7), .mov (.tmp 10), none⟩])
  (.cond (.tmp 7)
  (.seq (.ops [⟨(some 4), .mov (.const (.string ⟨#[]⟩)), none⟩,
    ⟨(some 5), .mov (.const (.int .i64 5)), none⟩])
  .ret)
  (.seq (.ops [⟨(some 12), .load true 7 (.tmp 2), none⟩,
    ⟨(some 13), .load true 4 (.tmp 3), none⟩,
    ⟨(some 14), .call 101 [(.tmp 12), (.tmp 13)], none⟩,
    ⟨(some 15), .un .not (.tmp 14), none⟩,
    ⟨(some 11), .mov (.tmp 15), none⟩])
  (.cond (.tmp 11)
  (.seq (.ops [⟨(some 4), .mov (.const (.string ⟨#[]⟩)), none⟩,
    ⟨(some 5), .mov (.const (.int .i64 7)), none⟩])
  .ret)
  .skip)))))
  (.seq (.ops [⟨(some 16), .build [(.pointer none), (.slice none 0 0)] [], none⟩,
    ⟨(some 17), .boxB 203 2 (.tmp 16), none⟩,
    ⟨(some 6), .mov (.tmp 17), none⟩])
  (.seq (.ops [⟨(some 18), .mov (.tmp 6), none⟩,
    ⟨(some 19), .load true 7 (.tmp 2), none⟩,
    ⟨(some 20), .load true 4 (.tmp 3), none⟩,
    ⟨(some 21), .call 102 [(.tmp 18), (.tmp 19), (.tmp 20)], none⟩])
  (.seq (.seq (.ops [⟨(some 22), .mov (.tmp 6), none⟩,
    ⟨(some 23), .nilCheck (.tmp 22), none⟩,
    ⟨(some 24), .fieldAddr 0 (.tmp 23), none⟩,
    ⟨(some 25), .call 103 [(.tmp 24)], none⟩,
    ⟨(some 26), .bin .gtr (.tmp 25) (.const (.int .i64 65536)) (some (.int .i64)), none⟩])
  (.cond (.tmp 26)
  (.seq (.ops [⟨(some 4), .mov (.const (.string ⟨#[]⟩)), none⟩,
    ⟨(some 5), .mov (.const (.int .i64 4)), none⟩])
  .ret)
  .skip))
  (.seq (.ops [⟨(some 27), .mov (.tmp 6), none⟩,
    ⟨(some 28), .nilCheck (.tmp 27), none⟩,
    ⟨(some 29), .fieldAddr 0 (.tmp 28), none⟩,
    ⟨(some 30), .call 58 [(.tmp 29)], none⟩,
    ⟨(some 4), .mov (.tmp 30), none⟩,
    ⟨(some 5), .mov (.const (.int .i64 0)), none⟩])
  .ret))))))⟩
theorem F62_ok : compF Tryz.prog 62 = some F62 := by kernel_rfl
/-- strings.ReplaceAll -/
def F64 : FC := ⟨11, [.tmp 6],
  (.seq (.ops [⟨(some 6), .mov (.const (.string ⟨#[]⟩)), none⟩])
  (.seq (.ops [⟨(some 7), .mov (.tmp 0), none⟩,
    ⟨(some 8), .mov (.tmp 1), none⟩,
    ⟨(some 9), .mov (.tmp 2), none⟩,
    ⟨(some 10), .call 105 [(.tmp 7), (.tmp 8), (.tmp 9), (.const (.int .i64 (-1)))], none⟩,
    ⟨(some 6), .mov (.tmp 10), none⟩])
  .ret))⟩
theorem F64_ok : compF Tryz.prog 64 = some F64 := by kernel_rfl
/-- (*colonnade/lines.reader).line$1 -/
def F65 : FC := ⟨11, [],
  (.seq (.ops [⟨(some 3), .load false 1 (.tmp 0), none⟩,
    ⟨(some 4), .load false 1 (.tmp 1), none⟩,
    ⟨(some 5), .b2s (.tmp 4), none⟩,
    ⟨(some 6), .load false 1 (.tmp 2), none⟩,
    ⟨(some 7), .bin .eql (.tmp 6) (.const (.int .i64 3)) (some (.int .i64)), none⟩,
    ⟨(some 8), .build [(.string ⟨#[]⟩), (.bool false)] [(0, 1, (.tmp 5)), (1, 1, (.tmp 7))], none⟩,
    ⟨(some 9), .buildSlice 2 1 [(.string ⟨#[]⟩), (.bool false)] [(0, 2, (.tmp 8))], none⟩,
    ⟨(some 10), .append 2 24 (.tmp 3) (.tmp 9), none⟩,
    ⟨none, .store 1 (.tmp 0) (.tmp 10), none⟩])
  (.ops [⟨none, .store 1 (.tmp 1) (.const (.slice none 0 0)), none⟩,
    ⟨none, .store 1 (.tmp 2) (.const (.int .i64 0)), none⟩]))⟩
theorem F65_ok : compF Tryz.prog 65 = some F65 := by kernel_rfl
/-- colonnade/lines.ended -/
def F66 : FC := ⟨26, [.tmp 2],
  (.seq (.ops [⟨(some 2), .mov (.const (.int .i64 0)), none⟩])
  (.seq (.block 0 (.seq (.ops [⟨(some 4), .mov (.tmp 0), none⟩,
    ⟨(some 5), .len 0 (.tmp 4), none⟩,
    ⟨(some 6), .bin .gtr (.tmp 5) (.const (.int .i64 0)) (some (.int .i64)), none⟩,
    ⟨(some 7), .mov (.tmp 6), none⟩,
    ⟨(some 8), .mov (.tmp 0), (some (7, true))⟩,
    ⟨(some 9), .indexStr (.tmp 8) (.const (.int .i64 0)), (some (7, true))⟩,
    ⟨(some 10), .bin .eql (.tmp 9) (.const (.int .u8 10)) (some (.int .u8)), (some (7, true))⟩,
    ⟨(some 11), .pick (.tmp 7) (.tmp 10) (.const (.bool false)), none⟩,
    ⟨(some 3), .mov (.tmp 11), none⟩])
  (.cond (.tmp 3)
  (.seq (.ops [⟨(some 2), .mov (.const (.int .i64 1)), none⟩])
  .ret)
  (.seq (.ops [⟨(some 13), .mov (.tmp 0), none⟩,
    ⟨(some 14), .len 0 (.tmp 13), none⟩,
    ⟨(some 15), .bin .gtr (.tmp 14) (.const (.int .i64 1)) (some (.int .i64)), none⟩,
    ⟨(some 16), .mov (.tmp 15), none⟩,
    ⟨(some 17), .mov (.tmp 0), (some (16, true))⟩,
    ⟨(some 18), .indexStr (.tmp 17) (.const (.int .i64 0)), (some (16, true))⟩,
    ⟨(some 19), .bin .eql (.tmp 18) (.const (.int .u8 13)) (some (.int .u8)), (some (16, true))⟩,
    ⟨(some 20), .pick (.tmp 16) (.tmp 19) (.const (.bool false)), none⟩,
    ⟨(some 21), .mov (.tmp 20), none⟩,
    ⟨(some 22), .mov (.tmp 0), (some (21, true))⟩,
    ⟨(some 23), .indexStr (.tmp 22) (.const (.int .i64 1)), (some (21, true))⟩,
    ⟨(some 24), .bin .eql (.tmp 23) (.const (.int .u8 10)) (some (.int .u8)), (some (21, true))⟩,
    ⟨(some 25), .pick (.tmp 21) (.tmp 24) (.const (.bool false)), none⟩,
    ⟨(some 12), .mov (.tmp 25), none⟩])
  (.cond (.tmp 12)
  (.seq (.ops [⟨(some 2), .mov (.const (.int .i64 2)), none⟩])
  .ret)
  .skip)))))
  (.seq (.ops [⟨(some 2), .mov (.const (.int .i64 0)), none⟩])
  .ret)))⟩
theorem F66_ok : compF Tryz.prog 66 = some F66 := by kernel_rfl
/-- (*colonnade/lines.reader).drop -/
def F67 : FC := ⟨25, [],
  (.seq (.ops [⟨(some 6), .mov (.tmp 0), none⟩,
    ⟨(some 7), .mov (.tmp 0), none⟩,
    ⟨(some 8), .nilCheck (.tmp 7), none⟩,
    ⟨(some 9), .fieldAddr 0 (.tmp 8), none⟩,
    ⟨(some 10), .load false 1 (.tmp 9), none⟩,
    ⟨(some 11), .mov (.tmp 1), none⟩,
    ⟨(some 12), .mov (.tmp 2), none⟩,
    ⟨(some 13), .bin .add (.tmp 11) (.tmp 12) (some (.int .i64)), none⟩,
    ⟨(some 14), .sliceStr (.tmp 10) (some (.tmp 13)) none, none⟩,
    ⟨(some 15), .nilCheck (.tmp 6), none⟩,
    ⟨(some 16), .fieldAddr 0 (.tmp 15), none⟩,
    ⟨none, .store 1 (.tmp 16) (.tmp 14), none⟩])
  (.ops [⟨(some 17), .mov (.tmp 0), none⟩,
    ⟨(some 18), .mov (.tmp 0), none⟩,
    ⟨(some 19), .nilCheck (.tmp 18), none⟩,
    ⟨(some 20), .fieldAddr 0 (.tmp 19), none⟩,
    ⟨(some 21), .load false 1 (.tmp 20), none⟩,
    ⟨(some 22), .bin .eql (.tmp 21) (.const (.string ⟨#[]⟩)) (some .string), none⟩,
    ⟨(some 23), .nilCheck (.tmp 17), none⟩,
    ⟨(some 24), .fieldAddr 1 (.tmp 23), none⟩,
    ⟨none, .store 1 (.tmp 24) (.tmp 22), none⟩]))⟩
theorem F67_ok : compF Tryz.prog 67 = some F67 := by kernel_rfl
/-- colonnade/lines.wide -/
def F68 : FC := ⟨14, [.tmp 2],
  (.seq (.ops [⟨(some 2), .mov (.const (.int .i64 0)), none⟩])
  (.seq (.seq (.ops [⟨(some 4), .mov (.tmp 0), none⟩,
    ⟨(some 5), .rngS (.tmp 4), none⟩])
  (.block 0 (.loop (.seq (.ops [⟨(some 6), .nxtS (.tmp 5), none⟩,
    ⟨(some 7), .extract (.tmp 6) 0, none⟩])
  (.seq (.cond (.tmp 7)
  .skip
  (.exit 0))
  (.block 1 (.seq (.ops [⟨(some 8), .extract (.tmp 6) 1, none⟩,
    ⟨(some 3), .mov (.tmp 8), none⟩])
  (.seq (.ops [⟨(some 9), .mov (.tmp 3), none⟩,
    ⟨(some 10), .bin .gtr (.tmp 9) (.const (.int .i64 0)) (some (.int .i64)), none⟩])
  (.cond (.tmp 10)
  (.seq (.ops [⟨(some 11), .mov (.tmp 3), none⟩,
    ⟨(some 2), .mov (.tmp 11), none⟩])
  .ret)
  .skip)))))))))
  (.seq (.ops [⟨(some 12), .mov (.tmp 0), none⟩,
    ⟨(some 13), .len 0 (.tmp 12), none⟩,
    ⟨(some 2), .mov (.tmp 13), none⟩])
  .ret)))⟩
theorem F68_ok : compF Tryz.prog 68 = some F68 := by kernel_rfl
/-- slices.IndexFunc[[]colonnade/lines.cell,colonnade/lines.cell] -/
def F69 : FC := ⟨19, [.tmp 4],
  (.seq (.ops [⟨(some 4), .mov (.const (.int .i64 0)), none⟩])
  (.seq (.seq (.ops [⟨(some 6), .mov (.tmp 0), none⟩,
    ⟨(some 7), .len 1 (.tmp 6), none⟩,
    ⟨(some 8), .mov (.const (.int .i64 0)), none⟩])
  (.block 0 (.loop (.seq (.ops [⟨(some 9), .bin .lss (.tmp 8) (.tmp 7) (some (.int .i64)), none⟩])
  (.seq (.cond (.tmp 9)
  .skip
  (.exit 0))
  (.seq (.block 1 (.seq (.ops [⟨(some 10), .mov (.tmp 8), none⟩,
    ⟨(some 5), .mov (.tmp 10), none⟩])
  (.seq (.ops [⟨(some 11), .mov (.tmp 1), none⟩,
    ⟨(some 12), .mov (.tmp 0), none⟩,
    ⟨(some 13), .mov (.tmp 5), none⟩,
    ⟨(some 14), .indexAddr 2 (.tmp 12) (.tmp 13), none⟩,
    ⟨(some 15), .load true 2 (.tmp 14), none⟩,
    ⟨(some 16), .callv (.tmp 11) [(.tmp 15)], none⟩])
  (.cond (.tmp 16)
  (.seq (.ops [⟨(some 17), .mov (.tmp 5), none⟩,
    ⟨(some 4), .mov (.tmp 17), none⟩])
  .ret)
  .skip))))
  (.ops [⟨(some 18), .bin .add (.tmp 8) (.const (.int .i64 1)) (some (.int .i64)), none⟩,
    ⟨(some 8), .mov (.tmp 18), none⟩])))))))
  (.seq (.ops [⟨(some 4), .mov (.const (.int .i64 (-1))), none⟩])
  .ret)))⟩
theorem F69_ok : compF Tryz.prog 69 = some F69 := by kernel_rfl
/-- colonnade/value.may -/
def F70 : FC := ⟨7, [.tmp 2],
  (.seq (.ops [⟨(some 1), .box (.tmp 0), none⟩,
    ⟨(some 2), .mov (.const (.bool false)), none⟩])
  (.seq (.ops [⟨(some 3), .load true 7 (.tmp 1), none⟩,
    ⟨(some 4), .call 106 [(.tmp 3)], none⟩,
    ⟨(some 5), .field false 0 1 (.tmp 4), none⟩,
    ⟨(some 6), .bin .eql (.tmp 5) (.const (.int .i64 0)) (some (.int .i64)), none⟩,
    ⟨(some 2), .mov (.tmp 6), none⟩])
  .ret))⟩
theorem F70_ok : compF Tryz.prog 70 = some F70 := by kernel_rfl
/-- (*colonnade/value.parser).value -/
def F72 : FC := ⟨107, [.cell 4 true 4],
  (.seq (.ops [⟨(some 3), .box (.tmp 1), none⟩,
    ⟨(some 4), .alloc [(.bool false), (.int .i64 0), (.string ⟨#[]⟩), (.slice none 0 0)], none⟩])
  (.seq (.ops [⟨(some 9), .mov (.tmp 0), none⟩,
    ⟨(some 10), .call 107 [(.tmp 9), (.func 108)], none⟩,
    ⟨(some 5), .mov (.tmp 10), none⟩])
  (.seq (.seq (.ops [⟨(some 11), .mov (.tmp 5), none⟩,
    ⟨(some 12), .bin .eql (.tmp 11) (.const (.string ⟨#[110, 117, 108, 108]⟩)) (some .string), none⟩,
    ⟨(some 13), .mov (.tmp 12), none⟩,
    ⟨(some 14), .mov (.tmp 0), (some (13, true))⟩,
    ⟨(some 15), .mov (.tmp 0), (some (13, true))⟩,
    ⟨(some 16), .nilCheck (.tmp 15), (some (13, true))⟩,
    ⟨(some 17), .fieldAddr 1 (.tmp 16), (some (13, true))⟩,
    ⟨(some 18), .load false 1 (.tmp 17), (some (13, true))⟩,
    ⟨(some 19), .mov (.tmp 5), (some (13, true))⟩,
    ⟨(some 20), .len 0 (.tmp 19), (some (13, true))⟩,
    ⟨(some 21), .bin .add (.tmp 18) (.tmp 20) (some (.int .i64)), (some (13, true))⟩,
    ⟨(some 22), .call 109 [(.tmp 14), (.tmp 21)], (some (13, true))⟩,
    ⟨(some 23), .un .not (.tmp 22), (some (13, true))⟩,
    ⟨(some 24), .pick (.tmp 13) (.tmp 23) (.const (.bool false)), none⟩,
    ⟨(some 25), .mov (.tmp 24), none⟩,
    ⟨(some 26), .load true 7 (.tmp 3), (some (25, true))⟩,
    ⟨(some 27), .call 110 [(.tmp 26)], (some (25, true))⟩,
    ⟨(some 28), .pick (.tmp 25) (.tmp 27) (.const (.bool false)), none⟩])
  (.cond (.tmp 28)
  (.seq (.ops [⟨(some 29), .mov (.tmp 0), none⟩,
    ⟨(some 30), .nilCheck (.tmp 29), none⟩,
    ⟨(some 31), .fieldAddr 1 (.tmp 30), none⟩,
    ⟨(some 32), .load false 1 (.tmp 31), none⟩,
    ⟨(some 33), .mov (.tmp 5), none⟩,
    ⟨(some 34), .len 0 (.tmp 33), none⟩,
    ⟨(some 35), .bin .add (.tmp 32) (.tmp 34) (some (.int .i64)), none⟩,
    ⟨(some 36), .nilCheck (.tmp 29), none⟩,
    ⟨(some 37), .fieldAddr 1 (.tmp 36), none⟩,
    ⟨none, .store 1 (.tmp 37) (.tmp 35), none⟩])
  (.seq (.ops [⟨(some 38), .build [(.bool false), (.int .i64 0), (.string ⟨#[]⟩), (.slice none 0 0)] [(0, 1, (.const (.bool true)))], none⟩,
    ⟨none, .store 4 (.tmp 4) (.tmp 38), none⟩])
  .ret))
  .skip))
  (.seq (.ops [⟨(some 39), .fieldAddr 2 (.tmp 3), none⟩,
    ⟨(some 40), .load true 5 (.tmp 39), none⟩,
    ⟨(some 6), .alloc [(.int .i64 0), (.int .i64 0), (.int .i64 0), (.int .i64 0), (.slice none 0 0)], none⟩,
    ⟨none, .store 5 (.tmp 6) (.tmp 40), none⟩])
  (.seq (.seq (.ops [⟨(some 41), .fieldAddr 0 (.tmp 6), none⟩,
    ⟨(some 42), .load false 1 (.tmp 41), none⟩])
  (.block 0 (.seq (.seq (.ops [⟨(some 44), .bin .eql (.tmp 42) (.const (.int .i64 19)) (some (.int .i64)), none⟩,
    ⟨(some 43), .mov (.tmp 44), none⟩])
  (.cond (.tmp 43)
  .skip
  (.ops [⟨(some 45), .bin .eql (.tmp 42) (.const (.int .i64 20)) (some (.int .i64)), none⟩,
    ⟨(some 43), .mov (.tmp 45), none⟩])))
  (.cond (.tmp 43)
  (.seq (.ops [⟨(some 46), .mov (.tmp 0), none⟩,
    ⟨(some 47), .fieldAddr 4 (.tmp 6), none⟩,
    ⟨(some 48), .load false 1 (.tmp 47), none⟩,
    ⟨(some 49), .indexAddr 7 (.tmp 48) (.const (.int .i64 0)), none⟩,
    ⟨(some 50), .load true 7 (.tmp 49), none⟩,
    ⟨(some 51), .call 72 [(.tmp 46), (.tmp 50)], none⟩,
    ⟨none, .store 4 (.tmp 4) (.tmp 51), none⟩])
  .ret)
  (.seq (.ops [⟨(some 53), .bin .eql (.tmp 42) (.const (.int .i64 12)) (some (.int .i64)), none⟩,
    ⟨(some 52), .mov (.tmp 53), none⟩])
  (.cond (.tmp 52)
  (.seq (.ops [⟨(some 54), .mov (.tmp 0), none⟩,
    ⟨(some 55), .call 111 [(.tmp 54)], none⟩,
    ⟨(some 56), .build [(.bool false), (.int .i64 0), (.string ⟨#[]⟩), (.slice none 0 0)] [(2, 1, (.tmp 55))], none⟩,
    ⟨none, .store 4 (.tmp 4) (.tmp 56), none⟩])
  .ret)
  (.seq (.seq (.ops [⟨(some 58), .bin .eql (.tmp 42) (.const (.int .i64 13)) (some (.int .i64)), none⟩,
    ⟨(some 57), .mov (.tmp 58), none⟩])
  (.cond (.tmp 57)
  .skip
  (.ops [⟨(some 59), .bin .eql (.tmp 42) (.const (.int .i64 14)) (some (.int .i64)), none⟩,
    ⟨(some 57), .mov (.tmp 59), none⟩])))
  (.cond (.tmp 57)
  (.seq (.ops [⟨(some 60), .mov (.tmp 0), none⟩,
    ⟨(some 61), .load true 5 (.tmp 6), none⟩,
    ⟨(some 62), .call 112 [(.tmp 60), (.tmp 61)], none⟩,
    ⟨(some 63), .build [(.bool false), (.int .i64 0), (.string ⟨#[]⟩), (.slice none 0 0)] [(2, 1, (.tmp 62))], none⟩,
    ⟨none, .store 4 (.tmp 4) (.tmp 63), none⟩])
  .ret)
  (.seq (.seq (.ops [⟨(some 65), .bin .eql (.tmp 42) (.const (.int .i64 15)) (some (.int .i64)), none⟩,
    ⟨(some 64), .mov (.tmp 65), none⟩])
  (.cond (.tmp 64)
  .skip
  (.ops [⟨(some 66), .bin .eql (.tmp 42) (.const (.int .i64 16)) (some (.int .i64)), none⟩,
    ⟨(some 64), .mov (.tmp 66), none⟩])))
  (.cond (.tmp 64)
  (.seq (.ops [⟨(some 67), .mov (.tmp 0), none⟩,
    ⟨(some 68), .load true 5 (.tmp 6), none⟩,
    ⟨(some 69), .call 113 [(.tmp 67), (.tmp 68)], none⟩,
    ⟨(some 70), .build [(.bool false), (.int .i64 0), (.string ⟨#[]⟩), (.slice none 0 0)] [(3, 1, (.tmp 69))], none⟩,
    ⟨none, .store 4 (.tmp 4) (.tmp 70), none⟩])
  .ret)
  (.seq (.ops [⟨(some 72), .bin .eql (.tmp 42) (.const (.int .i64 17)) (some (.int .i64)), none⟩,
    ⟨(some 71), .mov (.tmp 72), none⟩])
  (.cond (.tmp 71)
  (.seq (.ops [⟨(some 73), .mov (.tmp 0), none⟩,
    ⟨(some 74), .load true 5 (.tmp 6), none⟩,
    ⟨(some 75), .call 114 [(.tmp 73), (.tmp 74)], none⟩,
    ⟨(some 76), .build [(.bool false), (.int .i64 0), (.string ⟨#[]⟩), (.slice none 0 0)] [(3, 1, (.tmp 75))], none⟩,
    ⟨none, .store 4 (.tmp 4) (.tmp 76), none⟩])
  .ret)
  (.seq (.ops [⟨(some 78), .bin .eql (.tmp 42) (.const (.int .i64 18)) (some (.int .i64)), none⟩,
    ⟨(some 77), .mov (.tmp 78), none⟩])
  (.cond (.tmp 77)
  (.seq (.ops [⟨(some 79), .mov (.tmp 0), none⟩,
    ⟨(some 80), .load true 5 (.tmp 6), none⟩,
    ⟨(some 81), .call 115 [(.tmp 79), (.tmp 80)], none⟩,
    ⟨none, .store 4 (.tmp 4) (.tmp 81), none⟩])
  .ret)
  .skip))))))))))))))
  (.seq (.ops [⟨(some 83), .fieldAddr 0 (.tmp 6), none⟩,
    ⟨(some 84), .load false 1 (.tmp 83), none⟩,
    ⟨(some 85), .mov (.tmp 5), none⟩,
    ⟨(some 86), .call 116 [(.tmp 84), (.tmp 85)], none⟩,
    ⟨(some 82), .mov (.tmp 86), none⟩,
    ⟨(some 87), .extract (.tmp 82) 0, none⟩,
    ⟨(some 88), .extract (.tmp 82) 1, none⟩,
    ⟨(some 7), .mov (.tmp 87), none⟩,
    ⟨(some 8), .mov (.tmp 88), none⟩])
  (.seq (.seq (.ops [⟨(some 89), .mov (.tmp 8), none⟩,
    ⟨(some 90), .un .not (.tmp 89), none⟩])
  (.cond (.tmp 90)
  (.ops [⟨(some 91), .mov (.tmp 0), none⟩,
    ⟨(some 92), .nilCheck (.tmp 91), none⟩,
    ⟨(some 93), .fieldAddr 1 (.tmp 92), none⟩,
    ⟨(some 94), .load false 1 (.tmp 93), none⟩,
    ⟨(some 95), .call 73 [(.tmp 94)], none⟩])
  .skip))
  (.seq (.ops [⟨(some 96), .mov (.tmp 0), none⟩,
    ⟨(some 97), .nilCheck (.tmp 96), none⟩,
    ⟨(some 98), .fieldAddr 1 (.tmp 97), none⟩,
    ⟨(some 99), .load false 1 (.tmp 98), none⟩,
    ⟨(some 100), .mov (.tmp 5), none⟩,
    ⟨(some 101), .len 0 (.tmp 100), none⟩,
    ⟨(some 102), .bin .add (.tmp 99) (.tmp 101) (some (.int .i64)), none⟩,
    ⟨(some 103), .nilCheck (.tmp 96), none⟩,
    ⟨(some 104), .fieldAddr 1 (.tmp 103), none⟩,
    ⟨none, .store 1 (.tmp 104) (.tmp 102), none⟩])
  (.seq (.ops [⟨(some 105), .mov (.tmp 7), none⟩,
    ⟨(some 106), .build [(.bool false), (.int .i64 0), (.string ⟨#[]⟩), (.slice none 0 0)] [(1, 1, (.tmp 105))], none⟩,
    ⟨none, .store 4 (.tmp 4) (.tmp 106), none⟩])
  .ret)))))))))⟩
theorem F72_ok : compF Tryz.prog 72 = some F72 := by kernel_rfl
/-- colonnade/value.fail -/
def F73 : FC := ⟨5, [],
  (.ops [⟨(some 2), .mov (.tmp 0), none⟩,
    ⟨(some 3), .build [(.int .i64 0), (.int .i64 0)] [(0, 1, (.const (.int .i64 8))), (1, 1, (.tmp 2))], none⟩,
    ⟨(some 4), .mkIface 157 (.tmp 3), none⟩,
    ⟨none, .panic (.tmp 4), none⟩])⟩
theorem F73_ok : compF Tryz.prog 73 = some F73 := by kernel_rfl
/-- colonnade/kind.all$1 -/
def F75 : FC := ⟨9, [],
  (.seq (.ops [⟨(some 3), .box (.tmp 0), none⟩])
  (.seq (.ops [⟨(some 4), .alloc [.nilFunc], none⟩])
  (.seq (.ops [⟨(some 5), .mkFunc (.func 76) [] [(.tmp 3), (.tmp 1), (.tmp 4)], none⟩,
    ⟨none, .store 1 (.tmp 4) (.tmp 5), none⟩])
  (.ops [⟨(some 6), .load false 1 (.tmp 4), none⟩,
    ⟨(some 7), .load false 1 (.tmp 2), none⟩,
    ⟨(some 8), .callv (.tmp 6) [(.const (.slice none 0 0)), (.tmp 7), (.const (.bool false))], none⟩]))))⟩
theorem F75_ok : compF Tryz.prog 75 = some F75 := by kernel_rfl
/-- colonnade/kind.all$1$1 -/
def F76 : FC := ⟨56, [.tmp 9],
  (.seq (.ops [⟨(some 9), .mov (.const (.bool false)), none⟩])
  (.seq (.seq (.ops [⟨(some 13), .mov (.tmp 1), none⟩,
    ⟨(some 14), .len 1 (.tmp 13), none⟩,
    ⟨(some 15), .mov (.const (.int .i64 0)), none⟩])
  (.block 0 (.loop (.seq (.ops [⟨(some 16), .bin .lss (.tmp 15) (.tmp 14) (some (.int .i64)), none⟩])
  (.seq (.cond (.tmp 16)
  .skip
  (.exit 0))
  (.seq (.block 1 (.seq (.ops [⟨(some 17), .mov (.tmp 15), none⟩,
    ⟨(some 18), .indexAddr 7 (.tmp 13) (.tmp 15), none⟩,
    ⟨(some 19), .load true 7 (.tmp 18), none⟩,
    ⟨(some 11), .alloc [(.string ⟨#[]⟩), (.bool false), (.int .i64 0), (.int .i64 0), (.int .i64 0), (.int .i64 0), (.slice none 0 0)], none⟩,
    ⟨(some 10), .mov (.tmp 17), none⟩,
    ⟨none, .store 7 (.tmp 11) (.tmp 19), none⟩])
  (.seq (.ops [⟨(some 20), .mov (.tmp 0), none⟩,
    ⟨(some 21), .call 77 [(.tmp 20)], none⟩,
    ⟨(some 22), .mov (.tmp 10), none⟩,
    ⟨(some 23), .buildSlice 1 1 [(.int .i64 0)] [(0, 1, (.tmp 22))], none⟩,
    ⟨(some 24), .append 1 8 (.tmp 21) (.tmp 23), none⟩,
    ⟨(some 12), .mov (.tmp 24), none⟩])
  (.seq (.seq (.ops [⟨(some 25), .load false 1 (.tmp 3), none⟩,
    ⟨(some 26), .mov (.tmp 12), none⟩,
    ⟨(some 27), .mov (.tmp 1), none⟩,
    ⟨(some 28), .mov (.tmp 10), none⟩,
    ⟨(some 29), .slice 7 (.tmp 27) none (some (.tmp 28)) none, none⟩,
    ⟨(some 30), .load true 7 (.tmp 11), none⟩,
    ⟨(some 31), .mov (.tmp 2), none⟩,
    ⟨(some 32), .build [(.slice none 0 0), (.slice none 0 0), (.string ⟨#[]⟩), (.bool false), (.int .i64 0), (.int .i64 0), (.int .i64 0), (.int .i64 0), (.slice none 0 0), (.bool false)] [(0, 1, (.tmp 26)), (1, 1, (.tmp 29)), (2, 7, (.tmp 30)), (9, 1, (.tmp 31))], none⟩,
    ⟨(some 33), .callv (.tmp 25) [(.tmp 32)], none⟩,
    ⟨(some 34), .un .not (.tmp 33), none⟩])
  (.cond (.tmp 34)
  (.seq (.ops [⟨(some 9), .mov (.const (.bool false)), none⟩])
  .ret)
  .skip))
  (.seq (.ops [⟨(some 35), .mov (.tmp 12), none⟩,
    ⟨(some 36), .len 1 (.tmp 35), none⟩,
    ⟨(some 37), .load false 1 (.tmp 4), none⟩,
    ⟨(some 38), .bin .lss (.tmp 36) (.tmp 37) (some (.int .i64)), none⟩,
    ⟨(some 39), .mov (.tmp 38), none⟩,
    ⟨(some 40), .load false 1 (.tmp 5), (some (39, true))⟩,
    ⟨(some 41), .mov (.tmp 12), (some (39, true))⟩,
    ⟨(some 42), .fieldAddr 2 (.tmp 11), (some (39, true))⟩,
    ⟨(some 43), .fieldAddr 4 (.tmp 42), (some (39, true))⟩,
    ⟨(some 44), .load false 1 (.tmp 43), (some (39, true))⟩,
    ⟨(some 45), .mov (.tmp 2), (some (39, true))⟩,
    ⟨(some 46), .mov (.tmp 45), (some (39, true))⟩,
    ⟨(some 47), .fieldAddr 2 (.tmp 11), (some (46, false))⟩,
    ⟨(some 48), .fieldAddr 0 (.tmp 47), (some (46, false))⟩,
    ⟨(some 49), .load false 1 (.tmp 48), (some (46, false))⟩,
    ⟨(some 50), .bin .eql (.tmp 49) (.const (.int .i64 19)) (some (.int .i64)), (some (46, false))⟩,
    ⟨(some 51), .pick (.tmp 46) (.const (.bool true)) (.tmp 50), (some (39, true))⟩,
    ⟨(some 52), .callv (.tmp 40) [(.tmp 41), (.tmp 44), (.tmp 51)], (some (39, true))⟩,
    ⟨(some 53), .un .not (.tmp 52), (some (39, true))⟩,
    ⟨(some 54), .pick (.tmp 39) (.tmp 53) (.const (.bool false)), none⟩])
  (.cond (.tmp 54)
  (.seq (.ops [⟨(some 9), .mov (.const (.bool false)), none⟩])
  .ret)
  .skip))))))
  (.ops [⟨(some 55), .bin .add (.tmp 15) (.const (.int .i64 1)) (some (.int .i64)), none⟩,
    ⟨(some 15), .mov (.tmp 55), none⟩])))))))
  (.seq (.ops [⟨(some 9), .mov (.const (.bool true)), none⟩])
  .ret)))⟩
theorem F76_ok : compF Tryz.prog 76 = some F76 := by kernel_rfl
/-- slices.Clone[[]int,int] -/
def F77 : FC := ⟨8, [.tmp 2],
  (.seq (.ops [⟨(some 2), .mov (.const (.slice none 0 0)), none⟩])
  (.seq (.seq (.ops [⟨(some 3), .mov (.tmp 0), none⟩,
    ⟨(some 4), .bin .eql (.tmp 3) (.const (.slice none 0 0)) (some (.slice 3)), none⟩])
  (.cond (.tmp 4)
  (.seq (.ops [⟨(some 2), .mov (.const (.slice none 0 0)), none⟩])
  .ret)
  .skip))
  (.seq (.ops [⟨(some 5), .buildSlice 1 0 [] [], none⟩,
    ⟨(some 6), .mov (.tmp 0), none⟩,
    ⟨(some 7), .append 1 8 (.tmp 5) (.tmp 6), none⟩,
    ⟨(some 2), .mov (.tmp 7), none⟩])
  .ret)))⟩
theorem F77_ok : compF Tryz.prog 77 = some F77 := by kernel_rfl
/-- colonnade/kind.named -/
def F78 : FC := ⟨36, [.tmp 2],
  (.seq (.ops [⟨(some 2), .mov (.const (.bool false)), none⟩])
  (.seq (.seq (.ops [⟨(some 5), .mov (.tmp 0), none⟩,
    ⟨(some 6), .len 0 (.tmp 5), none⟩,
    ⟨(some 7), .mov (.const (.int .i64 0)), none⟩])
  (.block 0 (.loop (.seq (.ops [⟨(some 8), .bin .lss (.tmp 7) (.tmp 6) (some (.int .i64)), none⟩])
  (.seq (.cond (.tmp 8)
  .skip
  (.exit 0))
  (.seq (.block 1 (.seq (.ops [⟨(some 9), .mov (.tmp 7), none⟩,
    ⟨(some 3), .mov (.tmp 9), none⟩])
  (.seq (.ops [⟨(some 10), .mov (.tmp 0), none⟩,
    ⟨(some 11), .mov (.tmp 3), none⟩,
    ⟨(some 12), .indexStr (.tmp 10) (.tmp 11), none⟩,
    ⟨(some 4), .mov (.tmp 12), none⟩])
  (.seq (.ops [⟨(some 13), .mov (.tmp 4), none⟩,
    ⟨(some 14), .call 117 [(.tmp 13)], none⟩,
    ⟨(some 15), .un .not (.tmp 14), none⟩,
    ⟨(some 16), .mov (.tmp 15), none⟩,
    ⟨(some 17), .mov (.tmp 3), (some (16, false))⟩,
    ⟨(some 18), .bin .eql (.tmp 17) (.const (.int .i64 0)) (some (.int .i64)), (some (16, false))⟩,
    ⟨(some 19), .mov (.tmp 18), (some (16, false))⟩,
    ⟨(some 20), .mov (.tmp 4), (some (19, true))⟩,
    ⟨(some 21), .bin .geq (.tmp 20) (.const (.int .u8 48)) (some (.int .u8)), (some (19, true))⟩,
    ⟨(some 22), .pick (.tmp 19) (.tmp 21) (.const (.bool false)), (some (16, false))⟩,
    ⟨(some 23), .mov (.tmp 22), (some (16, false))⟩,
    ⟨(some 24), .mov (.tmp 4), (some (23, true))⟩,
    ⟨(some 25), .bin .leq (.tmp 24) (.const (.int .u8 57)) (some (.int .u8)), (some (23, true))⟩,
    ⟨(some 26), .pick (.tmp 23) (.tmp 25) (.const (.bool false)), (some (16, false))⟩,
    ⟨(some 27), .pick (.tmp 16) (.const (.bool true)) (.tmp 26), none⟩])
  (.cond (.tmp 27)
  (.seq (.ops [⟨(some 2), .mov (.const (.bool false)), none⟩])
  .ret)
  .skip)))))
  (.ops [⟨(some 28), .bin .add (.tmp 7) (.const (.int .i64 1)) (some (.int .i64)), none⟩,
    ⟨(some 7), .mov (.tmp 28), none⟩])))))))
  (.seq (.ops [⟨(some 29), .mov (.tmp 0), none⟩,
    ⟨(some 30), .bin .neq (.tmp 29) (.const (.string ⟨#[]⟩)) (some .string), none⟩,
    ⟨(some 31), .mov (.tmp 30), none⟩,
    ⟨(some 32), .mov (.tmp 0), (some (31, true))⟩,
    ⟨(some 33), .len 0 (.tmp 32), (some (31, true))⟩,
    ⟨(some 34), .bin .leq (.tmp 33) (.const (.int .i64 48)) (some (.int .i64)), (some (31, true))⟩,
    ⟨(some 35), .pick (.tmp 31) (.tmp 34) (.const (.bool false)), none⟩,
    ⟨(some 2), .mov (.tmp 35), none⟩])
  .ret)))⟩
theorem F78_ok : compF Tryz.prog 78 = some F78 := by kernel_rfl
/-- slices.ContainsFunc[[]colonnade/api.Field,colonnade/api.Field] -/
def F79 : FC := ⟨9, [.tmp 4],
  (.seq (.ops [⟨(some 4), .mov (.const (.bool false)), none⟩])
  (.seq (.ops [⟨(some 5), .mov (.tmp 0), none⟩,
    ⟨(some 6), .mov (.tmp 1), none⟩,
    ⟨(some 7), .call 118 [(.tmp 5), (.tmp 6)], none⟩,
    ⟨(some 8), .bin .geq (.tmp 7) (.const (.int .i64 0)) (some (.int .i64)), none⟩,
    ⟨(some 4), .mov (.tmp 8), none⟩])
  .ret))⟩
theorem F79_ok : compF Tryz.prog 79 = some F79 := by kernel_rfl
/-- colonnade/kind.wrong$1 -/
def F80 : FC := ⟨10, [.tmp 3],
  (.seq (.ops [⟨(some 2), .box (.tmp 0), none⟩,
    ⟨(some 3), .mov (.const (.bool false)), none⟩])
  (.seq (.ops [⟨(some 4), .fieldAddr 0 (.tmp 2), none⟩,
    ⟨(some 5), .load false 1 (.tmp 4), none⟩,
    ⟨(some 6), .fieldAddr 2 (.tmp 1), none⟩,
    ⟨(some 7), .fieldAddr 0 (.tmp 6), none⟩,
    ⟨(some 8), .load false 1 (.tmp 7), none⟩,
    ⟨(some 9), .bin .eql (.tmp 5) (.tmp 8) (some .string), none⟩,
    ⟨(some 3), .mov (.tmp 9), none⟩])
  .ret))⟩
theorem F80_ok : compF Tryz.prog 80 = some F80 := by kernel_rfl
/-- colonnade/kind.fits -/
def F81 : FC := ⟨89, [.tmp 2],
  (.seq (.ops [⟨(some 1), .box (.tmp 0), none⟩,
    ⟨(some 2), .mov (.const (.bool false)), none⟩])
  (.seq (.seq (.ops [⟨(some 9), .fieldAddr 0 (.tmp 1), none⟩,
    ⟨(some 10), .load false 1 (.tmp 9), none⟩,
    ⟨(some 11), .call 119 [(.tmp 10)], none⟩,
    ⟨(some 12), .un .not (.tmp 11), none⟩])
  (.cond (.tmp 12)
  (.seq (.ops [⟨(some 2), .mov (.const (.bool false)), none⟩])
  .ret)
  .skip))
  (.seq (.ops [⟨(some 3), .mov (.const (.int .i64 0)), none⟩,
    ⟨(some 4), .mov (.const (.int .i64 0)), none⟩])
  (.seq (.ops [⟨(some 5), .mov (.const (.int .i64 0)), none⟩,
    ⟨(some 6), .mov (.const (.bool false)), none⟩])
  (.seq (.seq (.ops [⟨(some 13), .fieldAddr 0 (.tmp 1), none⟩,
    ⟨(some 14), .load false 1 (.tmp 13), none⟩])
  (.block 0 (.seq (.ops [⟨(some 16), .bin .eql (.tmp 14) (.const (.int .i64 14)) (some (.int .i64)), none⟩,
    ⟨(some 15), .mov (.tmp 16), none⟩])
  (.cond (.tmp 15)
  (.ops [⟨(some 5), .mov (.const (.int .i64 16)), none⟩])
  (.seq (.seq (.ops [⟨(some 18), .bin .eql (.tmp 14) (.const (.int .i64 15)) (some (.int .i64)), none⟩,
    ⟨(some 17), .mov (.tmp 18), none⟩])
  (.cond (.tmp 17)
  .skip
  (.ops [⟨(some 19), .bin .eql (.tmp 14) (.const (.int .i64 20)) (some (.int .i64)), none⟩,
    ⟨(some 17), .mov (.tmp 19), none⟩])))
  (.cond (.tmp 17)
  (.ops [⟨(some 3), .mov (.const (.int .i64 1)), none⟩,
    ⟨(some 4), .mov (.const (.int .i64 1)), none⟩])
  (.seq (.ops [⟨(some 21), .bin .eql (.tmp 14) (.const (.int .i64 16)) (some (.int .i64)), none⟩,
    ⟨(some 20), .mov (.tmp 21), none⟩])
  (.cond (.tmp 20)
  (.ops [⟨(some 3), .mov (.const (.int .i64 1)), none⟩,
    ⟨(some 4), .mov (.const (.int .i64 1)), none⟩,
    ⟨(some 5), .mov (.const (.int .i64 64)), none⟩])
  (.seq (.ops [⟨(some 23), .bin .eql (.tmp 14) (.const (.int .i64 17)) (some (.int .i64)), none⟩,
    ⟨(some 22), .mov (.tmp 23), none⟩])
  (.cond (.tmp 22)
  (.ops [⟨(some 4), .mov (.const (.int .i64 32)), none⟩])
  (.seq (.ops [⟨(some 25), .bin .eql (.tmp 14) (.const (.int .i64 18)) (some (.int .i64)), none⟩,
    ⟨(some 24), .mov (.tmp 25), none⟩])
  (.cond (.tmp 24)
  (.ops [⟨(some 3), .mov (.const (.int .i64 1)), none⟩,
    ⟨(some 4), .mov (.const (.int .i64 32)), none⟩])
  (.seq (.ops [⟨(some 27), .bin .eql (.tmp 14) (.const (.int .i64 19)) (some (.int .i64)), none⟩,
    ⟨(some 26), .mov (.tmp 27), none⟩])
  (.cond (.tmp 26)
  (.ops [⟨(some 3), .mov (.const (.int .i64 1)), none⟩,
    ⟨(some 4), .mov (.const (.int .i64 1)), none⟩,
    ⟨(some 6), .mov (.const (.bool true)), none⟩])
  .skip))))))))))))))
  (.seq (.ops [⟨(some 28), .fieldAddr 1 (.tmp 1), none⟩,
    ⟨(some 29), .load false 1 (.tmp 28), none⟩,
    ⟨(some 30), .bin .eql (.tmp 29) (.const (.int .i64 0)) (some (.int .i64)), none⟩,
    ⟨(some 7), .mov (.tmp 30), none⟩])
  (.seq (.seq (.ops [⟨(some 31), .mov (.tmp 5), none⟩,
    ⟨(some 32), .bin .gtr (.tmp 31) (.const (.int .i64 0)) (some (.int .i64)), none⟩])
  (.cond (.tmp 32)
  (.ops [⟨(some 33), .fieldAddr 1 (.tmp 1), none⟩,
    ⟨(some 34), .load false 1 (.tmp 33), none⟩,
    ⟨(some 35), .bin .geq (.tmp 34) (.const (.int .i64 1)) (some (.int .i64)), none⟩,
    ⟨(some 36), .mov (.tmp 35), none⟩,
    ⟨(some 37), .fieldAddr 1 (.tmp 1), (some (36, true))⟩,
    ⟨(some 38), .load false 1 (.tmp 37), (some (36, true))⟩,
    ⟨(some 39), .mov (.tmp 5), (some (36, true))⟩,
    ⟨(some 40), .bin .leq (.tmp 38) (.tmp 39) (some (.int .i64)), (some (36, true))⟩,
    ⟨(some 41), .pick (.tmp 36) (.tmp 40) (.const (.bool false)), none⟩,
    ⟨(some 7), .mov (.tmp 41), none⟩])
  .skip))
  (.seq (.ops [⟨(some 42), .fieldAddr 2 (.tmp 1), none⟩,
    ⟨(some 43), .load false 1 (.tmp 42), none⟩,
    ⟨(some 44), .bin .eql (.tmp 43) (.const (.int .i64 0)) (some (.int .i64)), none⟩,
    ⟨(some 45), .mov (.tmp 44), none⟩,
    ⟨(some 46), .fieldAddr 3 (.tmp 1), (some (45, true))⟩,
    ⟨(some 47), .load false 1 (.tmp 46), (some (45, true))⟩,
    ⟨(some 48), .bin .eql (.tmp 47) (.const (.int .i64 0)) (some (.int .i64)), (some (45, true))⟩,
    ⟨(some 49), .pick (.tmp 45) (.tmp 48) (.const (.bool false)), none⟩,
    ⟨(some 8), .mov (.tmp 49), none⟩])
  (.seq (.seq (.ops [⟨(some 50), .mov (.tmp 6), none⟩])
  (.cond (.tmp 50)
  (.ops [⟨(some 51), .fieldAddr 2 (.tmp 1), none⟩,
    ⟨(some 52), .load false 1 (.tmp 51), none⟩,
    ⟨(some 53), .bin .geq (.tmp 52) (.const (.int .i64 0)) (some (.int .i64)), none⟩,
    ⟨(some 54), .mov (.tmp 53), none⟩,
    ⟨(some 55), .fieldAddr 2 (.tmp 1), (some (54, true))⟩,
    ⟨(some 56), .load false 1 (.tmp 55), (some (54, true))⟩,
    ⟨(some 57), .bin .lss (.tmp 56) (.const (.int .i64 32)) (some (.int .i64)), (some (54, true))⟩,
    ⟨(some 58), .pick (.tmp 54) (.tmp 57) (.const (.bool false)), none⟩,
    ⟨(some 59), .mov (.tmp 58), none⟩,
    ⟨(some 60), .fieldAddr 3 (.tmp 1), (some (59, true))⟩,
    ⟨(some 61), .load false 1 (.tmp 60), (some (59, true))⟩,
    ⟨(some 62), .call 119 [(.tmp 61)], (some (59, true))⟩,
    ⟨(some 63), .pick (.tmp 59) (.tmp 62) (.const (.bool false)), none⟩,
    ⟨(some 64), .mov (.tmp 63), none⟩,
    ⟨(some 65), .fieldAddr 3 (.tmp 1), (some (64, true))⟩,
    ⟨(some 66), .load false 1 (.tmp 65), (some (64, true))⟩,
    ⟨(some 67), .indexAddrArr 4 21 (.global 2) (.tmp 66), (some (64, true))⟩,
    ⟨(some 68), .fieldAddr 3 (.tmp 67), (some (64, true))⟩,
    ⟨(some 69), .load false 1 (.tmp 68), (some (64, true))⟩,
    ⟨(some 70), .pick (.tmp 64) (.tmp 69) (.const (.bool false)), none⟩,
    ⟨(some 8), .mov (.tmp 70), none⟩])
  .skip))
  (.seq (.ops [⟨(some 71), .mov (.tmp 7), none⟩,
    ⟨(some 72), .mov (.tmp 71), none⟩,
    ⟨(some 73), .mov (.tmp 8), (some (72, true))⟩,
    ⟨(some 74), .pick (.tmp 72) (.tmp 73) (.const (.bool false)), none⟩,
    ⟨(some 75), .mov (.tmp 74), none⟩,
    ⟨(some 76), .fieldAddr 4 (.tmp 1), (some (75, true))⟩,
    ⟨(some 77), .load false 1 (.tmp 76), (some (75, true))⟩,
    ⟨(some 78), .len 1 (.tmp 77), (some (75, true))⟩,
    ⟨(some 79), .mov (.tmp 3), (some (75, true))⟩,
    ⟨(some 80), .bin .geq (.tmp 78) (.tmp 79) (some (.int .i64)), (some (75, true))⟩,
    ⟨(some 81), .pick (.tmp 75) (.tmp 80) (.const (.bool false)), none⟩,
    ⟨(some 82), .mov (.tmp 81), none⟩,
    ⟨(some 83), .fieldAddr 4 (.tmp 1), (some (82, true))⟩,
    ⟨(some 84), .load false 1 (.tmp 83), (some (82, true))⟩,
    ⟨(some 85), .len 1 (.tmp 84), (some (82, true))⟩,
    ⟨(some 86), .mov (.tmp 4), (some (82, true))⟩,
    ⟨(some 87), .bin .leq (.tmp 85) (.tmp 86) (some (.int .i64)), (some (82, true))⟩,
    ⟨(some 88), .pick (.tmp 82) (.tmp 87) (.const (.bool false)), none⟩,
    ⟨(some 2), .mov (.tmp 88), none⟩])
  .ret))))))))))⟩
theorem F81_ok : compF Tryz.prog 81 = some F81 := by kernel_rfl
/-- colonnade/kind.nulls -/
def F82 : FC := ⟨26, [.tmp 2],
  (.seq (.ops [⟨(some 1), .box (.tmp 0), none⟩,
    ⟨(some 2), .mov (.const (.bool false)), none⟩])
  (.seq (.seq (.ops [⟨(some 3), .fieldAddr 2 (.tmp 1), none⟩,
    ⟨(some 4), .fieldAddr 0 (.tmp 3), none⟩,
    ⟨(some 5), .load false 1 (.tmp 4), none⟩])
  (.block 0 (.seq (.ops [⟨(some 7), .bin .eql (.tmp 5) (.const (.int .i64 1)) (some (.int .i64)), none⟩,
    ⟨(some 6), .mov (.tmp 7), none⟩])
  (.cond (.tmp 6)
  (.seq (.ops [⟨(some 8), .fieldAddr 1 (.tmp 1), none⟩,
    ⟨(some 9), .load false 1 (.tmp 8), none⟩,
    ⟨(some 2), .mov (.tmp 9), none⟩])
  .ret)
  (.seq (.ops [⟨(some 11), .bin .eql (.tmp 5) (.const (.int .i64 18)) (some (.int .i64)), none⟩,
    ⟨(some 10), .mov (.tmp 11), none⟩])
  (.cond (.tmp 10)
  (.seq (.ops [⟨(some 12), .fieldAddr 1 (.tmp 1), none⟩,
    ⟨(some 13), .load false 1 (.tmp 12), none⟩,
    ⟨(some 14), .un .not (.tmp 13), none⟩,
    ⟨(some 2), .mov (.tmp 14), none⟩])
  .ret)
  (.seq (.ops [⟨(some 16), .bin .eql (.tmp 5) (.const (.int .i64 20)) (some (.int .i64)), none⟩,
    ⟨(some 15), .mov (.tmp 16), none⟩])
  (.cond (.tmp 15)
  (.seq (.ops [⟨(some 17), .fieldAddr 1 (.tmp 1), none⟩,
    ⟨(some 18), .load false 1 (.tmp 17), none⟩,
    ⟨(some 19), .fieldAddr 2 (.tmp 1), none⟩,
    ⟨(some 20), .fieldAddr 4 (.tmp 19), none⟩,
    ⟨(some 21), .load false 1 (.tmp 20), none⟩,
    ⟨(some 22), .indexAddr 7 (.tmp 21) (.const (.int .i64 0)), none⟩,
    ⟨(some 23), .fieldAddr 1 (.tmp 22), none⟩,
    ⟨(some 24), .load false 1 (.tmp 23), none⟩,
    ⟨(some 25), .bin .eql (.tmp 18) (.tmp 24) (some .bool), none⟩,
    ⟨(some 2), .mov (.tmp 25), none⟩])
  .ret)
  .skip))))))))
  (.seq (.ops [⟨(some 2), .mov (.const (.bool true)), none⟩])
  .ret)))⟩
theorem F82_ok : compF Tryz.prog 82 = some F82 := by kernel_rfl
/-- colonnade/build.right -/
def F90 : FC := ⟨7, [.tmp 2],
  (.seq (.ops [⟨(some 1), .box (.tmp 0), none⟩,
    ⟨(some 2), .mov (.const (.bool false)), none⟩])
  (.seq (.ops [⟨(some 3), .load true 7 (.tmp 1), none⟩,
    ⟨(some 4), .call 106 [(.tmp 3)], none⟩,
    ⟨(some 5), .field false 0 1 (.tmp 4), none⟩,
    ⟨(some 6), .bin .eql (.tmp 5) (.const (.int .i64 0)) (some (.int .i64)), none⟩,
    ⟨(some 2), .mov (.tmp 6), none⟩])
  .ret))⟩
theorem F90_ok : compF Tryz.prog 90 = some F90 := by kernel_rfl
/-- colonnade/build.ownField -/
def F91 : FC := ⟨24, [.cell 2 true 7],
  (.seq (.ops [⟨(some 1), .box (.tmp 0), none⟩,
    ⟨(some 2), .alloc [(.string ⟨#[]⟩), (.bool false), (.int .i64 0), (.int .i64 0), (.int .i64 0), (.int .i64 0), (.slice none 0 0)], none⟩])
  (.seq (.ops [⟨(some 3), .mov (.const (.slice none 0 0)), none⟩])
  (.seq (.seq (.ops [⟨(some 6), .fieldAddr 2 (.tmp 1), none⟩,
    ⟨(some 7), .fieldAddr 4 (.tmp 6), none⟩,
    ⟨(some 8), .load false 1 (.tmp 7), none⟩,
    ⟨(some 9), .len 1 (.tmp 8), none⟩,
    ⟨(some 10), .mov (.const (.int .i64 0)), none⟩])
  (.block 0 (.loop (.seq (.ops [⟨(some 11), .bin .lss (.tmp 10) (.tmp 9) (some (.int .i64)), none⟩])
  (.seq (.cond (.tmp 11)
  .skip
  (.exit 0))
  (.seq (.block 1 (.seq (.ops [⟨(some 12), .indexAddr 7 (.tmp 8) (.tmp 10), none⟩,
    ⟨(some 13), .load true 7 (.tmp 12), none⟩,
    ⟨(some 5), .alloc [(.string ⟨#[]⟩), (.bool false), (.int .i64 0), (.int .i64 0), (.int .i64 0), (.int .i64 0), (.slice none 0 0)], none⟩,
    ⟨none, .store 7 (.tmp 5) (.tmp 13), none⟩])
  (.ops [⟨(some 14), .mov (.tmp 3), none⟩,
    ⟨(some 15), .load true 7 (.tmp 5), none⟩,
    ⟨(some 16), .call 91 [(.tmp 15)], none⟩,
    ⟨(some 17), .buildSlice 7 1 [(.string ⟨#[]⟩), (.bool false), (.int .i64 0), (.int .i64 0), (.int .i64 0), (.int .i64 0), (.slice none 0 0)] [(0, 7, (.tmp 16))], none⟩,
    ⟨(some 18), .append 7 80 (.tmp 14) (.tmp 17), none⟩,
    ⟨(some 3), .mov (.tmp 18), none⟩])))
  (.ops [⟨(some 19), .bin .add (.tmp 10) (.const (.int .i64 1)) (some (.int .i64)), none⟩,
    ⟨(some 10), .mov (.tmp 19), none⟩])))))))
  (.seq (.ops [⟨(some 20), .mov (.tmp 3), none⟩,
    ⟨(some 21), .fieldAddr 2 (.tmp 1), none⟩,
    ⟨(some 22), .fieldAddr 4 (.tmp 21), none⟩,
    ⟨none, .store 1 (.tmp 22) (.tmp 20), none⟩])
  (.seq (.ops [⟨(some 23), .load true 7 (.tmp 1), none⟩,
    ⟨none, .store 7 (.tmp 2) (.tmp 23), none⟩])
  .ret)))))⟩
theorem F91_ok : compF Tryz.prog 91 = some F91 := by kernel_rfl
/-- colonnade/build.made -/
def F92 : FC := ⟨108, [.tmp 2],
  (.seq (.ops [⟨(some 1), .box (.tmp 0), none⟩,
    ⟨(some 2), .mov (.const .nilIface), none⟩])
  (.seq (.ops [⟨(some 8), .load true 7 (.tmp 1), none⟩,
    ⟨(some 9), .call 132 [(.tmp 8)], none⟩,
    ⟨(some 3), .alloc [(.string ⟨#[]⟩), (.bool false), (.int .i64 0), (.int .i64 0), (.int .i64 0), (.int .i64 0), (.slice none 0 0), (.int .i64 0), (.int .i64 0), (.slice none 0 0), (.int .i64 0), (.bool false), (.int .i64 0), (.string ⟨#[]⟩), (.slice none 0 0), (.bool false)], none⟩,
    ⟨none, .store 16 (.tmp 3) (.tmp 9), none⟩])
  (.seq (.ops [⟨(some 4), .mov (.const (.slice none 0 0)), none⟩])
  (.seq (.seq (.ops [⟨(some 10), .fieldAddr 2 (.tmp 1), none⟩,
    ⟨(some 11), .fieldAddr 4 (.tmp 10), none⟩,
    ⟨(some 12), .load false 1 (.tmp 11), none⟩,
    ⟨(some 13), .len 1 (.tmp 12), none⟩,
    ⟨(some 14), .mov (.const (.int .i64 0)), none⟩])
  (.block 0 (.loop (.seq (.ops [⟨(some 15), .bin .lss (.tmp 14) (.tmp 13) (some (.int .i64)), none⟩])
  (.seq (.cond (.tmp 15)
  .skip
  (.exit 0))
  (.seq (.block 1 (.seq (.ops [⟨(some 16), .indexAddr 7 (.tmp 12) (.tmp 14), none⟩,
    ⟨(some 17), .load true 7 (.tmp 16), none⟩,
    ⟨(some 6), .alloc [(.string ⟨#[]⟩), (.bool false), (.int .i64 0), (.int .i64 0), (.int .i64 0), (.int .i64 0), (.slice none 0 0)], none⟩,
    ⟨none, .store 7 (.tmp 6) (.tmp 17), none⟩])
  (.ops [⟨(some 18), .mov (.tmp 4), none⟩,
    ⟨(some 19), .load true 7 (.tmp 6), none⟩,
    ⟨(some 20), .call 92 [(.tmp 19)], none⟩,
    ⟨(some 21), .buildSlice 1 1 [.nilIface] [(0, 1, (.tmp 20))], none⟩,
    ⟨(some 22), .append 1 16 (.tmp 18) (.tmp 21), none⟩,
    ⟨(some 4), .mov (.tmp 22), none⟩])))
  (.ops [⟨(some 23), .bin .add (.tmp 14) (.const (.int .i64 1)) (some (.int .i64)), none⟩,
    ⟨(some 14), .mov (.tmp 23), none⟩])))))))
  (.seq (.seq (.ops [⟨(some 24), .fieldAddr 2 (.tmp 1), none⟩,
    ⟨(some 25), .fieldAddr 0 (.tmp 24), none⟩,
    ⟨(some 26), .load false 1 (.tmp 25), none⟩,
    ⟨(some 7), .mov (.tmp 26), none⟩])
  (.block 2 (.seq (.ops [⟨(some 28), .mov (.tmp 7), none⟩,
    ⟨(some 29), .bin .eql (.tmp 28) (.const (.int .i64 1)) (some (.int .i64)), none⟩,
    ⟨(some 27), .mov (.tmp 29), none⟩])
  (.cond (.tmp 27)
  (.seq (.ops [⟨(some 30), .load true 16 (.tmp 3), none⟩,
    ⟨(some 31), .build [(.string ⟨#[]⟩), (.bool false), (.int .i64 0), (.int .i64 0), (.int .i64 0), (.int .i64 0), (.slice none 0 0), (.int .i64 0), (.int .i64 0), (.slice none 0 0), (.int .i64 0), (.bool false), (.int .i64 0), (.string ⟨#[]⟩), (.slice none 0 0), (.bool false)] [(0, 16, (.tmp 30))], none⟩,
    ⟨(some 32), .box (.tmp 31), none⟩,
    ⟨(some 33), .mkIface 225 (.tmp 32), none⟩,
    ⟨(some 2), .mov (.tmp 33), none⟩])
  .ret)
  (.seq (.ops [⟨(some 35), .mov (.tmp 7), none⟩,
    ⟨(some 36), .bin .eql (.tmp 35) (.const (.int .i64 12)) (some (.int .i64)), none⟩,
    ⟨(some 37), .mov (.tmp 36), none⟩,
    ⟨(some 38), .mov (.tmp 7), (some (37, false))⟩,
    ⟨(some 39), .bin .eql (.tmp 38) (.const (.int .i64 13)) (some (.int .i64)), (some (37, false))⟩,
    ⟨(some 40), .pick (.tmp 37) (.const (.bool true)) (.tmp 39), none⟩,
    ⟨(some 34), .mov (.tmp 40), none⟩])
  (.cond (.tmp 34)
  (.seq (.ops [⟨(some 41), .load true 16 (.tmp 3), none⟩,
    ⟨(some 42), .buildSlice 1 1 [(.int .i64 0)] [(0, 1, (.const (.int .i64 0)))], none⟩,
    ⟨(some 43), .build [(.string ⟨#[]⟩), (.bool false), (.int .i64 0), (.int .i64 0), (.int .i64 0), (.int .i64 0), (.slice none 0 0), (.int .i64 0), (.int .i64 0), (.slice none 0 0), (.int .i64 0), (.bool false), (.int .i64 0), (.string ⟨#[]⟩), (.slice none 0 0), (.bool false), (.slice none 0 0), (.slice none 0 0)] [(0, 16, (.tmp 41)), (16, 1, (.tmp 42))], none⟩,
    ⟨(some 44), .box (.tmp 43), none⟩,
    ⟨(some 45), .mkIface 228 (.tmp 44), none⟩,
    ⟨(some 2), .mov (.tmp 45), none⟩])
  .ret)
  (.seq (.ops [⟨(some 47), .mov (.tmp 7), none⟩,
    ⟨(some 48), .bin .eql (.tmp 47) (.const (.int .i64 15)) (some (.int .i64)), none⟩,
    ⟨(some 46), .mov (.tmp 48), none⟩])
  (.cond (.tmp 46)
  (.seq (.ops [⟨(some 49), .load true 16 (.tmp 3), none⟩,
    ⟨(some 51), .mov (.tmp 4), none⟩,
    ⟨(some 52), .indexAddr 1 (.tmp 51) (.const (.int .i64 0)), none⟩,
    ⟨(some 53), .load false 1 (.tmp 52), none⟩,
    ⟨(some 50), .buildSlice 1 1 [(.int .i64 0)] [(0, 1, (.const (.int .i64 0)))], none⟩,
    ⟨none, .again 53 false 1 (.tmp 52), none⟩,
    ⟨none, .again 49 true 16 (.tmp 3), none⟩,
    ⟨(some 54), .build [(.string ⟨#[]⟩), (.bool false), (.int .i64 0), (.int .i64 0), (.int .i64 0), (.int .i64 0), (.slice none 0 0), (.int .i64 0), (.int .i64 0), (.slice none 0 0), (.int .i64 0), (.bool false), (.int .i64 0), (.string ⟨#[]⟩), (.slice none 0 0), (.bool false), (.slice none 0 0), .nilIface] [(0, 16, (.tmp 49)), (16, 1, (.tmp 50)), (17, 1, (.tmp 53))], none⟩,
    ⟨(some 55), .box (.tmp 54), none⟩,
    ⟨(some 56), .mkIface 231 (.tmp 55), none⟩,
    ⟨(some 2), .mov (.tmp 56), none⟩])
  .ret)
  (.seq (.ops [⟨(some 58), .mov (.tmp 7), none⟩,
    ⟨(some 59), .bin .eql (.tmp 58) (.const (.int .i64 16)) (some (.int .i64)), none⟩,
    ⟨(some 57), .mov (.tmp 59), none⟩])
  (.cond (.tmp 57)
  (.seq (.ops [⟨(some 60), .load true 16 (.tmp 3), none⟩,
    ⟨(some 61), .mov (.tmp 4), none⟩,
    ⟨(some 62), .indexAddr 1 (.tmp 61) (.const (.int .i64 0)), none⟩,
    ⟨(some 63), .load false 1 (.tmp 62), none⟩,
    ⟨(some 64), .build [(.string ⟨#[]⟩), (.bool false), (.int .i64 0), (.int .i64 0), (.int .i64 0), (.int .i64 0), (.slice none 0 0), (.int .i64 0), (.int .i64 0), (.slice none 0 0), (.int .i64 0), (.bool false), (.int .i64 0), (.string ⟨#[]⟩), (.slice none 0 0), (.bool false), .nilIface] [(0, 16, (.tmp 60)), (16, 1, (.tmp 63))], none⟩,
    ⟨(some 65), .box (.tmp 64), none⟩,
    ⟨(some 66), .mkIface 234 (.tmp 65), none⟩,
    ⟨(some 2), .mov (.tmp 66), none⟩])
  .ret)
  (.seq (.ops [⟨(some 68), .mov (.tmp 7), none⟩,
    ⟨(some 69), .bin .eql (.tmp 68) (.const (.int .i64 17)) (some (.int .i64)), none⟩,
    ⟨(some 67), .mov (.tmp 69), none⟩])
  (.cond (.tmp 67)
  (.seq (.ops [⟨(some 70), .load true 16 (.tmp 3), none⟩,
    ⟨(some 71), .mov (.tmp 4), none⟩,
    ⟨(some 72), .build [(.string ⟨#[]⟩), (.bool false), (.int .i64 0), (.int .i64 0), (.int .i64 0), (.int .i64 0), (.slice none 0 0), (.int .i64 0), (.int .i64 0), (.slice none 0 0), (.int .i64 0), (.bool false), (.int .i64 0), (.string ⟨#[]⟩), (.slice none 0 0), (.bool false), (.slice none 0 0)] [(0, 16, (.tmp 70)), (16, 1, (.tmp 71))], none⟩,
    ⟨(some 73), .box (.tmp 72), none⟩,
    ⟨(some 74), .mkIface 237 (.tmp 73), none⟩,
    ⟨(some 2), .mov (.tmp 74), none⟩])
  .ret)
  (.seq (.ops [⟨(some 76), .mov (.tmp 7), none⟩,
    ⟨(some 77), .bin .eql (.tmp 76) (.const (.int .i64 18)) (some (.int .i64)), none⟩,
    ⟨(some 75), .mov (.tmp 77), none⟩])
  (.cond (.tmp 75)
  (.seq (.ops [⟨(some 78), .load true 16 (.tmp 3), none⟩,
    ⟨(some 79), .mov (.tmp 4), none⟩,
    ⟨(some 80), .build [(.string ⟨#[]⟩), (.bool false), (.int .i64 0), (.int .i64 0), (.int .i64 0), (.int .i64 0), (.slice none 0 0), (.int .i64 0), (.int .i64 0), (.slice none 0 0), (.int .i64 0), (.bool false), (.int .i64 0), (.string ⟨#[]⟩), (.slice none 0 0), (.bool false), (.slice none 0 0), (.slice none 0 0), (.slice none 0 0)] [(0, 16, (.tmp 78)), (18, 1, (.tmp 79))], none⟩,
    ⟨(some 81), .box (.tmp 80), none⟩,
    ⟨(some 82), .mkIface 240 (.tmp 81), none⟩,
    ⟨(some 2), .mov (.tmp 82), none⟩])
  .ret)
  (.seq (.ops [⟨(some 84), .mov (.tmp 7), none⟩,
    ⟨(some 85), .bin .eql (.tmp 84) (.const (.int .i64 19)) (some (.int .i64)), none⟩,
    ⟨(some 83), .mov (.tmp 85), none⟩])
  (.cond (.tmp 83)
  (.seq (.ops [⟨(some 86), .load true 16 (.tmp 3), none⟩,
    ⟨(some 87), .mov (.tmp 4), none⟩,
    ⟨(some 88), .indexAddr 1 (.tmp 87) (.const (.int .i64 0)), none⟩,
    ⟨(some 89), .load false 1 (.tmp 88), none⟩,
    ⟨(some 90), .mkMap, none⟩,
    ⟨none, .again 89 false 1 (.tmp 88), none⟩,
    ⟨none, .again 86 true 16 (.tmp 3), none⟩,
    ⟨(some 91), .build [(.string ⟨#[]⟩), (.bool false), (.int .i64 0), (.int .i64 0), (.int .i64 0), (.int .i64 0), (.slice none 0 0), (.int .i64 0), (.int .i64 0), (.slice none 0 0), (.int .i64 0), (.bool false), (.int .i64 0), (.string ⟨#[]⟩), (.slice none 0 0), (.bool false), (.slice none 0 0), .nilIface, (.slice none 0 0), (.map none)] [(0, 16, (.tmp 86)), (17, 1, (.tmp 89)), (19, 1, (.tmp 90))], none⟩,
    ⟨(some 92), .box (.tmp 91), none⟩,
    ⟨(some 93), .mkIface 243 (.tmp 92), none⟩,
    ⟨(some 2), .mov (.tmp 93), none⟩])
  .ret)
  (.seq (.ops [⟨(some 95), .mov (.tmp 7), none⟩,
    ⟨(some 96), .bin .eql (.tmp 95) (.const (.int .i64 20)) (some (.int .i64)), none⟩,
    ⟨(some 94), .mov (.tmp 96), none⟩])
  (.cond (.tmp 94)
  (.seq (.ops [⟨(some 97), .load true 16 (.tmp 3), none⟩,
    ⟨(some 98), .mov (.tmp 4), none⟩,
    ⟨(some 99), .indexAddr 1 (.tmp 98) (.const (.int .i64 0)), none⟩,
    ⟨(some 100), .load false 1 (.tmp 99), none⟩,
    ⟨(some 101), .build [(.string ⟨#[]⟩), (.bool false), (.int .i64 0), (.int .i64 0), (.int .i64 0), (.int .i64 0), (.slice none 0 0), (.int .i64 0), (.int .i64 0), (.slice none 0 0), (.int .i64 0), (.bool false), (.int .i64 0), (.string ⟨#[]⟩), (.slice none 0 0), (.bool false), (.slice none 0 0), .nilIface, (.bool false), (.int .i64 0), (.string ⟨#[]⟩), (.slice none 0 0)] [(0, 16, (.tmp 97)), (17, 1, (.tmp 100))], none⟩,
    ⟨(some 102), .box (.tmp 101), none⟩,
    ⟨(some 103), .mkIface 247 (.tmp 102), none⟩,
    ⟨(some 2), .mov (.tmp 103), none⟩])
  .ret)
  .skip))))))))))))))))))
  (.seq (.ops [⟨(some 104), .load true 16 (.tmp 3), none⟩,
    ⟨(some 105), .build [(.string ⟨#[]⟩), (.bool false), (.int .i64 0), (.int .i64 0), (.int .i64 0), (.int .i64 0), (.slice none 0 0), (.int .i64 0), (.int .i64 0), (.slice none 0 0), (.int .i64 0), (.bool false), (.int .i64 0), (.string ⟨#[]⟩), (.slice none 0 0), (.bool false), (.slice none 0 0), (.slice none 0 0)] [(0, 16, (.tmp 104))], none⟩,
    ⟨(some 106), .box (.tmp 105), none⟩,
    ⟨(some 107), .mkIface 250 (.tmp 106), none⟩,
    ⟨(some 2), .mov (.tmp 107), none⟩])
  .ret))))))⟩
theorem F92_ok : compF Tryz.prog 92 = some F92 := by kernel_rfl
end Go.Proofs.YtpgeonghlabnhaaGreatDoor.Lin
