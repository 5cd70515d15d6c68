/- The code that the call meets, as instructions. No conditions. -/
import Derived.Test.YtpgeonghlabnhaaGreatDoorEm22
import Derived.Test.YtpgeonghlabnhaaGreatDoorProg
import Derived.KernelRfl
set_option linter.unusedVariables false
namespace Go.Proofs.YtpgeonghlabnhaaGreatDoor.Lin
open Go Go.Proofs.YtpgeonghlabnhaaGreatDoor Go.Proofs.YtpgeonghlabnhaaGreatDoor.Em
/-- colonnade/array.parts -/
def F217 : FC := ⟨11, [.tmp 2],
  (.seq (.ops [⟨(some 1), .box (.tmp 0), none⟩,
    ⟨(some 2), .mov (.const (.slice none 0 0)), none⟩])
  (.seq (.seq (.ops [⟨(some 3), .fieldAddr 5 (.tmp 1), none⟩,
    ⟨(some 4), .load false 1 (.tmp 3), none⟩,
    ⟨(some 5), .len 1 (.tmp 4), none⟩,
    ⟨(some 6), .bin .gtr (.tmp 5) (.const (.int .i64 0)) (some (.int .i64)), none⟩])
  (.cond (.tmp 6)
  (.seq (.ops [⟨(some 7), .fieldAddr 5 (.tmp 1), none⟩,
    ⟨(some 8), .load false 1 (.tmp 7), none⟩,
    ⟨(some 2), .mov (.tmp 8), none⟩])
  .ret)
  .skip))
  (.seq (.ops [⟨(some 9), .fieldAddr 4 (.tmp 1), none⟩,
    ⟨(some 10), .load false 1 (.tmp 9), none⟩,
    ⟨(some 2), .mov (.tmp 10), none⟩])
  .ret)))⟩
theorem F217_ok : compF Tryz.prog 217 = some F217 := by kernel_rfl
/-- colonnade/array.weights -/
def F220 : FC := ⟨207, [.tmp 6],
  (.seq (.ops [⟨(some 3), .box (.tmp 0), none⟩,
    ⟨(some 4), .box (.tmp 1), none⟩,
    ⟨(some 6), .mov (.const (.slice none 0 0)), none⟩])
  (.seq (.ops [⟨(some 19), .fieldAddr 2 (.tmp 3), none⟩,
    ⟨(some 20), .load true 5 (.tmp 19), none⟩,
    ⟨(some 7), .alloc [(.int .i64 0), (.int .i64 0), (.int .i64 0), (.int .i64 0), (.slice none 0 0)], none⟩,
    ⟨none, .store 5 (.tmp 7) (.tmp 20), none⟩])
  (.seq (.ops [⟨(some 21), .fieldAddr 0 (.tmp 4), none⟩,
    ⟨(some 22), .load false 1 (.tmp 21), none⟩,
    ⟨(some 23), .mkSlice 1 8 [(.int .i64 0)] (.tmp 22) (.tmp 22), none⟩,
    ⟨(some 8), .mov (.tmp 23), none⟩])
  (.seq (.ops [⟨(some 9), .mov (.const (.int .i64 0)), none⟩])
  (.seq (.seq (.ops [⟨(some 24), .mov (.tmp 8), none⟩,
    ⟨(some 25), .len 1 (.tmp 24), none⟩,
    ⟨(some 26), .mov (.const (.int .i64 0)), none⟩])
  (.block 0 (.loop (.seq (.ops [⟨(some 27), .bin .lss (.tmp 26) (.tmp 25) (some (.int .i64)), none⟩])
  (.seq (.cond (.tmp 27)
  .skip
  (.exit 0))
  (.seq (.block 1 (.seq (.ops [⟨(some 28), .mov (.tmp 26), none⟩,
    ⟨(some 10), .mov (.tmp 28), none⟩])
  (.seq (.ops [⟨(some 29), .fieldAddr 1 (.tmp 4), none⟩,
    ⟨(some 30), .load false 1 (.tmp 29), none⟩,
    ⟨(some 31), .mov (.tmp 10), none⟩,
    ⟨(some 32), .bin .add (.tmp 30) (.tmp 31) (some (.int .i64)), none⟩,
    ⟨(some 11), .mov (.tmp 32), none⟩])
  (.seq (.ops [⟨(some 33), .mov (.tmp 8), none⟩,
    ⟨(some 34), .mov (.tmp 10), none⟩,
    ⟨(some 35), .indexAddr 1 (.tmp 33) (.tmp 34), none⟩,
    ⟨none, .store 1 (.tmp 35) (.const (.int .i64 16)), none⟩])
  (.seq (.seq (.ops [⟨(some 36), .load true 7 (.tmp 3), none⟩,
    ⟨(some 37), .load true 6 (.tmp 4), none⟩,
    ⟨(some 38), .mov (.tmp 11), none⟩,
    ⟨(some 39), .call 246 [(.tmp 36), (.tmp 37), (.tmp 38)], none⟩])
  (.cond (.tmp 39)
  (.exit 1)
  .skip))
  (.seq (.ops [⟨(some 12), .mov (.const (.int .i64 0)), none⟩,
    ⟨(some 13), .mov (.const (.int .i64 0)), none⟩])
  (.seq (.seq (.ops [⟨(some 40), .fieldAddr 0 (.tmp 7), none⟩,
    ⟨(some 41), .load false 1 (.tmp 40), none⟩])
  (.block 2 (.seq (.ops [⟨(some 43), .bin .eql (.tmp 41) (.const (.int .i64 14)) (some (.int .i64)), none⟩,
    ⟨(some 42), .mov (.tmp 43), none⟩])
  (.cond (.tmp 42)
  (.ops [⟨(some 44), .mov (.tmp 8), none⟩,
    ⟨(some 45), .mov (.tmp 10), none⟩,
    ⟨(some 46), .indexAddr 1 (.tmp 44) (.tmp 45), none⟩,
    ⟨(some 47), .load false 1 (.tmp 46), none⟩,
    ⟨(some 48), .fieldAddr 1 (.tmp 7), none⟩,
    ⟨(some 49), .load false 1 (.tmp 48), none⟩,
    ⟨(some 50), .bin .add (.tmp 47) (.tmp 49) (some (.int .i64)), none⟩,
    ⟨(some 51), .indexAddr 1 (.tmp 44) (.tmp 45), none⟩,
    ⟨none, .store 1 (.tmp 51) (.tmp 50), none⟩])
  (.seq (.seq (.ops [⟨(some 53), .bin .eql (.tmp 41) (.const (.int .i64 12)) (some (.int .i64)), none⟩,
    ⟨(some 52), .mov (.tmp 53), none⟩])
  (.cond (.tmp 52)
  .skip
  (.ops [⟨(some 54), .bin .eql (.tmp 41) (.const (.int .i64 13)) (some (.int .i64)), none⟩,
    ⟨(some 52), .mov (.tmp 54), none⟩])))
  (.cond (.tmp 52)
  (.ops [⟨(some 55), .mov (.tmp 8), none⟩,
    ⟨(some 56), .mov (.tmp 10), none⟩,
    ⟨(some 57), .indexAddr 1 (.tmp 55) (.tmp 56), none⟩,
    ⟨(some 58), .load false 1 (.tmp 57), none⟩,
    ⟨(some 59), .fieldAddr 3 (.tmp 4), none⟩,
    ⟨(some 60), .load false 1 (.tmp 59), none⟩,
    ⟨(some 61), .indexAddr 1 (.tmp 60) (.const (.int .i64 1)), none⟩,
    ⟨(some 62), .load false 1 (.tmp 61), none⟩,
    ⟨(some 63), .mov (.tmp 11), none⟩,
    ⟨(some 64), .bin .add (.tmp 63) (.const (.int .i64 1)) (some (.int .i64)), none⟩,
    ⟨(some 66), .fieldAddr 3 (.tmp 4), none⟩,
    ⟨(some 67), .load false 1 (.tmp 66), none⟩,
    ⟨(some 68), .indexAddr 1 (.tmp 67) (.const (.int .i64 1)), none⟩,
    ⟨(some 69), .load false 1 (.tmp 68), none⟩,
    ⟨(some 70), .mov (.tmp 11), none⟩,
    ⟨(some 65), .call 245 [(.tmp 62), (.tmp 64)], none⟩,
    ⟨none, .again 69 false 1 (.tmp 68), none⟩,
    ⟨none, .again 67 false 1 (.tmp 66), none⟩,
    ⟨none, .again 58 false 1 (.tmp 57), none⟩,
    ⟨(some 71), .call 245 [(.tmp 69), (.tmp 70)], none⟩,
    ⟨none, .again 58 false 1 (.tmp 57), none⟩,
    ⟨(some 72), .bin .sub (.tmp 65) (.tmp 71) (some (.int .i64)), none⟩,
    ⟨(some 73), .bin .add (.tmp 58) (.tmp 72) (some (.int .i64)), none⟩,
    ⟨(some 74), .indexAddr 1 (.tmp 55) (.tmp 56), none⟩,
    ⟨none, .store 1 (.tmp 74) (.tmp 73), none⟩])
  (.seq (.ops [⟨(some 76), .bin .eql (.tmp 41) (.const (.int .i64 15)) (some (.int .i64)), none⟩,
    ⟨(some 75), .mov (.tmp 76), none⟩])
  (.cond (.tmp 75)
  (.ops [⟨(some 77), .fieldAddr 3 (.tmp 4), none⟩,
    ⟨(some 78), .load false 1 (.tmp 77), none⟩,
    ⟨(some 79), .indexAddr 1 (.tmp 78) (.const (.int .i64 1)), none⟩,
    ⟨(some 80), .load false 1 (.tmp 79), none⟩,
    ⟨(some 81), .mov (.tmp 11), none⟩,
    ⟨(some 83), .fieldAddr 3 (.tmp 4), none⟩,
    ⟨(some 84), .load false 1 (.tmp 83), none⟩,
    ⟨(some 85), .indexAddr 1 (.tmp 84) (.const (.int .i64 1)), none⟩,
    ⟨(some 86), .load false 1 (.tmp 85), none⟩,
    ⟨(some 87), .mov (.tmp 11), none⟩,
    ⟨(some 88), .bin .add (.tmp 87) (.const (.int .i64 1)) (some (.int .i64)), none⟩,
    ⟨(some 82), .call 245 [(.tmp 80), (.tmp 81)], none⟩,
    ⟨none, .again 86 false 1 (.tmp 85), none⟩,
    ⟨none, .again 84 false 1 (.tmp 83), none⟩,
    ⟨(some 89), .call 245 [(.tmp 86), (.tmp 88)], none⟩,
    ⟨(some 12), .mov (.tmp 82), none⟩,
    ⟨(some 13), .mov (.tmp 89), none⟩])
  (.seq (.ops [⟨(some 91), .bin .eql (.tmp 41) (.const (.int .i64 16)) (some (.int .i64)), none⟩,
    ⟨(some 90), .mov (.tmp 91), none⟩])
  (.cond (.tmp 90)
  (.ops [⟨(some 92), .mov (.tmp 11), none⟩,
    ⟨(some 93), .fieldAddr 1 (.tmp 7), none⟩,
    ⟨(some 94), .load false 1 (.tmp 93), none⟩,
    ⟨(some 95), .bin .mul (.tmp 92) (.tmp 94) (some (.int .i64)), none⟩,
    ⟨(some 96), .mov (.tmp 11), none⟩,
    ⟨(some 97), .bin .add (.tmp 96) (.const (.int .i64 1)) (some (.int .i64)), none⟩,
    ⟨(some 98), .fieldAddr 1 (.tmp 7), none⟩,
    ⟨(some 99), .load false 1 (.tmp 98), none⟩,
    ⟨(some 100), .bin .mul (.tmp 97) (.tmp 99) (some (.int .i64)), none⟩,
    ⟨(some 12), .mov (.tmp 95), none⟩,
    ⟨(some 13), .mov (.tmp 100), none⟩])
  (.seq (.ops [⟨(some 102), .bin .eql (.tmp 41) (.const (.int .i64 17)) (some (.int .i64)), none⟩,
    ⟨(some 101), .mov (.tmp 102), none⟩])
  (.cond (.tmp 101)
  (.seq (.ops [⟨(some 103), .mov (.tmp 2), none⟩,
    ⟨(some 104), .len 1 (.tmp 103), none⟩,
    ⟨(some 105), .mov (.const (.int .i64 0)), none⟩])
  (.block 3 (.loop (.seq (.ops [⟨(some 106), .bin .lss (.tmp 105) (.tmp 104) (some (.int .i64)), none⟩])
  (.seq (.cond (.tmp 106)
  .skip
  (.exit 3))
  (.seq (.block 4 (.seq (.ops [⟨(some 107), .indexAddr 1 (.tmp 103) (.tmp 105), none⟩,
    ⟨(some 108), .load false 1 (.tmp 107), none⟩,
    ⟨(some 15), .mov (.tmp 108), none⟩])
  (.ops [⟨(some 109), .mov (.tmp 8), none⟩,
    ⟨(some 110), .mov (.tmp 10), none⟩,
    ⟨(some 111), .indexAddr 1 (.tmp 109) (.tmp 110), none⟩,
    ⟨(some 112), .load false 1 (.tmp 111), none⟩,
    ⟨(some 113), .mov (.tmp 15), none⟩,
    ⟨(some 114), .mov (.tmp 11), none⟩,
    ⟨(some 115), .indexAddr 1 (.tmp 113) (.tmp 114), none⟩,
    ⟨(some 116), .load false 1 (.tmp 115), none⟩,
    ⟨(some 117), .bin .add (.tmp 112) (.tmp 116) (some (.int .i64)), none⟩,
    ⟨(some 118), .indexAddr 1 (.tmp 109) (.tmp 110), none⟩,
    ⟨none, .store 1 (.tmp 118) (.tmp 117), none⟩])))
  (.ops [⟨(some 119), .bin .add (.tmp 105) (.const (.int .i64 1)) (some (.int .i64)), none⟩,
    ⟨(some 105), .mov (.tmp 119), none⟩])))))))
  (.seq (.ops [⟨(some 121), .bin .eql (.tmp 41) (.const (.int .i64 18)) (some (.int .i64)), none⟩,
    ⟨(some 120), .mov (.tmp 121), none⟩])
  (.cond (.tmp 120)
  (.ops [⟨(some 122), .mov (.tmp 8), none⟩,
    ⟨(some 123), .mov (.tmp 10), none⟩,
    ⟨(some 124), .indexAddr 1 (.tmp 122) (.tmp 123), none⟩,
    ⟨(some 125), .load false 1 (.tmp 124), none⟩,
    ⟨(some 126), .mov (.tmp 2), none⟩,
    ⟨(some 127), .fieldAddr 3 (.tmp 4), none⟩,
    ⟨(some 128), .load false 1 (.tmp 127), none⟩,
    ⟨(some 129), .indexAddr 1 (.tmp 128) (.const (.int .i64 0)), none⟩,
    ⟨(some 130), .load false 1 (.tmp 129), none⟩,
    ⟨(some 131), .mov (.tmp 11), none⟩,
    ⟨(some 132), .indexAddr 1 (.tmp 130) (.tmp 131), none⟩,
    ⟨(some 133), .load false 1 (.tmp 132), none⟩,
    ⟨(some 134), .indexAddr 1 (.tmp 126) (.tmp 133), none⟩,
    ⟨(some 135), .load false 1 (.tmp 134), none⟩,
    ⟨(some 136), .fieldAddr 3 (.tmp 4), none⟩,
    ⟨(some 137), .load false 1 (.tmp 136), none⟩,
    ⟨(some 138), .indexAddr 1 (.tmp 137) (.const (.int .i64 1)), none⟩,
    ⟨(some 139), .load false 1 (.tmp 138), none⟩,
    ⟨(some 140), .mov (.tmp 11), none⟩,
    ⟨(some 141), .call 245 [(.tmp 139), (.tmp 140)], none⟩,
    ⟨none, .again 135 false 1 (.tmp 134), none⟩,
    ⟨none, .again 133 false 1 (.tmp 132), none⟩,
    ⟨none, .again 130 false 1 (.tmp 129), none⟩,
    ⟨none, .again 128 false 1 (.tmp 127), none⟩,
    ⟨none, .again 125 false 1 (.tmp 124), none⟩,
    ⟨(some 142), .indexAddr 1 (.tmp 135) (.tmp 141), none⟩,
    ⟨(some 143), .load false 1 (.tmp 142), none⟩,
    ⟨(some 144), .bin .add (.tmp 125) (.tmp 143) (some (.int .i64)), none⟩,
    ⟨(some 145), .indexAddr 1 (.tmp 122) (.tmp 123), none⟩,
    ⟨none, .store 1 (.tmp 145) (.tmp 144), none⟩])
  (.seq (.ops [⟨(some 147), .bin .eql (.tmp 41) (.const (.int .i64 19)) (some (.int .i64)), none⟩,
    ⟨(some 146), .mov (.tmp 147), none⟩])
  (.cond (.tmp 146)
  (.ops [⟨(some 148), .mov (.tmp 8), none⟩,
    ⟨(some 149), .mov (.tmp 10), none⟩,
    ⟨(some 150), .mov (.tmp 2), none⟩,
    ⟨(some 151), .indexAddr 1 (.tmp 150) (.const (.int .i64 0)), none⟩,
    ⟨(some 152), .load false 1 (.tmp 151), none⟩,
    ⟨(some 153), .load true 7 (.tmp 3), none⟩,
    ⟨(some 154), .load true 6 (.tmp 4), none⟩,
    ⟨(some 155), .mov (.tmp 11), none⟩,
    ⟨(some 156), .call 247 [(.tmp 153), (.tmp 154), (.tmp 155)], none⟩,
    ⟨none, .again 152 false 1 (.tmp 151), none⟩,
    ⟨(some 157), .indexAddr 1 (.tmp 152) (.tmp 156), none⟩,
    ⟨(some 158), .load false 1 (.tmp 157), none⟩,
    ⟨(some 159), .indexAddr 1 (.tmp 148) (.tmp 149), none⟩,
    ⟨none, .store 1 (.tmp 159) (.tmp 158), none⟩])
  (.seq (.ops [⟨(some 161), .bin .eql (.tmp 41) (.const (.int .i64 20)) (some (.int .i64)), none⟩,
    ⟨(some 160), .mov (.tmp 161), none⟩])
  (.cond (.tmp 160)
  (.seq (.ops [⟨(some 162), .fieldAddr 4 (.tmp 4), none⟩,
    ⟨(some 163), .load false 1 (.tmp 162), none⟩,
    ⟨(some 164), .indexAddr 6 (.tmp 163) (.const (.int .i64 0)), none⟩,
    ⟨(some 165), .load true 6 (.tmp 164), none⟩,
    ⟨(some 16), .alloc [(.int .i64 0), (.int .i64 0), (.int .i64 0), (.slice none 0 0), (.slice none 0 0), (.slice none 0 0)], none⟩,
    ⟨none, .store 6 (.tmp 16) (.tmp 165), none⟩])
  (.seq (.block 5 (.loop (.seq (.seq (.ops [⟨(some 166), .fieldAddr 3 (.tmp 16), none⟩,
    ⟨(some 167), .load false 1 (.tmp 166), none⟩,
    ⟨(some 168), .indexAddr 1 (.tmp 167) (.const (.int .i64 1)), none⟩,
    ⟨(some 169), .load false 1 (.tmp 168), none⟩,
    ⟨(some 170), .fieldAddr 1 (.tmp 16), none⟩,
    ⟨(some 171), .load false 1 (.tmp 170), none⟩,
    ⟨(some 172), .mov (.tmp 9), none⟩,
    ⟨(some 173), .bin .add (.tmp 171) (.tmp 172) (some (.int .i64)), none⟩,
    ⟨(some 175), .mov (.tmp 11), none⟩,
    ⟨(some 174), .call 245 [(.tmp 169), (.tmp 173)], none⟩,
    ⟨(some 176), .bin .leq (.tmp 174) (.tmp 175) (some (.int .i64)), none⟩])
  (.cond (.tmp 176)
  .skip
  (.exit 5)))
  (.block 6 (.ops [⟨(some 177), .mov (.tmp 9), none⟩,
    ⟨(some 178), .bin .add (.tmp 177) (.const (.int .i64 1)) (some (.int .i64)), none⟩,
    ⟨(some 9), .mov (.tmp 178), none⟩])))))
  (.ops [⟨(some 179), .mov (.tmp 8), none⟩,
    ⟨(some 180), .mov (.tmp 10), none⟩,
    ⟨(some 181), .mov (.tmp 2), none⟩,
    ⟨(some 182), .indexAddr 1 (.tmp 181) (.const (.int .i64 1)), none⟩,
    ⟨(some 183), .load false 1 (.tmp 182), none⟩,
    ⟨(some 184), .mov (.tmp 9), none⟩,
    ⟨(some 185), .indexAddr 1 (.tmp 183) (.tmp 184), none⟩,
    ⟨(some 186), .load false 1 (.tmp 185), none⟩,
    ⟨(some 187), .indexAddr 1 (.tmp 179) (.tmp 180), none⟩,
    ⟨none, .store 1 (.tmp 187) (.tmp 186), none⟩])))
  .skip))))))))))))))))))
  (.seq (.ops [⟨(some 188), .mov (.tmp 2), none⟩,
    ⟨(some 189), .mov (.tmp 12), none⟩,
    ⟨(some 190), .mov (.tmp 13), none⟩,
    ⟨(some 191), .call 248 [(.tmp 188), (.tmp 189), (.tmp 190)], none⟩,
    ⟨(some 192), .len 1 (.tmp 191), none⟩,
    ⟨(some 193), .mov (.const (.int .i64 0)), none⟩])
  (.block 7 (.loop (.seq (.ops [⟨(some 194), .bin .lss (.tmp 193) (.tmp 192) (some (.int .i64)), none⟩])
  (.seq (.cond (.tmp 194)
  .skip
  (.exit 7))
  (.seq (.block 8 (.seq (.ops [⟨(some 195), .indexAddr 1 (.tmp 191) (.tmp 193), none⟩,
    ⟨(some 196), .load false 1 (.tmp 195), none⟩,
    ⟨(some 18), .mov (.tmp 196), none⟩])
  (.ops [⟨(some 197), .mov (.tmp 8), none⟩,
    ⟨(some 198), .mov (.tmp 10), none⟩,
    ⟨(some 199), .indexAddr 1 (.tmp 197) (.tmp 198), none⟩,
    ⟨(some 200), .load false 1 (.tmp 199), none⟩,
    ⟨(some 201), .mov (.tmp 18), none⟩,
    ⟨(some 202), .bin .add (.tmp 200) (.tmp 201) (some (.int .i64)), none⟩,
    ⟨(some 203), .indexAddr 1 (.tmp 197) (.tmp 198), none⟩,
    ⟨none, .store 1 (.tmp 203) (.tmp 202), none⟩])))
  (.ops [⟨(some 204), .bin .add (.tmp 193) (.const (.int .i64 1)) (some (.int .i64)), none⟩,
    ⟨(some 193), .mov (.tmp 204), none⟩]))))))))))))))
  (.ops [⟨(some 205), .bin .add (.tmp 26) (.const (.int .i64 1)) (some (.int .i64)), none⟩,
    ⟨(some 26), .mov (.tmp 205), none⟩])))))))
  (.seq (.ops [⟨(some 206), .mov (.tmp 8), none⟩,
    ⟨(some 6), .mov (.tmp 206), none⟩])
  .ret))))))⟩
theorem F220_ok : compF Tryz.prog 220 = some F220 := by kernel_rfl
/-- colonnade/array.hasValidity -/
def F221 : FC := ⟨13, [.tmp 2],
  (.seq (.ops [⟨(some 2), .mov (.const (.bool false)), none⟩])
  (.seq (.ops [⟨(some 3), .mov (.tmp 0), none⟩,
    ⟨(some 4), .bin .neq (.tmp 3) (.const (.int .i64 1)) (some (.int .i64)), none⟩,
    ⟨(some 5), .mov (.tmp 4), none⟩,
    ⟨(some 6), .mov (.tmp 0), (some (5, true))⟩,
    ⟨(some 7), .bin .neq (.tmp 6) (.const (.int .i64 18)) (some (.int .i64)), (some (5, true))⟩,
    ⟨(some 8), .pick (.tmp 5) (.tmp 7) (.const (.bool false)), none⟩,
    ⟨(some 9), .mov (.tmp 8), none⟩,
    ⟨(some 10), .mov (.tmp 0), (some (9, true))⟩,
    ⟨(some 11), .bin .neq (.tmp 10) (.const (.int .i64 20)) (some (.int .i64)), (some (9, true))⟩,
    ⟨(some 12), .pick (.tmp 9) (.tmp 11) (.const (.bool false)), none⟩,
    ⟨(some 2), .mov (.tmp 12), none⟩])
  .ret))⟩
theorem F221_ok : compF Tryz.prog 221 = some F221 := by kernel_rfl
/-- (*colonnade/array.Array).bytes -/
def F222 : FC := ⟨19, [.cell 4 true 3],
  (.seq (.ops [⟨(some 4), .alloc [(.slice none 0 0), (.int .i64 0), (.pointer none)], none⟩])
  (.seq (.ops [⟨(some 5), .mov (.tmp 0), none⟩,
    ⟨(some 6), .nilCheck (.tmp 5), none⟩,
    ⟨(some 7), .fieldAddr 7 (.tmp 6), none⟩,
    ⟨(some 8), .fieldAddr 3 (.tmp 7), none⟩,
    ⟨(some 9), .load false 1 (.tmp 8), none⟩,
    ⟨(some 10), .mov (.tmp 1), none⟩,
    ⟨(some 11), .indexAddr 1 (.tmp 9) (.tmp 10), none⟩,
    ⟨(some 12), .load false 1 (.tmp 11), none⟩,
    ⟨(some 14), .mov (.tmp 0), none⟩,
    ⟨(some 15), .nilCheck (.tmp 14), none⟩,
    ⟨(some 16), .fieldAddr 15 (.tmp 15), none⟩,
    ⟨(some 17), .load false 1 (.tmp 16), none⟩,
    ⟨(some 13), .call 249 [(.tmp 12)], none⟩,
    ⟨none, .again 17 false 1 (.tmp 16), none⟩,
    ⟨(some 18), .call 250 [(.tmp 13), (.tmp 17)], none⟩,
    ⟨none, .store 3 (.tmp 4) (.tmp 18), none⟩])
  .ret))⟩
theorem F222_ok : compF Tryz.prog 222 = some F222 := by kernel_rfl
/-- (colonnade/view.View).Byte -/
def F223 : FC := ⟨15, [.tmp 4, .tmp 5],
  (.seq (.ops [⟨(some 2), .box (.tmp 0), none⟩,
    ⟨(some 4), .mov (.const (.int .u8 0)), none⟩,
    ⟨(some 5), .mov (.const (.int .i64 0)), none⟩])
  (.seq (.seq (.ops [⟨(some 6), .load true 3 (.tmp 2), none⟩,
    ⟨(some 7), .mov (.tmp 1), none⟩,
    ⟨(some 8), .call 251 [(.tmp 6), (.tmp 7), (.const (.int .i64 1))], none⟩,
    ⟨(some 9), .un .not (.tmp 8), none⟩])
  (.cond (.tmp 9)
  (.seq (.ops [⟨(some 4), .mov (.const (.int .u8 0)), none⟩,
    ⟨(some 5), .mov (.const (.int .i64 2)), none⟩])
  .ret)
  .skip))
  (.seq (.ops [⟨(some 10), .load true 3 (.tmp 2), none⟩,
    ⟨(some 11), .mov (.tmp 1), none⟩,
    ⟨(some 12), .call 252 [(.tmp 10), (.tmp 11), (.const (.int .i64 1))], none⟩,
    ⟨(some 13), .indexAddr 1 (.tmp 12) (.const (.int .i64 0)), none⟩,
    ⟨(some 14), .load false 1 (.tmp 13), none⟩,
    ⟨(some 4), .mov (.tmp 14), none⟩,
    ⟨(some 5), .mov (.const (.int .i64 0)), none⟩])
  .ret)))⟩
theorem F223_ok : compF Tryz.prog 223 = some F223 := by kernel_rfl
/-- internal/strconv.small -/
def F224 : FC := ⟨15, [.tmp 2],
  (.seq (.ops [⟨(some 2), .mov (.const (.string ⟨#[]⟩)), none⟩])
  (.seq (.seq (.ops [⟨(some 3), .mov (.tmp 0), none⟩,
    ⟨(some 4), .bin .lss (.tmp 3) (.const (.int .i64 10)) (some (.int .i64)), none⟩])
  (.cond (.tmp 4)
  (.seq (.ops [⟨(some 5), .mov (.tmp 0), none⟩,
    ⟨(some 6), .mov (.tmp 0), none⟩,
    ⟨(some 7), .bin .add (.tmp 6) (.const (.int .i64 1)) (some (.int .i64)), none⟩,
    ⟨(some 8), .sliceStr (.const (.string ⟨#[48, 49, 50, 51, 52, 53, 54, 55, 56, 57, 97, 98, 99, 100, 101, 102, 103, 104, 105, 106, 107, 108, 109, 110, 111, 112, 113, 114, 115, 116, 117, 118, 119, 120, 121, 122]⟩)) (some (.tmp 5)) (some (.tmp 7)), none⟩,
    ⟨(some 2), .mov (.tmp 8), none⟩])
  .ret)
  .skip))
  (.seq (.ops [⟨(some 9), .mov (.tmp 0), none⟩,
    ⟨(some 10), .bin .mul (.tmp 9) (.const (.int .i64 2)) (some (.int .i64)), none⟩,
    ⟨(some 11), .mov (.tmp 0), none⟩,
    ⟨(some 12), .bin .mul (.tmp 11) (.const (.int .i64 2)) (some (.int .i64)), none⟩,
    ⟨(some 13), .bin .add (.tmp 12) (.const (.int .i64 2)) (some (.int .i64)), none⟩,
    ⟨(some 14), .sliceStr (.const (.string ⟨#[48, 48, 48, 49, 48, 50, 48, 51, 48, 52, 48, 53, 48, 54, 48, 55, 48, 56, 48, 57, 49, 48, 49, 49, 49, 50, 49, 51, 49, 52, 49, 53, 49, 54, 49, 55, 49, 56, 49, 57, 50, 48, 50, 49, 50, 50, 50, 51, 50, 52, 50, 53, 50, 54, 50, 55, 50, 56, 50, 57, 51, 48, 51, 49, 51, 50, 51, 51, 51, 52, 51, 53, 51, 54, 51, 55, 51, 56, 51, 57, 52, 48, 52, 49, 52, 50, 52, 51, 52, 52, 52, 53, 52, 54, 52, 55, 52, 56, 52, 57, 53, 48, 53, 49, 53, 50, 53, 51, 53, 52, 53, 53, 53, 54, 53, 55, 53, 56, 53, 57, 54, 48, 54, 49, 54, 50, 54, 51, 54, 52, 54, 53, 54, 54, 54, 55, 54, 56, 54, 57, 55, 48, 55, 49, 55, 50, 55, 51, 55, 52, 55, 53, 55, 54, 55, 55, 55, 56, 55, 57, 56, 48, 56, 49, 56, 50, 56, 51, 56, 52, 56, 53, 56, 54, 56, 55, 56, 56, 56, 57, 57, 48, 57, 49, 57, 50, 57, 51, 57, 52, 57, 53, 57, 54, 57, 55, 57, 56, 57, 57]⟩)) (some (.tmp 10)) (some (.tmp 13)), none⟩,
    ⟨(some 2), .mov (.tmp 14), none⟩])
  .ret)))⟩
theorem F224_ok : compF Tryz.prog 224 = some F224 := by kernel_rfl
/-- internal/stringslite.CutPrefix -/
def F231 : FC := ⟨15, [.tmp 4, .tmp 5],
  (.seq (.ops [⟨(some 4), .mov (.const (.string ⟨#[]⟩)), none⟩,
    ⟨(some 5), .mov (.const (.bool false)), none⟩])
  (.seq (.seq (.ops [⟨(some 6), .mov (.tmp 0), none⟩,
    ⟨(some 7), .mov (.tmp 1), none⟩,
    ⟨(some 8), .call 201 [(.tmp 6), (.tmp 7)], none⟩,
    ⟨(some 9), .un .not (.tmp 8), none⟩])
  (.cond (.tmp 9)
  (.seq (.ops [⟨(some 10), .mov (.tmp 0), none⟩,
    ⟨(some 4), .mov (.tmp 10), none⟩,
    ⟨(some 5), .mov (.const (.bool false)), none⟩])
  .ret)
  .skip))
  (.seq (.ops [⟨(some 11), .mov (.tmp 0), none⟩,
    ⟨(some 12), .mov (.tmp 1), none⟩,
    ⟨(some 13), .len 0 (.tmp 12), none⟩,
    ⟨(some 14), .sliceStr (.tmp 11) (some (.tmp 13)) none, none⟩,
    ⟨(some 4), .mov (.tmp 14), none⟩,
    ⟨(some 5), .mov (.const (.bool true)), none⟩])
  .ret)))⟩
theorem F231_ok : compF Tryz.prog 231 = some F231 := by kernel_rfl
/-- internal/stringslite.Cut -/
def F232 : FC := ⟨23, [.tmp 4, .tmp 5, .tmp 6],
  (.seq (.ops [⟨(some 4), .mov (.const (.string ⟨#[]⟩)), none⟩,
    ⟨(some 5), .mov (.const (.string ⟨#[]⟩)), none⟩,
    ⟨(some 6), .mov (.const (.bool false)), none⟩])
  (.seq (.seq (.ops [⟨(some 8), .mov (.tmp 0), none⟩,
    ⟨(some 9), .mov (.tmp 1), none⟩,
    ⟨(some 10), .call 199 [(.tmp 8), (.tmp 9)], none⟩,
    ⟨(some 7), .mov (.tmp 10), none⟩])
  (.seq (.ops [⟨(some 11), .mov (.tmp 7), none⟩,
    ⟨(some 12), .bin .geq (.tmp 11) (.const (.int .i64 0)) (some (.int .i64)), none⟩])
  (.cond (.tmp 12)
  (.seq (.ops [⟨(some 13), .mov (.tmp 0), none⟩,
    ⟨(some 14), .mov (.tmp 7), none⟩,
    ⟨(some 15), .sliceStr (.tmp 13) none (some (.tmp 14)), none⟩,
    ⟨(some 16), .mov (.tmp 0), none⟩,
    ⟨(some 17), .mov (.tmp 7), none⟩,
    ⟨(some 18), .mov (.tmp 1), none⟩,
    ⟨(some 19), .len 0 (.tmp 18), none⟩,
    ⟨(some 20), .bin .add (.tmp 17) (.tmp 19) (some (.int .i64)), none⟩,
    ⟨(some 21), .sliceStr (.tmp 16) (some (.tmp 20)) none, none⟩,
    ⟨(some 4), .mov (.tmp 15), none⟩,
    ⟨(some 5), .mov (.tmp 21), none⟩,
    ⟨(some 6), .mov (.const (.bool true)), none⟩])
  .ret)
  .skip)))
  (.seq (.ops [⟨(some 22), .mov (.tmp 0), none⟩,
    ⟨(some 4), .mov (.tmp 22), none⟩,
    ⟨(some 5), .mov (.const (.string ⟨#[]⟩)), none⟩,
    ⟨(some 6), .mov (.const (.bool false)), none⟩])
  .ret)))⟩
theorem F232_ok : compF Tryz.prog 232 = some F232 := by kernel_rfl
/-- internal/strconv.Atoi -/
def F233 : FC := ⟨77, [.tmp 2, .tmp 3],
  (.seq (.ops [⟨(some 2), .mov (.const (.int .i64 0)), none⟩,
    ⟨(some 3), .mov (.const .nilIface), none⟩])
  (.seq (.ops [⟨(some 11), .mov (.tmp 0), none⟩,
    ⟨(some 12), .len 0 (.tmp 11), none⟩,
    ⟨(some 4), .mov (.tmp 12), none⟩])
  (.seq (.seq (.ops [⟨(some 13), .mov (.const (.bool false)), none⟩,
    ⟨(some 14), .mov (.tmp 4), (some (13, true))⟩,
    ⟨(some 15), .bin .lss (.const (.int .i64 0)) (.tmp 14) (some (.int .i64)), (some (13, true))⟩,
    ⟨(some 16), .mov (.tmp 15), (some (13, true))⟩,
    ⟨(some 17), .mov (.tmp 4), (some (16, true))⟩,
    ⟨(some 18), .bin .lss (.tmp 17) (.const (.int .i64 10)) (some (.int .i64)), (some (16, true))⟩,
    ⟨(some 19), .pick (.tmp 16) (.tmp 18) (.const (.bool false)), (some (13, true))⟩,
    ⟨(some 20), .pick (.tmp 13) (.tmp 19) (.const (.bool false)), none⟩,
    ⟨(some 21), .mov (.tmp 20), none⟩,
    ⟨(some 22), .mov (.const (.bool true)), (some (21, false))⟩,
    ⟨(some 23), .mov (.tmp 4), (some (22, true))⟩,
    ⟨(some 24), .bin .lss (.const (.int .i64 0)) (.tmp 23) (some (.int .i64)), (some (22, true))⟩,
    ⟨(some 25), .mov (.tmp 24), (some (22, true))⟩,
    ⟨(some 26), .mov (.tmp 4), (some (25, true))⟩,
    ⟨(some 27), .bin .lss (.tmp 26) (.const (.int .i64 19)) (some (.int .i64)), (some (25, true))⟩,
    ⟨(some 28), .pick (.tmp 25) (.tmp 27) (.const (.bool false)), (some (22, true))⟩,
    ⟨(some 29), .pick (.tmp 22) (.tmp 28) (.const (.bool false)), (some (21, false))⟩,
    ⟨(some 30), .pick (.tmp 21) (.const (.bool true)) (.tmp 29), none⟩])
  (.cond (.tmp 30)
  (.seq (.ops [⟨(some 31), .mov (.tmp 0), none⟩,
    ⟨(some 5), .mov (.tmp 31), none⟩])
  (.seq (.seq (.ops [⟨(some 32), .mov (.tmp 0), none⟩,
    ⟨(some 33), .indexStr (.tmp 32) (.const (.int .i64 0)), none⟩,
    ⟨(some 34), .bin .eql (.tmp 33) (.const (.int .u8 45)) (some (.int .u8)), none⟩,
    ⟨(some 35), .mov (.tmp 34), none⟩,
    ⟨(some 36), .mov (.tmp 0), (some (35, false))⟩,
    ⟨(some 37), .indexStr (.tmp 36) (.const (.int .i64 0)), (some (35, false))⟩,
    ⟨(some 38), .bin .eql (.tmp 37) (.const (.int .u8 43)) (some (.int .u8)), (some (35, false))⟩,
    ⟨(some 39), .pick (.tmp 35) (.const (.bool true)) (.tmp 38), none⟩])
  (.cond (.tmp 39)
  (.seq (.ops [⟨(some 40), .mov (.tmp 0), none⟩,
    ⟨(some 41), .sliceStr (.tmp 40) (some (.const (.int .i64 1))) none, none⟩,
    ⟨(some 0), .mov (.tmp 41), none⟩])
  (.seq (.ops [⟨(some 42), .mov (.tmp 0), none⟩,
    ⟨(some 43), .len 0 (.tmp 42), none⟩,
    ⟨(some 44), .bin .lss (.tmp 43) (.const (.int .i64 1)) (some (.int .i64)), none⟩])
  (.cond (.tmp 44)
  (.seq (.ops [⟨(some 45), .mkIface 344 (.const (.int .i64 2)), none⟩,
    ⟨(some 2), .mov (.const (.int .i64 0)), none⟩,
    ⟨(some 3), .mov (.tmp 45), none⟩])
  .ret)
  .skip)))
  .skip))
  (.seq (.ops [⟨(some 6), .mov (.const (.int .i64 0)), none⟩])
  (.seq (.seq (.ops [⟨(some 46), .mov (.tmp 0), none⟩,
    ⟨(some 47), .s2b (.tmp 46), none⟩,
    ⟨(some 48), .len 1 (.tmp 47), none⟩,
    ⟨(some 49), .mov (.const (.int .i64 0)), none⟩])
  (.block 0 (.loop (.seq (.ops [⟨(some 50), .bin .lss (.tmp 49) (.tmp 48) (some (.int .i64)), none⟩])
  (.seq (.cond (.tmp 50)
  .skip
  (.exit 0))
  (.seq (.block 1 (.seq (.ops [⟨(some 51), .indexAddr 1 (.tmp 47) (.tmp 49), none⟩,
    ⟨(some 52), .load false 1 (.tmp 51), none⟩,
    ⟨(some 8), .mov (.tmp 52), none⟩])
  (.seq (.ops [⟨(some 53), .mov (.tmp 8), none⟩,
    ⟨(some 54), .bin .sub (.tmp 53) (.const (.int .u8 48)) (some (.int .u8)), none⟩,
    ⟨(some 8), .mov (.tmp 54), none⟩])
  (.seq (.seq (.ops [⟨(some 55), .mov (.tmp 8), none⟩,
    ⟨(some 56), .bin .gtr (.tmp 55) (.const (.int .u8 9)) (some (.int .u8)), none⟩])
  (.cond (.tmp 56)
  (.seq (.ops [⟨(some 57), .mkIface 344 (.const (.int .i64 2)), none⟩,
    ⟨(some 2), .mov (.const (.int .i64 0)), none⟩,
    ⟨(some 3), .mov (.tmp 57), none⟩])
  .ret)
  .skip))
  (.ops [⟨(some 58), .mov (.tmp 6), none⟩,
    ⟨(some 59), .bin .mul (.tmp 58) (.const (.int .i64 10)) (some (.int .i64)), none⟩,
    ⟨(some 60), .mov (.tmp 8), none⟩,
    ⟨(some 61), .conv .i64 (.tmp 60), none⟩,
    ⟨(some 62), .bin .add (.tmp 59) (.tmp 61) (some (.int .i64)), none⟩,
    ⟨(some 6), .mov (.tmp 62), none⟩])))))
  (.ops [⟨(some 63), .bin .add (.tmp 49) (.const (.int .i64 1)) (some (.int .i64)), none⟩,
    ⟨(some 49), .mov (.tmp 63), none⟩])))))))
  (.seq (.seq (.ops [⟨(some 64), .mov (.tmp 5), none⟩,
    ⟨(some 65), .indexStr (.tmp 64) (.const (.int .i64 0)), none⟩,
    ⟨(some 66), .bin .eql (.tmp 65) (.const (.int .u8 45)) (some (.int .u8)), none⟩])
  (.cond (.tmp 66)
  (.ops [⟨(some 67), .mov (.tmp 6), none⟩,
    ⟨(some 68), .un .neg (.tmp 67), none⟩,
    ⟨(some 6), .mov (.tmp 68), none⟩])
  .skip))
  (.seq (.ops [⟨(some 69), .mov (.tmp 6), none⟩,
    ⟨(some 2), .mov (.tmp 69), none⟩,
    ⟨(some 3), .mov (.const .nilIface), none⟩])
  .ret))))))
  .skip))
  (.seq (.ops [⟨(some 71), .mov (.tmp 0), none⟩,
    ⟨(some 72), .call 209 [(.tmp 71), (.const (.int .i64 10)), (.const (.int .i64 0))], none⟩,
    ⟨(some 70), .mov (.tmp 72), none⟩,
    ⟨(some 73), .extract (.tmp 70) 0, none⟩,
    ⟨(some 74), .extract (.tmp 70) 1, none⟩,
    ⟨(some 9), .mov (.tmp 73), none⟩,
    ⟨(some 10), .mov (.tmp 74), none⟩])
  (.seq (.ops [⟨(some 75), .mov (.tmp 9), none⟩,
    ⟨(some 76), .mov (.tmp 10), none⟩,
    ⟨(some 2), .mov (.tmp 75), none⟩,
    ⟨(some 3), .mov (.tmp 76), none⟩])
  .ret)))))⟩
theorem F233_ok : compF Tryz.prog 233 = some F233 := by kernel_rfl
/-- internal/strconv.lower -/
def F234 : FC := ⟨5, [.tmp 2],
  (.seq (.ops [⟨(some 2), .mov (.const (.int .u8 0)), none⟩])
  (.seq (.ops [⟨(some 3), .mov (.tmp 0), none⟩,
    ⟨(some 4), .bin .or (.tmp 3) (.const (.int .u8 32)) (some (.int .u8)), none⟩,
    ⟨(some 2), .mov (.tmp 4), none⟩])
  .ret))⟩
theorem F234_ok : compF Tryz.prog 234 = some F234 := by kernel_rfl
/-- strconv.syntaxError -/
def F236 : FC := ⟨11, [.tmp 4],
  (.seq (.ops [⟨(some 4), .mov (.const (.pointer none)), none⟩])
  (.seq (.ops [⟨(some 5), .mov (.tmp 0), none⟩,
    ⟨(some 6), .mov (.tmp 1), none⟩,
    ⟨(some 8), .load false 1 (.global 5), none⟩,
    ⟨(some 7), .call 259 [(.tmp 6)], none⟩,
    ⟨none, .again 8 false 1 (.global 5), none⟩,
    ⟨(some 9), .build [(.string ⟨#[]⟩), (.string ⟨#[]⟩), .nilIface] [(0, 1, (.tmp 5)), (1, 1, (.tmp 7)), (2, 1, (.tmp 8))], none⟩,
    ⟨(some 10), .box (.tmp 9), none⟩,
    ⟨(some 4), .mov (.tmp 10), none⟩])
  .ret))⟩
theorem F236_ok : compF Tryz.prog 236 = some F236 := by kernel_rfl
/-- colonnade/kind.Shape -/
def F241 : FC := ⟨20, [.tmp 2, .tmp 3, .tmp 4],
  (.seq (.ops [⟨(some 1), .box (.tmp 0), none⟩,
    ⟨(some 2), .mov (.const (.int .i64 0)), none⟩,
    ⟨(some 3), .mov (.const (.int .i64 0)), none⟩,
    ⟨(some 4), .mov (.const (.int .i64 0)), none⟩])
  (.seq (.seq (.ops [⟨(some 5), .load true 5 (.tmp 1), none⟩,
    ⟨(some 6), .call 262 [(.tmp 5)], none⟩,
    ⟨(some 7), .un .not (.tmp 6), none⟩])
  (.cond (.tmp 7)
  (.seq (.ops [⟨(some 2), .mov (.const (.int .i64 (-1))), none⟩,
    ⟨(some 3), .mov (.const (.int .i64 (-1))), none⟩,
    ⟨(some 4), .mov (.const (.int .i64 (-1))), none⟩])
  .ret)
  .skip))
  (.seq (.seq (.ops [⟨(some 8), .fieldAddr 0 (.tmp 1), none⟩,
    ⟨(some 9), .load false 1 (.tmp 8), none⟩,
    ⟨(some 10), .bin .eql (.tmp 9) (.const (.int .i64 19)) (some (.int .i64)), none⟩])
  (.cond (.tmp 10)
  (.ops [⟨(some 4), .mov (.const (.int .i64 1)), none⟩])
  .skip))
  (.seq (.ops [⟨(some 11), .fieldAddr 0 (.tmp 1), none⟩,
    ⟨(some 12), .load false 1 (.tmp 11), none⟩,
    ⟨(some 13), .indexAddrArr 4 21 (.global 2) (.tmp 12), none⟩,
    ⟨(some 14), .fieldAddr 2 (.tmp 13), none⟩,
    ⟨(some 15), .load false 1 (.tmp 14), none⟩,
    ⟨(some 16), .load true 5 (.tmp 1), none⟩,
    ⟨(some 19), .mov (.tmp 4), none⟩,
    ⟨(some 17), .call 263 [(.tmp 16)], none⟩,
    ⟨none, .again 15 false 1 (.tmp 14), none⟩,
    ⟨none, .again 12 false 1 (.tmp 11), none⟩,
    ⟨(some 18), .len 1 (.tmp 17), none⟩,
    ⟨(some 2), .mov (.tmp 15), none⟩,
    ⟨(some 3), .mov (.tmp 18), none⟩,
    ⟨(some 4), .mov (.tmp 19), none⟩])
  .ret))))⟩
theorem F241_ok : compF Tryz.prog 241 = some F241 := by kernel_rfl
/-- colonnade/array.needs -/
def F242 : FC := ⟨58, [.tmp 8],
  (.seq (.ops [⟨(some 4), .box (.tmp 0), none⟩,
    ⟨(some 8), .mov (.const (.int .i64 0)), none⟩])
  (.seq (.block 0 (.seq (.ops [⟨(some 10), .fieldAddr 0 (.tmp 4), none⟩,
    ⟨(some 11), .load false 1 (.tmp 10), none⟩,
    ⟨(some 12), .bin .eql (.tmp 11) (.const (.int .i64 18)) (some (.int .i64)), none⟩,
    ⟨(some 9), .mov (.tmp 12), none⟩])
  (.cond (.tmp 9)
  (.seq (.ops [⟨(some 13), .mov (.tmp 2), none⟩,
    ⟨(some 14), .mov (.tmp 1), none⟩,
    ⟨(some 15), .bin .mul (.const (.int .i64 3)) (.tmp 14) (some (.int .i64)), none⟩,
    ⟨(some 16), .bin .add (.const (.int .i64 1)) (.tmp 15) (some (.int .i64)), none⟩,
    ⟨(some 17), .bin .mul (.tmp 13) (.tmp 16) (some (.int .i64)), none⟩,
    ⟨(some 8), .mov (.tmp 17), none⟩])
  .ret)
  (.seq (.seq (.ops [⟨(some 19), .mov (.tmp 1), none⟩,
    ⟨(some 20), .bin .eql (.tmp 19) (.const (.int .i64 0)) (some (.int .i64)), none⟩,
    ⟨(some 21), .mov (.tmp 20), none⟩,
    ⟨(some 22), .mov (.tmp 3), (some (21, true))⟩,
    ⟨(some 23), .bin .eql (.tmp 22) (.const (.int .i64 0)) (some (.int .i64)), (some (21, true))⟩,
    ⟨(some 24), .pick (.tmp 21) (.tmp 23) (.const (.bool false)), none⟩,
    ⟨(some 18), .mov (.tmp 24), none⟩])
  (.cond (.tmp 18)
  .skip
  (.ops [⟨(some 25), .mov (.tmp 1), none⟩,
    ⟨(some 26), .bin .eql (.tmp 25) (.const (.int .i64 2)) (some (.int .i64)), none⟩,
    ⟨(some 18), .mov (.tmp 26), none⟩])))
  (.cond (.tmp 18)
  (.seq (.ops [⟨(some 8), .mov (.const (.int .i64 0)), none⟩])
  .ret)
  (.seq (.ops [⟨(some 28), .mov (.tmp 1), none⟩,
    ⟨(some 29), .bin .eql (.tmp 28) (.const (.int .i64 0)) (some (.int .i64)), none⟩,
    ⟨(some 30), .mov (.tmp 29), none⟩,
    ⟨(some 31), .fieldAddr 0 (.tmp 4), (some (30, false))⟩,
    ⟨(some 32), .load false 1 (.tmp 31), (some (30, false))⟩,
    ⟨(some 33), .bin .eql (.tmp 32) (.const (.int .i64 2)) (some (.int .i64)), (some (30, false))⟩,
    ⟨(some 34), .pick (.tmp 30) (.const (.bool true)) (.tmp 33), none⟩,
    ⟨(some 27), .mov (.tmp 34), none⟩])
  (.cond (.tmp 27)
  (.seq (.ops [⟨(some 35), .mov (.tmp 2), none⟩,
    ⟨(some 36), .call 264 [(.tmp 35)], none⟩,
    ⟨(some 8), .mov (.tmp 36), none⟩])
  .ret)
  (.seq (.ops [⟨(some 38), .fieldAddr 0 (.tmp 4), none⟩,
    ⟨(some 39), .load false 1 (.tmp 38), none⟩,
    ⟨(some 40), .bin .eql (.tmp 39) (.const (.int .i64 12)) (some (.int .i64)), none⟩,
    ⟨(some 41), .mov (.tmp 40), none⟩,
    ⟨(some 42), .fieldAddr 0 (.tmp 4), (some (41, false))⟩,
    ⟨(some 43), .load false 1 (.tmp 42), (some (41, false))⟩,
    ⟨(some 44), .bin .eql (.tmp 43) (.const (.int .i64 13)) (some (.int .i64)), (some (41, false))⟩,
    ⟨(some 45), .pick (.tmp 41) (.const (.bool true)) (.tmp 44), none⟩,
    ⟨(some 46), .mov (.tmp 45), none⟩,
    ⟨(some 47), .fieldAddr 0 (.tmp 4), (some (46, false))⟩,
    ⟨(some 48), .load false 1 (.tmp 47), (some (46, false))⟩,
    ⟨(some 49), .bin .eql (.tmp 48) (.const (.int .i64 15)) (some (.int .i64)), (some (46, false))⟩,
    ⟨(some 50), .pick (.tmp 46) (.const (.bool true)) (.tmp 49), none⟩,
    ⟨(some 37), .mov (.tmp 50), none⟩])
  (.cond (.tmp 37)
  (.seq (.ops [⟨(some 51), .mov (.tmp 2), none⟩,
    ⟨(some 52), .bin .add (.tmp 51) (.const (.int .i64 1)) (some (.int .i64)), none⟩,
    ⟨(some 53), .bin .mul (.const (.int .i64 4)) (.tmp 52) (some (.int .i64)), none⟩,
    ⟨(some 8), .mov (.tmp 53), none⟩])
  .ret)
  .skip)))))))))
  (.seq (.ops [⟨(some 54), .mov (.tmp 2), none⟩,
    ⟨(some 55), .load true 5 (.tmp 4), none⟩,
    ⟨(some 56), .call 265 [(.tmp 55)], none⟩,
    ⟨(some 57), .bin .mul (.tmp 54) (.tmp 56) (some (.int .i64)), none⟩,
    ⟨(some 8), .mov (.tmp 57), none⟩])
  .ret)))⟩
theorem F242_ok : compF Tryz.prog 242 = some F242 := by kernel_rfl
/-- colonnade/array.nulls -/
def F243 : FC := ⟨24, [.cell 4 true 3],
  (.seq (.ops [⟨(some 2), .box (.tmp 0), none⟩,
    ⟨(some 3), .box (.tmp 1), none⟩,
    ⟨(some 4), .alloc [(.int .i64 0), (.slice none 0 0), (.int .i64 0)], none⟩])
  (.seq (.seq (.ops [⟨(some 6), .load true 7 (.tmp 2), none⟩,
    ⟨(some 7), .load true 6 (.tmp 3), none⟩,
    ⟨(some 8), .call 266 [(.tmp 6), (.tmp 7)], none⟩,
    ⟨(some 5), .mov (.tmp 8), none⟩])
  (.seq (.ops [⟨(some 9), .fieldAddr 2 (.tmp 3), none⟩,
    ⟨(some 10), .load false 1 (.tmp 9), none⟩,
    ⟨(some 11), .mov (.tmp 5), none⟩,
    ⟨(some 12), .bin .neq (.tmp 10) (.tmp 11) (some (.int .i64)), none⟩,
    ⟨(some 13), .mov (.tmp 12), none⟩,
    ⟨(some 14), .mov (.tmp 5), (some (13, false))⟩,
    ⟨(some 15), .bin .gtr (.tmp 14) (.const (.int .i64 0)) (some (.int .i64)), (some (13, false))⟩,
    ⟨(some 16), .mov (.tmp 15), (some (13, false))⟩,
    ⟨(some 17), .fieldAddr 1 (.tmp 2), (some (16, true))⟩,
    ⟨(some 18), .load false 1 (.tmp 17), (some (16, true))⟩,
    ⟨(some 19), .un .not (.tmp 18), (some (16, true))⟩,
    ⟨(some 20), .pick (.tmp 16) (.tmp 19) (.const (.bool false)), (some (13, false))⟩,
    ⟨(some 21), .pick (.tmp 13) (.const (.bool true)) (.tmp 20), none⟩])
  (.cond (.tmp 21)
  (.seq (.ops [⟨(some 22), .call 180 [(.const (.int .i64 81)), (.const (.int .i64 1))], none⟩,
    ⟨none, .store 3 (.tmp 4) (.tmp 22), none⟩])
  .ret)
  .skip)))
  (.seq (.ops [⟨(some 23), .build [(.int .i64 0), (.slice none 0 0), (.int .i64 0)] [], none⟩,
    ⟨none, .store 3 (.tmp 4) (.tmp 23), none⟩])
  .ret)))⟩
theorem F243_ok : compF Tryz.prog 243 = some F243 := by kernel_rfl
/-- colonnade/array.offsets -/
def F244 : FC := ⟨97, [.cell 4 true 3],
  (.seq (.ops [⟨(some 2), .box (.tmp 0), none⟩,
    ⟨(some 3), .box (.tmp 1), none⟩,
    ⟨(some 4), .alloc [(.int .i64 0), (.slice none 0 0), (.int .i64 0)], none⟩])
  (.seq (.ops [⟨(some 5), .mov (.const (.int .i64 0)), none⟩])
  (.seq (.seq (.ops [⟨(some 11), .fieldAddr 2 (.tmp 2), none⟩,
    ⟨(some 12), .fieldAddr 0 (.tmp 11), none⟩,
    ⟨(some 13), .load false 1 (.tmp 12), none⟩,
    ⟨(some 14), .bin .eql (.tmp 13) (.const (.int .i64 15)) (some (.int .i64)), none⟩])
  (.cond (.tmp 14)
  (.ops [⟨(some 15), .fieldAddr 4 (.tmp 3), none⟩,
    ⟨(some 16), .load false 1 (.tmp 15), none⟩,
    ⟨(some 17), .indexAddr 6 (.tmp 16) (.const (.int .i64 0)), none⟩,
    ⟨(some 18), .fieldAddr 0 (.tmp 17), none⟩,
    ⟨(some 19), .load false 1 (.tmp 18), none⟩,
    ⟨(some 5), .mov (.tmp 19), none⟩])
  (.ops [⟨(some 20), .fieldAddr 3 (.tmp 3), none⟩,
    ⟨(some 21), .load false 1 (.tmp 20), none⟩,
    ⟨(some 22), .indexAddr 1 (.tmp 21) (.const (.int .i64 2)), none⟩,
    ⟨(some 23), .load false 1 (.tmp 22), none⟩,
    ⟨(some 24), .len 1 (.tmp 23), none⟩,
    ⟨(some 5), .mov (.tmp 24), none⟩])))
  (.seq (.ops [⟨(some 6), .mov (.const (.int .i64 0)), none⟩])
  (.seq (.seq (.ops [⟨(some 25), .fieldAddr 0 (.tmp 3), none⟩,
    ⟨(some 26), .load false 1 (.tmp 25), none⟩,
    ⟨(some 27), .bin .add (.tmp 26) (.const (.int .i64 1)) (some (.int .i64)), none⟩,
    ⟨(some 28), .mov (.const (.int .i64 0)), none⟩])
  (.block 0 (.loop (.seq (.ops [⟨(some 29), .bin .lss (.tmp 28) (.tmp 27) (some (.int .i64)), none⟩])
  (.seq (.cond (.tmp 29)
  .skip
  (.exit 0))
  (.seq (.block 1 (.seq (.ops [⟨(some 30), .mov (.tmp 28), none⟩,
    ⟨(some 7), .mov (.tmp 30), none⟩])
  (.seq (.ops [⟨(some 31), .fieldAddr 3 (.tmp 3), none⟩,
    ⟨(some 32), .load false 1 (.tmp 31), none⟩,
    ⟨(some 33), .indexAddr 1 (.tmp 32) (.const (.int .i64 1)), none⟩,
    ⟨(some 34), .load false 1 (.tmp 33), none⟩,
    ⟨(some 35), .fieldAddr 1 (.tmp 3), none⟩,
    ⟨(some 36), .load false 1 (.tmp 35), none⟩,
    ⟨(some 37), .mov (.tmp 7), none⟩,
    ⟨(some 38), .bin .add (.tmp 36) (.tmp 37) (some (.int .i64)), none⟩,
    ⟨(some 39), .call 245 [(.tmp 34), (.tmp 38)], none⟩,
    ⟨(some 8), .mov (.tmp 39), none⟩])
  (.seq (.seq (.ops [⟨(some 40), .mov (.tmp 8), none⟩,
    ⟨(some 41), .mov (.tmp 6), none⟩,
    ⟨(some 42), .bin .lss (.tmp 40) (.tmp 41) (some (.int .i64)), none⟩,
    ⟨(some 43), .mov (.tmp 42), none⟩,
    ⟨(some 44), .mov (.tmp 8), (some (43, false))⟩,
    ⟨(some 45), .mov (.tmp 5), (some (43, false))⟩,
    ⟨(some 46), .bin .gtr (.tmp 44) (.tmp 45) (some (.int .i64)), (some (43, false))⟩,
    ⟨(some 47), .pick (.tmp 43) (.const (.bool true)) (.tmp 46), none⟩])
  (.cond (.tmp 47)
  (.seq (.ops [⟨(some 48), .mov (.tmp 7), none⟩,
    ⟨(some 49), .call 180 [(.const (.int .i64 83)), (.tmp 48)], none⟩,
    ⟨none, .store 3 (.tmp 4) (.tmp 49), none⟩])
  .ret)
  .skip))
  (.ops [⟨(some 50), .mov (.tmp 8), none⟩,
    ⟨(some 6), .mov (.tmp 50), none⟩])))))
  (.ops [⟨(some 51), .bin .add (.tmp 28) (.const (.int .i64 1)) (some (.int .i64)), none⟩,
    ⟨(some 28), .mov (.tmp 51), none⟩])))))))
  (.seq (.seq (.ops [⟨(some 52), .fieldAddr 2 (.tmp 2), none⟩,
    ⟨(some 53), .fieldAddr 0 (.tmp 52), none⟩,
    ⟨(some 54), .load false 1 (.tmp 53), none⟩,
    ⟨(some 55), .bin .neq (.tmp 54) (.const (.int .i64 12)) (some (.int .i64)), none⟩])
  (.cond (.tmp 55)
  (.seq (.ops [⟨(some 56), .build [(.int .i64 0), (.slice none 0 0), (.int .i64 0)] [], none⟩,
    ⟨none, .store 3 (.tmp 4) (.tmp 56), none⟩])
  .ret)
  .skip))
  (.seq (.seq (.ops [⟨(some 57), .fieldAddr 0 (.tmp 3), none⟩,
    ⟨(some 58), .load false 1 (.tmp 57), none⟩,
    ⟨(some 59), .mov (.const (.int .i64 0)), none⟩])
  (.block 2 (.loop (.seq (.ops [⟨(some 60), .bin .lss (.tmp 59) (.tmp 58) (some (.int .i64)), none⟩])
  (.seq (.cond (.tmp 60)
  .skip
  (.exit 2))
  (.seq (.block 3 (.seq (.ops [⟨(some 61), .mov (.tmp 59), none⟩,
    ⟨(some 9), .mov (.tmp 61), none⟩])
  (.seq (.ops [⟨(some 62), .fieldAddr 1 (.tmp 3), none⟩,
    ⟨(some 63), .load false 1 (.tmp 62), none⟩,
    ⟨(some 64), .mov (.tmp 9), none⟩,
    ⟨(some 65), .bin .add (.tmp 63) (.tmp 64) (some (.int .i64)), none⟩,
    ⟨(some 10), .mov (.tmp 65), none⟩])
  (.seq (.ops [⟨(some 66), .load true 7 (.tmp 2), none⟩,
    ⟨(some 67), .load true 6 (.tmp 3), none⟩,
    ⟨(some 68), .mov (.tmp 10), none⟩,
    ⟨(some 69), .call 246 [(.tmp 66), (.tmp 67), (.tmp 68)], none⟩,
    ⟨(some 70), .un .not (.tmp 69), none⟩,
    ⟨(some 71), .mov (.tmp 70), none⟩,
    ⟨(some 72), .fieldAddr 3 (.tmp 3), (some (71, true))⟩,
    ⟨(some 73), .load false 1 (.tmp 72), (some (71, true))⟩,
    ⟨(some 74), .indexAddr 1 (.tmp 73) (.const (.int .i64 2)), (some (71, true))⟩,
    ⟨(some 75), .load false 1 (.tmp 74), (some (71, true))⟩,
    ⟨(some 76), .fieldAddr 3 (.tmp 3), (some (71, true))⟩,
    ⟨(some 77), .load false 1 (.tmp 76), (some (71, true))⟩,
    ⟨(some 78), .indexAddr 1 (.tmp 77) (.const (.int .i64 1)), (some (71, true))⟩,
    ⟨(some 79), .load false 1 (.tmp 78), (some (71, true))⟩,
    ⟨(some 80), .mov (.tmp 10), (some (71, true))⟩,
    ⟨(some 82), .fieldAddr 3 (.tmp 3), (some (71, true))⟩,
    ⟨(some 83), .load false 1 (.tmp 82), (some (71, true))⟩,
    ⟨(some 84), .indexAddr 1 (.tmp 83) (.const (.int .i64 1)), (some (71, true))⟩,
    ⟨(some 85), .load false 1 (.tmp 84), (some (71, true))⟩,
    ⟨(some 86), .mov (.tmp 10), (some (71, true))⟩,
    ⟨(some 87), .bin .add (.tmp 86) (.const (.int .i64 1)) (some (.int .i64)), (some (71, true))⟩,
    ⟨(some 81), .call 245 [(.tmp 79), (.tmp 80)], (some (71, true))⟩,
    ⟨none, .again 85 false 1 (.tmp 84), (some (71, true))⟩,
    ⟨none, .again 83 false 1 (.tmp 82), (some (71, true))⟩,
    ⟨none, .again 75 false 1 (.tmp 74), (some (71, true))⟩,
    ⟨none, .again 73 false 1 (.tmp 72), (some (71, true))⟩,
    ⟨(some 88), .call 245 [(.tmp 85), (.tmp 87)], (some (71, true))⟩,
    ⟨none, .again 75 false 1 (.tmp 74), (some (71, true))⟩,
    ⟨none, .again 73 false 1 (.tmp 72), (some (71, true))⟩,
    ⟨(some 89), .slice 1 (.tmp 75) (some (.tmp 81)) (some (.tmp 88)) none, (some (71, true))⟩,
    ⟨(some 90), .call 267 [(.tmp 89)], (some (71, true))⟩,
    ⟨(some 91), .un .not (.tmp 90), (some (71, true))⟩,
    ⟨(some 92), .pick (.tmp 71) (.tmp 91) (.const (.bool false)), none⟩])
  (.cond (.tmp 92)
  (.seq (.ops [⟨(some 93), .mov (.tmp 9), none⟩,
    ⟨(some 94), .call 180 [(.const (.int .i64 84)), (.tmp 93)], none⟩,
    ⟨none, .store 3 (.tmp 4) (.tmp 94), none⟩])
  .ret)
  .skip)))))
  (.ops [⟨(some 95), .bin .add (.tmp 59) (.const (.int .i64 1)) (some (.int .i64)), none⟩,
    ⟨(some 59), .mov (.tmp 95), none⟩])))))))
  (.seq (.ops [⟨(some 96), .build [(.int .i64 0), (.slice none 0 0), (.int .i64 0)] [], none⟩,
    ⟨none, .store 3 (.tmp 4) (.tmp 96), none⟩])
  .ret))))))))⟩
theorem F244_ok : compF Tryz.prog 244 = some F244 := by kernel_rfl
/-- colonnade/array.signed -/
def F245 : FC := ⟨33, [.tmp 4],
  (.seq (.ops [⟨(some 4), .mov (.const (.int .i64 0)), none⟩])
  (.seq (.ops [⟨(some 5), .mov (.tmp 0), none⟩,
    ⟨(some 6), .mov (.tmp 1), none⟩,
    ⟨(some 7), .bin .mul (.const (.int .i64 4)) (.tmp 6) (some (.int .i64)), none⟩,
    ⟨(some 8), .slice 1 (.tmp 5) (some (.tmp 7)) none none, none⟩,
    ⟨(some 0), .mov (.tmp 8), none⟩])
  (.seq (.ops [⟨(some 9), .mov (.tmp 0), none⟩,
    ⟨(some 10), .indexAddr 1 (.tmp 9) (.const (.int .i64 0)), none⟩,
    ⟨(some 11), .load false 1 (.tmp 10), none⟩,
    ⟨(some 12), .conv .u32 (.tmp 11), none⟩,
    ⟨(some 13), .mov (.tmp 0), none⟩,
    ⟨(some 14), .indexAddr 1 (.tmp 13) (.const (.int .i64 1)), none⟩,
    ⟨(some 15), .load false 1 (.tmp 14), none⟩,
    ⟨(some 16), .conv .u32 (.tmp 15), none⟩,
    ⟨(some 17), .bin .shl (.tmp 16) (.const (.int .u64 8)) (some (.int .u32)), none⟩,
    ⟨(some 18), .bin .or (.tmp 12) (.tmp 17) (some (.int .u32)), none⟩,
    ⟨(some 19), .mov (.tmp 0), none⟩,
    ⟨(some 20), .indexAddr 1 (.tmp 19) (.const (.int .i64 2)), none⟩,
    ⟨(some 21), .load false 1 (.tmp 20), none⟩,
    ⟨(some 22), .conv .u32 (.tmp 21), none⟩,
    ⟨(some 23), .bin .shl (.tmp 22) (.const (.int .u64 16)) (some (.int .u32)), none⟩,
    ⟨(some 24), .bin .or (.tmp 18) (.tmp 23) (some (.int .u32)), none⟩,
    ⟨(some 25), .mov (.tmp 0), none⟩,
    ⟨(some 26), .indexAddr 1 (.tmp 25) (.const (.int .i64 3)), none⟩,
    ⟨(some 27), .load false 1 (.tmp 26), none⟩,
    ⟨(some 28), .conv .u32 (.tmp 27), none⟩,
    ⟨(some 29), .bin .shl (.tmp 28) (.const (.int .u64 24)) (some (.int .u32)), none⟩,
    ⟨(some 30), .bin .or (.tmp 24) (.tmp 29) (some (.int .u32)), none⟩,
    ⟨(some 31), .conv .i32 (.tmp 30), none⟩,
    ⟨(some 32), .conv .i64 (.tmp 31), none⟩,
    ⟨(some 4), .mov (.tmp 32), none⟩])
  .ret)))⟩
theorem F245_ok : compF Tryz.prog 245 = some F245 := by kernel_rfl
/-- colonnade/array.null -/
def F246 : FC := ⟨37, [.tmp 6],
  (.seq (.ops [⟨(some 3), .box (.tmp 0), none⟩,
    ⟨(some 4), .box (.tmp 1), none⟩,
    ⟨(some 6), .mov (.const (.bool false)), none⟩])
  (.seq (.seq (.ops [⟨(some 9), .fieldAddr 2 (.tmp 3), none⟩,
    ⟨(some 10), .fieldAddr 0 (.tmp 9), none⟩,
    ⟨(some 11), .load false 1 (.tmp 10), none⟩,
    ⟨(some 12), .bin .eql (.tmp 11) (.const (.int .i64 1)) (some (.int .i64)), none⟩])
  (.cond (.tmp 12)
  (.seq (.ops [⟨(some 6), .mov (.const (.bool true)), none⟩])
  .ret)
  .skip))
  (.seq (.seq (.ops [⟨(some 13), .fieldAddr 2 (.tmp 3), none⟩,
    ⟨(some 14), .fieldAddr 0 (.tmp 13), none⟩,
    ⟨(some 15), .load false 1 (.tmp 14), none⟩,
    ⟨(some 16), .call 221 [(.tmp 15)], none⟩,
    ⟨(some 17), .un .not (.tmp 16), none⟩,
    ⟨(some 18), .mov (.tmp 17), none⟩,
    ⟨(some 19), .fieldAddr 3 (.tmp 4), (some (18, false))⟩,
    ⟨(some 20), .load false 1 (.tmp 19), (some (18, false))⟩,
    ⟨(some 21), .indexAddr 1 (.tmp 20) (.const (.int .i64 0)), (some (18, false))⟩,
    ⟨(some 22), .load false 1 (.tmp 21), (some (18, false))⟩,
    ⟨(some 23), .len 1 (.tmp 22), (some (18, false))⟩,
    ⟨(some 24), .bin .eql (.tmp 23) (.const (.int .i64 0)) (some (.int .i64)), (some (18, false))⟩,
    ⟨(some 25), .pick (.tmp 18) (.const (.bool true)) (.tmp 24), none⟩])
  (.cond (.tmp 25)
  (.seq (.ops [⟨(some 6), .mov (.const (.bool false)), none⟩])
  .ret)
  .skip))
  (.seq (.ops [⟨(some 27), .fieldAddr 3 (.tmp 4), none⟩,
    ⟨(some 28), .load false 1 (.tmp 27), none⟩,
    ⟨(some 29), .indexAddr 1 (.tmp 28) (.const (.int .i64 0)), none⟩,
    ⟨(some 30), .load false 1 (.tmp 29), none⟩,
    ⟨(some 31), .mov (.tmp 2), none⟩,
    ⟨(some 32), .call 268 [(.tmp 30), (.tmp 31)], none⟩,
    ⟨(some 26), .mov (.tmp 32), none⟩,
    ⟨(some 33), .extract (.tmp 26) 0, none⟩,
    ⟨(some 34), .extract (.tmp 26) 1, none⟩,
    ⟨(some 7), .mov (.tmp 33), none⟩,
    ⟨(some 8), .mov (.tmp 34), none⟩])
  (.seq (.ops [⟨(some 35), .mov (.tmp 7), none⟩,
    ⟨(some 36), .un .not (.tmp 35), none⟩,
    ⟨(some 6), .mov (.tmp 36), none⟩])
  .ret)))))⟩
theorem F246_ok : compF Tryz.prog 246 = some F246 := by kernel_rfl
/-- colonnade/array.slice -/
def F248 : FC := ⟨16, [.tmp 6],
  (.seq (.ops [⟨(some 6), .mov (.const (.slice none 0 0)), none⟩])
  (.seq (.seq (.ops [⟨(some 7), .mov (.tmp 1), none⟩,
    ⟨(some 8), .mov (.tmp 2), none⟩,
    ⟨(some 9), .bin .eql (.tmp 7) (.tmp 8) (some (.int .i64)), none⟩])
  (.cond (.tmp 9)
  (.seq (.ops [⟨(some 6), .mov (.const (.slice none 0 0)), none⟩])
  .ret)
  .skip))
  (.seq (.ops [⟨(some 10), .mov (.tmp 0), none⟩,
    ⟨(some 11), .indexAddr 1 (.tmp 10) (.const (.int .i64 0)), none⟩,
    ⟨(some 12), .load false 1 (.tmp 11), none⟩,
    ⟨(some 13), .mov (.tmp 1), none⟩,
    ⟨(some 14), .mov (.tmp 2), none⟩,
    ⟨(some 15), .slice 1 (.tmp 12) (some (.tmp 13)) (some (.tmp 14)) none, none⟩,
    ⟨(some 6), .mov (.tmp 15), none⟩])
  .ret)))⟩
theorem F248_ok : compF Tryz.prog 248 = some F248 := by kernel_rfl
/-- colonnade/view.Of -/
def F249 : FC := ⟨10, [.cell 2 true 3],
  (.seq (.ops [⟨(some 2), .alloc [(.slice none 0 0), (.int .i64 0), (.pointer none)], none⟩])
  (.seq (.ops [⟨(some 3), .mov (.tmp 0), none⟩,
    ⟨(some 4), .mov (.tmp 0), none⟩,
    ⟨(some 5), .len 1 (.tmp 4), none⟩,
    ⟨(some 6), .mov (.tmp 0), none⟩,
    ⟨(some 7), .len 1 (.tmp 6), none⟩,
    ⟨(some 8), .slice 1 (.tmp 3) none (some (.tmp 5)) (some (.tmp 7)), none⟩,
    ⟨(some 9), .build [(.slice none 0 0), (.int .i64 0), (.pointer none)] [(0, 1, (.tmp 8))], none⟩,
    ⟨none, .store 3 (.tmp 2) (.tmp 9), none⟩])
  .ret))⟩
theorem F249_ok : compF Tryz.prog 249 = some F249 := by kernel_rfl
/-- (colonnade/view.View).Watched -/
def F250 : FC := ⟨8, [.cell 4 true 3],
  (.seq (.ops [⟨(some 2), .box (.tmp 0), none⟩,
    ⟨(some 4), .alloc [(.slice none 0 0), (.int .i64 0), (.pointer none)], none⟩])
  (.seq (.ops [⟨(some 5), .mov (.tmp 1), none⟩,
    ⟨(some 6), .fieldAddr 2 (.tmp 2), none⟩,
    ⟨none, .store 1 (.tmp 6) (.tmp 5), none⟩])
  (.seq (.ops [⟨(some 7), .load true 3 (.tmp 2), none⟩,
    ⟨none, .store 3 (.tmp 4) (.tmp 7), none⟩])
  .ret)))⟩
theorem F250_ok : compF Tryz.prog 250 = some F250 := by kernel_rfl
/-- (colonnade/view.View).there -/
def F251 : FC := ⟨29, [.tmp 6],
  (.seq (.ops [⟨(some 3), .box (.tmp 0), none⟩,
    ⟨(some 6), .mov (.const (.bool false)), none⟩])
  (.seq (.ops [⟨(some 7), .mov (.tmp 1), none⟩,
    ⟨(some 8), .bin .geq (.tmp 7) (.const (.int .i64 0)) (some (.int .i64)), none⟩,
    ⟨(some 9), .mov (.tmp 8), none⟩,
    ⟨(some 10), .mov (.tmp 2), (some (9, true))⟩,
    ⟨(some 11), .bin .geq (.tmp 10) (.const (.int .i64 0)) (some (.int .i64)), (some (9, true))⟩,
    ⟨(some 12), .pick (.tmp 9) (.tmp 11) (.const (.bool false)), none⟩,
    ⟨(some 13), .mov (.tmp 12), none⟩,
    ⟨(some 14), .mov (.tmp 1), (some (13, true))⟩,
    ⟨(some 15), .fieldAddr 0 (.tmp 3), (some (13, true))⟩,
    ⟨(some 16), .load false 1 (.tmp 15), (some (13, true))⟩,
    ⟨(some 17), .len 1 (.tmp 16), (some (13, true))⟩,
    ⟨(some 18), .bin .leq (.tmp 14) (.tmp 17) (some (.int .i64)), (some (13, true))⟩,
    ⟨(some 19), .pick (.tmp 13) (.tmp 18) (.const (.bool false)), none⟩,
    ⟨(some 20), .mov (.tmp 19), none⟩,
    ⟨(some 21), .mov (.tmp 2), (some (20, true))⟩,
    ⟨(some 22), .fieldAddr 0 (.tmp 3), (some (20, true))⟩,
    ⟨(some 23), .load false 1 (.tmp 22), (some (20, true))⟩,
    ⟨(some 24), .len 1 (.tmp 23), (some (20, true))⟩,
    ⟨(some 25), .mov (.tmp 1), (some (20, true))⟩,
    ⟨(some 26), .bin .sub (.tmp 24) (.tmp 25) (some (.int .i64)), (some (20, true))⟩,
    ⟨(some 27), .bin .leq (.tmp 21) (.tmp 26) (some (.int .i64)), (some (20, true))⟩,
    ⟨(some 28), .pick (.tmp 20) (.tmp 27) (.const (.bool false)), none⟩,
    ⟨(some 6), .mov (.tmp 28), none⟩])
  .ret))⟩
theorem F251_ok : compF Tryz.prog 251 = some F251 := by kernel_rfl
/-- (colonnade/view.View).read -/
def F252 : FC := ⟨46, [.tmp 6],
  (.seq (.ops [⟨(some 3), .box (.tmp 0), none⟩,
    ⟨(some 6), .mov (.const (.slice none 0 0)), none⟩])
  (.seq (.seq (.ops [⟨(some 7), .fieldAddr 2 (.tmp 3), none⟩,
    ⟨(some 8), .load false 1 (.tmp 7), none⟩,
    ⟨(some 9), .bin .neq (.tmp 8) (.const (.pointer none)) (some (.pointer 382)), none⟩,
    ⟨(some 10), .mov (.tmp 9), none⟩,
    ⟨(some 11), .mov (.tmp 2), (some (10, true))⟩,
    ⟨(some 12), .bin .gtr (.tmp 11) (.const (.int .i64 0)) (some (.int .i64)), (some (10, true))⟩,
    ⟨(some 13), .pick (.tmp 10) (.tmp 12) (.const (.bool false)), none⟩])
  (.cond (.tmp 13)
  (.ops [⟨(some 14), .fieldAddr 2 (.tmp 3), none⟩,
    ⟨(some 15), .load false 1 (.tmp 14), none⟩,
    ⟨(some 16), .fieldAddr 2 (.tmp 3), none⟩,
    ⟨(some 17), .load false 1 (.tmp 16), none⟩,
    ⟨(some 18), .nilCheck (.tmp 17), none⟩,
    ⟨(some 19), .fieldAddr 0 (.tmp 18), none⟩,
    ⟨(some 20), .load false 1 (.tmp 19), none⟩,
    ⟨(some 21), .fieldAddr 1 (.tmp 3), none⟩,
    ⟨(some 22), .load false 1 (.tmp 21), none⟩,
    ⟨(some 23), .mov (.tmp 1), none⟩,
    ⟨(some 24), .bin .add (.tmp 22) (.tmp 23) (some (.int .i64)), none⟩,
    ⟨(some 25), .fieldAddr 1 (.tmp 3), none⟩,
    ⟨(some 26), .load false 1 (.tmp 25), none⟩,
    ⟨(some 27), .mov (.tmp 1), none⟩,
    ⟨(some 28), .bin .add (.tmp 26) (.tmp 27) (some (.int .i64)), none⟩,
    ⟨(some 29), .mov (.tmp 2), none⟩,
    ⟨(some 30), .bin .add (.tmp 28) (.tmp 29) (some (.int .i64)), none⟩,
    ⟨(some 31), .build [(.int .i64 0), (.int .i64 0)] [(0, 1, (.tmp 24)), (1, 1, (.tmp 30))], none⟩,
    ⟨(some 32), .buildSlice 2 1 [(.int .i64 0), (.int .i64 0)] [(0, 2, (.tmp 31))], none⟩,
    ⟨none, .again 20 false 1 (.tmp 19), none⟩,
    ⟨none, .again 17 false 1 (.tmp 16), none⟩,
    ⟨none, .again 15 false 1 (.tmp 14), none⟩,
    ⟨(some 33), .append 2 16 (.tmp 20) (.tmp 32), none⟩,
    ⟨none, .again 15 false 1 (.tmp 14), none⟩,
    ⟨(some 34), .nilCheck (.tmp 15), none⟩,
    ⟨(some 35), .fieldAddr 0 (.tmp 34), none⟩,
    ⟨none, .store 1 (.tmp 35) (.tmp 33), none⟩])
  .skip))
  (.seq (.ops [⟨(some 36), .fieldAddr 0 (.tmp 3), none⟩,
    ⟨(some 37), .load false 1 (.tmp 36), none⟩,
    ⟨(some 38), .mov (.tmp 1), none⟩,
    ⟨(some 39), .mov (.tmp 1), none⟩,
    ⟨(some 40), .mov (.tmp 2), none⟩,
    ⟨(some 41), .bin .add (.tmp 39) (.tmp 40) (some (.int .i64)), none⟩,
    ⟨(some 42), .mov (.tmp 1), none⟩,
    ⟨(some 43), .mov (.tmp 2), none⟩,
    ⟨(some 44), .bin .add (.tmp 42) (.tmp 43) (some (.int .i64)), none⟩,
    ⟨(some 45), .slice 1 (.tmp 37) (some (.tmp 38)) (some (.tmp 41)) (some (.tmp 44)), none⟩,
    ⟨(some 6), .mov (.tmp 45), none⟩])
  .ret)))⟩
theorem F252_ok : compF Tryz.prog 252 = some F252 := by kernel_rfl
/-- colonnade/kind.mayType -/
def F262 : FC := ⟨8, [.tmp 2],
  (.seq (.ops [⟨(some 1), .box (.tmp 0), none⟩,
    ⟨(some 2), .mov (.const (.bool false)), none⟩])
  (.seq (.ops [⟨(some 3), .load true 5 (.tmp 1), none⟩,
    ⟨(some 4), .call 274 [(.tmp 3)], none⟩,
    ⟨(some 5), .call 106 [(.tmp 4)], none⟩,
    ⟨(some 6), .field false 0 1 (.tmp 5), none⟩,
    ⟨(some 7), .bin .eql (.tmp 6) (.const (.int .i64 0)) (some (.int .i64)), none⟩,
    ⟨(some 2), .mov (.tmp 7), none⟩])
  .ret))⟩
theorem F262_ok : compF Tryz.prog 262 = some F262 := by kernel_rfl
/-- colonnade/kind.Parts -/
def F263 : FC := ⟨24, [.tmp 2],
  (.seq (.ops [⟨(some 1), .box (.tmp 0), none⟩,
    ⟨(some 2), .mov (.const (.slice none 0 0)), none⟩])
  (.seq (.seq (.ops [⟨(some 4), .load true 5 (.tmp 1), none⟩,
    ⟨(some 5), .call 262 [(.tmp 4)], none⟩,
    ⟨(some 6), .un .not (.tmp 5), none⟩,
    ⟨(some 7), .mov (.tmp 6), none⟩,
    ⟨(some 8), .fieldAddr 0 (.tmp 1), (some (7, false))⟩,
    ⟨(some 9), .load false 1 (.tmp 8), (some (7, false))⟩,
    ⟨(some 10), .bin .eql (.tmp 9) (.const (.int .i64 19)) (some (.int .i64)), (some (7, false))⟩,
    ⟨(some 11), .pick (.tmp 7) (.const (.bool true)) (.tmp 10), none⟩])
  (.cond (.tmp 11)
  (.seq (.ops [⟨(some 2), .mov (.const (.slice none 0 0)), none⟩])
  .ret)
  .skip))
  (.seq (.ops [⟨(some 12), .fieldAddr 4 (.tmp 1), none⟩,
    ⟨(some 13), .load false 1 (.tmp 12), none⟩,
    ⟨(some 14), .call 275 [(.tmp 13)], none⟩,
    ⟨(some 3), .mov (.tmp 14), none⟩])
  (.seq (.seq (.ops [⟨(some 15), .fieldAddr 0 (.tmp 1), none⟩,
    ⟨(some 16), .load false 1 (.tmp 15), none⟩,
    ⟨(some 17), .bin .eql (.tmp 16) (.const (.int .i64 20)) (some (.int .i64)), none⟩])
  (.cond (.tmp 17)
  (.ops [⟨(some 18), .build [(.int .i64 0), (.int .i64 0), (.int .i64 0), (.int .i64 0), (.slice none 0 0)] [(0, 1, (.const (.int .i64 5)))], none⟩,
    ⟨(some 19), .build [(.string ⟨#[]⟩), (.bool false), (.int .i64 0), (.int .i64 0), (.int .i64 0), (.int .i64 0), (.slice none 0 0)] [(0, 1, (.const (.string ⟨#[101, 110, 100, 115]⟩))), (2, 5, (.tmp 18))], none⟩,
    ⟨(some 20), .buildSlice 7 1 [(.string ⟨#[]⟩), (.bool false), (.int .i64 0), (.int .i64 0), (.int .i64 0), (.int .i64 0), (.slice none 0 0)] [(0, 7, (.tmp 19))], none⟩,
    ⟨(some 21), .mov (.tmp 3), none⟩,
    ⟨(some 22), .append 7 80 (.tmp 20) (.tmp 21), none⟩,
    ⟨(some 3), .mov (.tmp 22), none⟩])
  .skip))
  (.seq (.ops [⟨(some 23), .mov (.tmp 3), none⟩,
    ⟨(some 2), .mov (.tmp 23), none⟩])
  .ret)))))⟩
theorem F263_ok : compF Tryz.prog 263 = some F263 := by kernel_rfl
/-- colonnade/bits.Need -/
def F264 : FC := ⟨9, [.tmp 2],
  (.seq (.ops [⟨(some 2), .mov (.const (.int .i64 0)), none⟩])
  (.seq (.seq (.ops [⟨(some 3), .mov (.tmp 0), none⟩,
    ⟨(some 4), .bin .leq (.tmp 3) (.const (.int .i64 0)) (some (.int .i64)), none⟩])
  (.cond (.tmp 4)
  (.seq (.ops [⟨(some 2), .mov (.const (.int .i64 0)), none⟩])
  .ret)
  .skip))
  (.seq (.ops [⟨(some 5), .mov (.tmp 0), none⟩,
    ⟨(some 6), .bin .sub (.tmp 5) (.const (.int .i64 1)) (some (.int .i64)), none⟩,
    ⟨(some 7), .bin .quo (.tmp 6) (.const (.int .i64 8)) (some (.int .i64)), none⟩,
    ⟨(some 8), .bin .add (.tmp 7) (.const (.int .i64 1)) (some (.int .i64)), none⟩,
    ⟨(some 2), .mov (.tmp 8), none⟩])
  .ret)))⟩
theorem F264_ok : compF Tryz.prog 264 = some F264 := by kernel_rfl
/-- colonnade/kind.Width -/
def F265 : FC := ⟨24, [.tmp 2],
  (.seq (.ops [⟨(some 1), .box (.tmp 0), none⟩,
    ⟨(some 2), .mov (.const (.int .i64 0)), none⟩])
  (.seq (.seq (.ops [⟨(some 3), .load true 5 (.tmp 1), none⟩,
    ⟨(some 4), .call 262 [(.tmp 3)], none⟩,
    ⟨(some 5), .un .not (.tmp 4), none⟩])
  (.cond (.tmp 5)
  (.seq (.ops [⟨(some 2), .mov (.const (.int .i64 0)), none⟩])
  .ret)
  .skip))
  (.seq (.seq (.ops [⟨(some 6), .fieldAddr 0 (.tmp 1), none⟩,
    ⟨(some 7), .load false 1 (.tmp 6), none⟩])
  (.block 0 (.seq (.ops [⟨(some 9), .bin .eql (.tmp 7) (.const (.int .i64 14)) (some (.int .i64)), none⟩,
    ⟨(some 8), .mov (.tmp 9), none⟩])
  (.cond (.tmp 8)
  (.seq (.ops [⟨(some 10), .fieldAddr 1 (.tmp 1), none⟩,
    ⟨(some 11), .load false 1 (.tmp 10), none⟩,
    ⟨(some 2), .mov (.tmp 11), none⟩])
  .ret)
  (.seq (.ops [⟨(some 13), .bin .eql (.tmp 7) (.const (.int .i64 19)) (some (.int .i64)), none⟩,
    ⟨(some 12), .mov (.tmp 13), none⟩])
  (.cond (.tmp 12)
  (.seq (.ops [⟨(some 14), .fieldAddr 3 (.tmp 1), none⟩,
    ⟨(some 15), .load false 1 (.tmp 14), none⟩,
    ⟨(some 16), .indexAddrArr 4 21 (.global 2) (.tmp 15), none⟩,
    ⟨(some 17), .fieldAddr 1 (.tmp 16), none⟩,
    ⟨(some 18), .load false 1 (.tmp 17), none⟩,
    ⟨(some 2), .mov (.tmp 18), none⟩])
  .ret)
  .skip))))))
  (.seq (.ops [⟨(some 19), .fieldAddr 0 (.tmp 1), none⟩,
    ⟨(some 20), .load false 1 (.tmp 19), none⟩,
    ⟨(some 21), .indexAddrArr 4 21 (.global 2) (.tmp 20), none⟩,
    ⟨(some 22), .fieldAddr 1 (.tmp 21), none⟩,
    ⟨(some 23), .load false 1 (.tmp 22), none⟩,
    ⟨(some 2), .mov (.tmp 23), none⟩])
  .ret))))⟩
theorem F265_ok : compF Tryz.prog 265 = some F265 := by kernel_rfl
/-- colonnade/array.countNulls -/
def F266 : FC := ⟨23, [.tmp 4],
  (.seq (.ops [⟨(some 2), .box (.tmp 0), none⟩,
    ⟨(some 3), .box (.tmp 1), none⟩,
    ⟨(some 4), .mov (.const (.int .i64 0)), none⟩])
  (.seq (.ops [⟨(some 5), .mov (.const (.int .i64 0)), none⟩])
  (.seq (.seq (.ops [⟨(some 7), .fieldAddr 0 (.tmp 3), none⟩,
    ⟨(some 8), .load false 1 (.tmp 7), none⟩,
    ⟨(some 9), .mov (.const (.int .i64 0)), none⟩])
  (.block 0 (.loop (.seq (.ops [⟨(some 10), .bin .lss (.tmp 9) (.tmp 8) (some (.int .i64)), none⟩])
  (.seq (.cond (.tmp 10)
  .skip
  (.exit 0))
  (.seq (.block 1 (.seq (.ops [⟨(some 11), .mov (.tmp 9), none⟩,
    ⟨(some 6), .mov (.tmp 11), none⟩])
  (.seq (.ops [⟨(some 12), .load true 7 (.tmp 2), none⟩,
    ⟨(some 13), .load true 6 (.tmp 3), none⟩,
    ⟨(some 14), .fieldAddr 1 (.tmp 3), none⟩,
    ⟨(some 15), .load false 1 (.tmp 14), none⟩,
    ⟨(some 16), .mov (.tmp 6), none⟩,
    ⟨(some 17), .bin .add (.tmp 15) (.tmp 16) (some (.int .i64)), none⟩,
    ⟨(some 18), .call 246 [(.tmp 12), (.tmp 13), (.tmp 17)], none⟩])
  (.cond (.tmp 18)
  (.ops [⟨(some 19), .mov (.tmp 5), none⟩,
    ⟨(some 20), .bin .add (.tmp 19) (.const (.int .i64 1)) (some (.int .i64)), none⟩,
    ⟨(some 5), .mov (.tmp 20), none⟩])
  .skip))))
  (.ops [⟨(some 21), .bin .add (.tmp 9) (.const (.int .i64 1)) (some (.int .i64)), none⟩,
    ⟨(some 9), .mov (.tmp 21), none⟩])))))))
  (.seq (.ops [⟨(some 22), .mov (.tmp 5), none⟩,
    ⟨(some 4), .mov (.tmp 22), none⟩])
  .ret))))⟩
theorem F266_ok : compF Tryz.prog 266 = some F266 := by kernel_rfl
/-- unicode/utf8.Valid -/
def F267 : FC := ⟨188, [.tmp 2],
  (.seq (.ops [⟨(some 2), .mov (.const (.bool false)), none⟩])
  (.seq (.ops [⟨(some 7), .mov (.tmp 0), none⟩,
    ⟨(some 8), .mov (.tmp 0), none⟩,
    ⟨(some 9), .len 1 (.tmp 8), none⟩,
    ⟨(some 10), .mov (.tmp 0), none⟩,
    ⟨(some 11), .len 1 (.tmp 10), none⟩,
    ⟨(some 12), .slice 1 (.tmp 7) none (some (.tmp 9)) (some (.tmp 11)), none⟩,
    ⟨(some 0), .mov (.tmp 12), none⟩])
  (.seq (.block 0 (.loop (.seq (.seq (.ops [⟨(some 13), .mov (.tmp 0), none⟩,
    ⟨(some 14), .len 1 (.tmp 13), none⟩,
    ⟨(some 15), .bin .gtr (.tmp 14) (.const (.int .i64 0)) (some (.int .i64)), none⟩])
  (.cond (.tmp 15)
  .skip
  (.exit 0)))
  (.block 1 (.seq (.ops [⟨(some 16), .mov (.tmp 0), none⟩,
    ⟨(some 17), .indexAddr 1 (.tmp 16) (.const (.int .i64 0)), none⟩,
    ⟨(some 18), .load false 1 (.tmp 17), none⟩,
    ⟨(some 3), .mov (.tmp 18), none⟩])
  (.seq (.seq (.ops [⟨(some 19), .mov (.tmp 3), none⟩,
    ⟨(some 20), .bin .lss (.tmp 19) (.const (.int .u8 128)) (some (.int .u8)), none⟩])
  (.cond (.tmp 20)
  (.seq (.ops [⟨(some 21), .mov (.tmp 0), none⟩,
    ⟨(some 22), .slice 1 (.tmp 21) (some (.const (.int .i64 1))) none none, none⟩,
    ⟨(some 0), .mov (.tmp 22), none⟩])
  (.seq (.seq (.ops [⟨(some 23), .mov (.tmp 0), none⟩,
    ⟨(some 24), .len 1 (.tmp 23), none⟩,
    ⟨(some 25), .bin .gtr (.tmp 24) (.const (.int .i64 8)) (some (.int .i64)), none⟩,
    ⟨(some 26), .mov (.tmp 25), none⟩,
    ⟨(some 27), .mov (.tmp 0), (some (26, true))⟩,
    ⟨(some 28), .call 276 [(.tmp 27)], (some (26, true))⟩,
    ⟨(some 29), .bin .and (.tmp 28) (.const (.int .u64 9259542123273814144)) (some (.int .u64)), (some (26, true))⟩,
    ⟨(some 30), .bin .eql (.tmp 29) (.const (.int .u64 0)) (some (.int .u64)), (some (26, true))⟩,
    ⟨(some 31), .pick (.tmp 26) (.tmp 30) (.const (.bool false)), none⟩])
  (.cond (.tmp 31)
  (.seq (.ops [⟨(some 32), .mov (.tmp 0), none⟩,
    ⟨(some 33), .slice 1 (.tmp 32) (some (.const (.int .i64 8))) none none, none⟩,
    ⟨(some 0), .mov (.tmp 33), none⟩])
  (.seq (.ops [⟨(some 34), .mov (.tmp 0), none⟩,
    ⟨(some 35), .len 1 (.tmp 34), none⟩,
    ⟨(some 36), .bin .gtr (.tmp 35) (.const (.int .i64 16)) (some (.int .i64)), none⟩,
    ⟨(some 37), .mov (.tmp 36), none⟩,
    ⟨(some 38), .mov (.tmp 0), (some (37, true))⟩,
    ⟨(some 40), .mov (.tmp 0), (some (37, true))⟩,
    ⟨(some 41), .slice 1 (.tmp 40) (some (.const (.int .i64 8))) none none, (some (37, true))⟩,
    ⟨(some 39), .call 276 [(.tmp 38)], (some (37, true))⟩,
    ⟨(some 42), .call 276 [(.tmp 41)], (some (37, true))⟩,
    ⟨(some 43), .bin .or (.tmp 39) (.tmp 42) (some (.int .u64)), (some (37, true))⟩,
    ⟨(some 44), .bin .and (.tmp 43) (.const (.int .u64 9259542123273814144)) (some (.int .u64)), (some (37, true))⟩,
    ⟨(some 45), .bin .eql (.tmp 44) (.const (.int .u64 0)) (some (.int .u64)), (some (37, true))⟩,
    ⟨(some 46), .pick (.tmp 37) (.tmp 45) (.const (.bool false)), none⟩])
  (.cond (.tmp 46)
  (.seq (.ops [⟨(some 47), .mov (.tmp 0), none⟩,
    ⟨(some 48), .slice 1 (.tmp 47) (some (.const (.int .i64 16))) none none, none⟩,
    ⟨(some 0), .mov (.tmp 48), none⟩])
  (.block 2 (.loop (.seq (.seq (.ops [⟨(some 49), .mov (.tmp 0), none⟩,
    ⟨(some 50), .len 1 (.tmp 49), none⟩,
    ⟨(some 51), .bin .gtr (.tmp 50) (.const (.int .i64 32)) (some (.int .i64)), none⟩,
    ⟨(some 52), .mov (.tmp 51), none⟩,
    ⟨(some 53), .mov (.tmp 0), (some (52, true))⟩,
    ⟨(some 55), .mov (.tmp 0), (some (52, true))⟩,
    ⟨(some 56), .slice 1 (.tmp 55) (some (.const (.int .i64 8))) none none, (some (52, true))⟩,
    ⟨(some 59), .mov (.tmp 0), (some (52, true))⟩,
    ⟨(some 60), .slice 1 (.tmp 59) (some (.const (.int .i64 16))) none none, (some (52, true))⟩,
    ⟨(some 62), .mov (.tmp 0), (some (52, true))⟩,
    ⟨(some 63), .slice 1 (.tmp 62) (some (.const (.int .i64 24))) none none, (some (52, true))⟩,
    ⟨(some 54), .call 276 [(.tmp 53)], (some (52, true))⟩,
    ⟨(some 57), .call 276 [(.tmp 56)], (some (52, true))⟩,
    ⟨(some 58), .bin .or (.tmp 54) (.tmp 57) (some (.int .u64)), (some (52, true))⟩,
    ⟨(some 61), .call 276 [(.tmp 60)], (some (52, true))⟩,
    ⟨(some 64), .call 276 [(.tmp 63)], (some (52, true))⟩,
    ⟨(some 65), .bin .or (.tmp 61) (.tmp 64) (some (.int .u64)), (some (52, true))⟩,
    ⟨(some 66), .bin .or (.tmp 58) (.tmp 65) (some (.int .u64)), (some (52, true))⟩,
    ⟨(some 67), .bin .and (.tmp 66) (.const (.int .u64 9259542123273814144)) (some (.int .u64)), (some (52, true))⟩,
    ⟨(some 68), .bin .eql (.tmp 67) (.const (.int .u64 0)) (some (.int .u64)), (some (52, true))⟩,
    ⟨(some 69), .pick (.tmp 52) (.tmp 68) (.const (.bool false)), none⟩])
  (.cond (.tmp 69)
  .skip
  (.exit 2)))
  (.block 3 (.ops [⟨(some 70), .mov (.tmp 0), none⟩,
    ⟨(some 71), .slice 1 (.tmp 70) (some (.const (.int .i64 32))) none none, none⟩,
    ⟨(some 0), .mov (.tmp 71), none⟩]))))))
  .skip)))
  .skip))
  (.exit 1)))
  .skip))
  (.seq (.ops [⟨(some 72), .mov (.tmp 3), none⟩,
    ⟨(some 73), .indexAddrArr 1 256 (.global 0) (.tmp 72), none⟩,
    ⟨(some 74), .load false 1 (.tmp 73), none⟩,
    ⟨(some 4), .mov (.tmp 74), none⟩])
  (.seq (.ops [⟨(some 75), .mov (.tmp 4), none⟩,
    ⟨(some 76), .bin .and (.tmp 75) (.const (.int .u8 7)) (some (.int .u8)), none⟩,
    ⟨(some 77), .conv .i64 (.tmp 76), none⟩,
    ⟨(some 5), .mov (.tmp 77), none⟩])
  (.seq (.ops [⟨(some 78), .mov (.tmp 4), none⟩,
    ⟨(some 79), .bin .shr (.tmp 78) (.const (.int .u64 4)) (some (.int .u8)), none⟩,
    ⟨(some 80), .indexAddrArr 2 16 (.global 1) (.tmp 79), none⟩,
    ⟨(some 81), .load true 2 (.tmp 80), none⟩,
    ⟨(some 6), .alloc [(.int .u8 0), (.int .u8 0)], none⟩,
    ⟨none, .store 2 (.tmp 6) (.tmp 81), none⟩])
  (.seq (.ops [⟨(some 82), .mov (.tmp 5), none⟩])
  (.block 4 (.seq (.ops [⟨(some 84), .bin .eql (.tmp 82) (.const (.int .i64 2)) (some (.int .i64)), none⟩,
    ⟨(some 83), .mov (.tmp 84), none⟩])
  (.cond (.tmp 83)
  (.seq (.seq (.ops [⟨(some 85), .mov (.tmp 0), none⟩,
    ⟨(some 86), .len 1 (.tmp 85), none⟩,
    ⟨(some 87), .bin .lss (.tmp 86) (.const (.int .i64 2)) (some (.int .i64)), none⟩,
    ⟨(some 88), .mov (.tmp 87), none⟩,
    ⟨(some 89), .mov (.tmp 0), (some (88, false))⟩,
    ⟨(some 90), .indexAddr 1 (.tmp 89) (.const (.int .i64 1)), (some (88, false))⟩,
    ⟨(some 91), .load false 1 (.tmp 90), (some (88, false))⟩,
    ⟨(some 92), .fieldAddr 0 (.tmp 6), (some (88, false))⟩,
    ⟨(some 93), .load false 1 (.tmp 92), (some (88, false))⟩,
    ⟨(some 94), .bin .lss (.tmp 91) (.tmp 93) (some (.int .u8)), (some (88, false))⟩,
    ⟨(some 95), .pick (.tmp 88) (.const (.bool true)) (.tmp 94), none⟩,
    ⟨(some 96), .mov (.tmp 95), none⟩,
    ⟨(some 97), .fieldAddr 1 (.tmp 6), (some (96, false))⟩,
    ⟨(some 98), .load false 1 (.tmp 97), (some (96, false))⟩,
    ⟨(some 99), .mov (.tmp 0), (some (96, false))⟩,
    ⟨(some 100), .indexAddr 1 (.tmp 99) (.const (.int .i64 1)), (some (96, false))⟩,
    ⟨(some 101), .load false 1 (.tmp 100), (some (96, false))⟩,
    ⟨(some 102), .bin .lss (.tmp 98) (.tmp 101) (some (.int .u8)), (some (96, false))⟩,
    ⟨(some 103), .pick (.tmp 96) (.const (.bool true)) (.tmp 102), none⟩])
  (.cond (.tmp 103)
  (.seq (.ops [⟨(some 2), .mov (.const (.bool false)), none⟩])
  .ret)
  .skip))
  (.ops [⟨(some 104), .mov (.tmp 0), none⟩,
    ⟨(some 105), .slice 1 (.tmp 104) (some (.const (.int .i64 2))) none none, none⟩,
    ⟨(some 0), .mov (.tmp 105), none⟩]))
  (.seq (.ops [⟨(some 107), .bin .eql (.tmp 82) (.const (.int .i64 3)) (some (.int .i64)), none⟩,
    ⟨(some 106), .mov (.tmp 107), none⟩])
  (.cond (.tmp 106)
  (.seq (.seq (.ops [⟨(some 108), .mov (.tmp 0), none⟩,
    ⟨(some 109), .len 1 (.tmp 108), none⟩,
    ⟨(some 110), .bin .lss (.tmp 109) (.const (.int .i64 3)) (some (.int .i64)), none⟩,
    ⟨(some 111), .mov (.tmp 110), none⟩,
    ⟨(some 112), .mov (.tmp 0), (some (111, false))⟩,
    ⟨(some 113), .indexAddr 1 (.tmp 112) (.const (.int .i64 1)), (some (111, false))⟩,
    ⟨(some 114), .load false 1 (.tmp 113), (some (111, false))⟩,
    ⟨(some 115), .fieldAddr 0 (.tmp 6), (some (111, false))⟩,
    ⟨(some 116), .load false 1 (.tmp 115), (some (111, false))⟩,
    ⟨(some 117), .bin .lss (.tmp 114) (.tmp 116) (some (.int .u8)), (some (111, false))⟩,
    ⟨(some 118), .pick (.tmp 111) (.const (.bool true)) (.tmp 117), none⟩,
    ⟨(some 119), .mov (.tmp 118), none⟩,
    ⟨(some 120), .fieldAddr 1 (.tmp 6), (some (119, false))⟩,
    ⟨(some 121), .load false 1 (.tmp 120), (some (119, false))⟩,
    ⟨(some 122), .mov (.tmp 0), (some (119, false))⟩,
    ⟨(some 123), .indexAddr 1 (.tmp 122) (.const (.int .i64 1)), (some (119, false))⟩,
    ⟨(some 124), .load false 1 (.tmp 123), (some (119, false))⟩,
    ⟨(some 125), .bin .lss (.tmp 121) (.tmp 124) (some (.int .u8)), (some (119, false))⟩,
    ⟨(some 126), .pick (.tmp 119) (.const (.bool true)) (.tmp 125), none⟩,
    ⟨(some 127), .mov (.tmp 126), none⟩,
    ⟨(some 128), .mov (.tmp 0), (some (127, false))⟩,
    ⟨(some 129), .indexAddr 1 (.tmp 128) (.const (.int .i64 2)), (some (127, false))⟩,
    ⟨(some 130), .load false 1 (.tmp 129), (some (127, false))⟩,
    ⟨(some 131), .bin .lss (.tmp 130) (.const (.int .u8 128)) (some (.int .u8)), (some (127, false))⟩,
    ⟨(some 132), .pick (.tmp 127) (.const (.bool true)) (.tmp 131), none⟩,
    ⟨(some 133), .mov (.tmp 132), none⟩,
    ⟨(some 134), .mov (.tmp 0), (some (133, false))⟩,
    ⟨(some 135), .indexAddr 1 (.tmp 134) (.const (.int .i64 2)), (some (133, false))⟩,
    ⟨(some 136), .load false 1 (.tmp 135), (some (133, false))⟩,
    ⟨(some 137), .bin .lss (.const (.int .u8 191)) (.tmp 136) (some (.int .u8)), (some (133, false))⟩,
    ⟨(some 138), .pick (.tmp 133) (.const (.bool true)) (.tmp 137), none⟩])
  (.cond (.tmp 138)
  (.seq (.ops [⟨(some 2), .mov (.const (.bool false)), none⟩])
  .ret)
  .skip))
  (.ops [⟨(some 139), .mov (.tmp 0), none⟩,
    ⟨(some 140), .slice 1 (.tmp 139) (some (.const (.int .i64 3))) none none, none⟩,
    ⟨(some 0), .mov (.tmp 140), none⟩]))
  (.seq (.ops [⟨(some 142), .bin .eql (.tmp 82) (.const (.int .i64 4)) (some (.int .i64)), none⟩,
    ⟨(some 141), .mov (.tmp 142), none⟩])
  (.cond (.tmp 141)
  (.seq (.seq (.ops [⟨(some 143), .mov (.tmp 0), none⟩,
    ⟨(some 144), .len 1 (.tmp 143), none⟩,
    ⟨(some 145), .bin .lss (.tmp 144) (.const (.int .i64 4)) (some (.int .i64)), none⟩,
    ⟨(some 146), .mov (.tmp 145), none⟩,
    ⟨(some 147), .mov (.tmp 0), (some (146, false))⟩,
    ⟨(some 148), .indexAddr 1 (.tmp 147) (.const (.int .i64 1)), (some (146, false))⟩,
    ⟨(some 149), .load false 1 (.tmp 148), (some (146, false))⟩,
    ⟨(some 150), .fieldAddr 0 (.tmp 6), (some (146, false))⟩,
    ⟨(some 151), .load false 1 (.tmp 150), (some (146, false))⟩,
    ⟨(some 152), .bin .lss (.tmp 149) (.tmp 151) (some (.int .u8)), (some (146, false))⟩,
    ⟨(some 153), .pick (.tmp 146) (.const (.bool true)) (.tmp 152), none⟩,
    ⟨(some 154), .mov (.tmp 153), none⟩,
    ⟨(some 155), .fieldAddr 1 (.tmp 6), (some (154, false))⟩,
    ⟨(some 156), .load false 1 (.tmp 155), (some (154, false))⟩,
    ⟨(some 157), .mov (.tmp 0), (some (154, false))⟩,
    ⟨(some 158), .indexAddr 1 (.tmp 157) (.const (.int .i64 1)), (some (154, false))⟩,
    ⟨(some 159), .load false 1 (.tmp 158), (some (154, false))⟩,
    ⟨(some 160), .bin .lss (.tmp 156) (.tmp 159) (some (.int .u8)), (some (154, false))⟩,
    ⟨(some 161), .pick (.tmp 154) (.const (.bool true)) (.tmp 160), none⟩,
    ⟨(some 162), .mov (.tmp 161), none⟩,
    ⟨(some 163), .mov (.tmp 0), (some (162, false))⟩,
    ⟨(some 164), .indexAddr 1 (.tmp 163) (.const (.int .i64 2)), (some (162, false))⟩,
    ⟨(some 165), .load false 1 (.tmp 164), (some (162, false))⟩,
    ⟨(some 166), .bin .lss (.tmp 165) (.const (.int .u8 128)) (some (.int .u8)), (some (162, false))⟩,
    ⟨(some 167), .pick (.tmp 162) (.const (.bool true)) (.tmp 166), none⟩,
    ⟨(some 168), .mov (.tmp 167), none⟩,
    ⟨(some 169), .mov (.tmp 0), (some (168, false))⟩,
    ⟨(some 170), .indexAddr 1 (.tmp 169) (.const (.int .i64 2)), (some (168, false))⟩,
    ⟨(some 171), .load false 1 (.tmp 170), (some (168, false))⟩,
    ⟨(some 172), .bin .lss (.const (.int .u8 191)) (.tmp 171) (some (.int .u8)), (some (168, false))⟩,
    ⟨(some 173), .pick (.tmp 168) (.const (.bool true)) (.tmp 172), none⟩,
    ⟨(some 174), .mov (.tmp 173), none⟩,
    ⟨(some 175), .mov (.tmp 0), (some (174, false))⟩,
    ⟨(some 176), .indexAddr 1 (.tmp 175) (.const (.int .i64 3)), (some (174, false))⟩,
    ⟨(some 177), .load false 1 (.tmp 176), (some (174, false))⟩,
    ⟨(some 178), .bin .lss (.tmp 177) (.const (.int .u8 128)) (some (.int .u8)), (some (174, false))⟩,
    ⟨(some 179), .pick (.tmp 174) (.const (.bool true)) (.tmp 178), none⟩,
    ⟨(some 180), .mov (.tmp 179), none⟩,
    ⟨(some 181), .mov (.tmp 0), (some (180, false))⟩,
    ⟨(some 182), .indexAddr 1 (.tmp 181) (.const (.int .i64 3)), (some (180, false))⟩,
    ⟨(some 183), .load false 1 (.tmp 182), (some (180, false))⟩,
    ⟨(some 184), .bin .lss (.const (.int .u8 191)) (.tmp 183) (some (.int .u8)), (some (180, false))⟩,
    ⟨(some 185), .pick (.tmp 180) (.const (.bool true)) (.tmp 184), none⟩])
  (.cond (.tmp 185)
  (.seq (.ops [⟨(some 2), .mov (.const (.bool false)), none⟩])
  .ret)
  .skip))
  (.ops [⟨(some 186), .mov (.tmp 0), none⟩,
    ⟨(some 187), .slice 1 (.tmp 186) (some (.const (.int .i64 4))) none none, none⟩,
    ⟨(some 0), .mov (.tmp 187), none⟩]))
  (.seq (.ops [⟨(some 2), .mov (.const (.bool false)), none⟩])
  .ret))))))))))))))))))
  (.seq (.ops [⟨(some 2), .mov (.const (.bool true)), none⟩])
  .ret))))⟩
theorem F267_ok : compF Tryz.prog 267 = some F267 := by kernel_rfl
/-- colonnade/bits.Get -/
def F268 : FC := ⟨18, [.tmp 4, .tmp 5],
  (.seq (.ops [⟨(some 4), .mov (.const (.bool false)), none⟩,
    ⟨(some 5), .mov (.const (.int .i64 0)), none⟩])
  (.seq (.block 0 (.seq (.ops [⟨(some 7), .mov (.tmp 1), none⟩,
    ⟨(some 8), .bin .lss (.tmp 7) (.const (.int .i64 0)) (some (.int .i64)), none⟩,
    ⟨(some 6), .mov (.tmp 8), none⟩])
  (.cond (.tmp 6)
  (.seq (.ops [⟨(some 4), .mov (.const (.bool false)), none⟩,
    ⟨(some 5), .mov (.const (.int .i64 1)), none⟩])
  .ret)
  (.seq (.ops [⟨(some 10), .mov (.tmp 1), none⟩,
    ⟨(some 11), .bin .quo (.tmp 10) (.const (.int .i64 8)) (some (.int .i64)), none⟩,
    ⟨(some 12), .mov (.tmp 0), none⟩,
    ⟨(some 13), .len 1 (.tmp 12), none⟩,
    ⟨(some 14), .bin .geq (.tmp 11) (.tmp 13) (some (.int .i64)), none⟩,
    ⟨(some 9), .mov (.tmp 14), none⟩])
  (.cond (.tmp 9)
  (.seq (.ops [⟨(some 4), .mov (.const (.bool false)), none⟩,
    ⟨(some 5), .mov (.const (.int .i64 2)), none⟩])
  .ret)
  .skip)))))
  (.seq (.ops [⟨(some 15), .mov (.tmp 0), none⟩,
    ⟨(some 16), .mov (.tmp 1), none⟩,
    ⟨(some 17), .call 277 [(.tmp 15), (.tmp 16)], none⟩,
    ⟨(some 4), .mov (.tmp 17), none⟩,
    ⟨(some 5), .mov (.const (.int .i64 0)), none⟩])
  .ret)))⟩
theorem F268_ok : compF Tryz.prog 268 = some F268 := by kernel_rfl
/-- colonnade/array.width -/
def F269 : FC := ⟨17, [.tmp 2],
  (.seq (.ops [⟨(some 2), .mov (.const (.int .i64 0)), none⟩])
  (.seq (.seq (.ops [⟨(some 3), .mov (.tmp 0), none⟩])
  (.block 0 (.seq (.seq (.ops [⟨(some 5), .bin .eql (.tmp 3) (.const (.int .i64 3)) (some (.int .i64)), none⟩,
    ⟨(some 4), .mov (.tmp 5), none⟩])
  (.cond (.tmp 4)
  .skip
  (.ops [⟨(some 6), .bin .eql (.tmp 3) (.const (.int .i64 7)) (some (.int .i64)), none⟩,
    ⟨(some 4), .mov (.tmp 6), none⟩])))
  (.cond (.tmp 4)
  (.seq (.ops [⟨(some 2), .mov (.const (.int .i64 1)), none⟩])
  .ret)
  (.seq (.seq (.ops [⟨(some 8), .bin .eql (.tmp 3) (.const (.int .i64 4)) (some (.int .i64)), none⟩,
    ⟨(some 7), .mov (.tmp 8), none⟩])
  (.cond (.tmp 7)
  .skip
  (.ops [⟨(some 9), .bin .eql (.tmp 3) (.const (.int .i64 8)) (some (.int .i64)), none⟩,
    ⟨(some 7), .mov (.tmp 9), none⟩])))
  (.cond (.tmp 7)
  (.seq (.ops [⟨(some 2), .mov (.const (.int .i64 2)), none⟩])
  .ret)
  (.seq (.seq (.ops [⟨(some 11), .bin .eql (.tmp 3) (.const (.int .i64 5)) (some (.int .i64)), none⟩,
    ⟨(some 10), .mov (.tmp 11), none⟩])
  (.cond (.tmp 10)
  .skip
  (.ops [⟨(some 12), .bin .eql (.tmp 3) (.const (.int .i64 9)) (some (.int .i64)), none⟩,
    ⟨(some 10), .mov (.tmp 12), none⟩])))
  (.cond (.tmp 10)
  (.seq (.ops [⟨(some 2), .mov (.const (.int .i64 4)), none⟩])
  .ret)
  (.seq (.seq (.ops [⟨(some 14), .bin .eql (.tmp 3) (.const (.int .i64 6)) (some (.int .i64)), none⟩,
    ⟨(some 13), .mov (.tmp 14), none⟩])
  (.cond (.tmp 13)
  .skip
  (.seq (.ops [⟨(some 15), .bin .eql (.tmp 3) (.const (.int .i64 10)) (some (.int .i64)), none⟩,
    ⟨(some 13), .mov (.tmp 15), none⟩])
  (.cond (.tmp 13)
  .skip
  (.ops [⟨(some 16), .bin .eql (.tmp 3) (.const (.int .i64 11)) (some (.int .i64)), none⟩,
    ⟨(some 13), .mov (.tmp 16), none⟩])))))
  (.cond (.tmp 13)
  (.seq (.ops [⟨(some 2), .mov (.const (.int .i64 8)), none⟩])
  .ret)
  .skip))))))))))
  (.seq (.ops [⟨(some 2), .mov (.const (.int .i64 0)), none⟩])
  .ret)))⟩
theorem F269_ok : compF Tryz.prog 269 = some F269 := by kernel_rfl
/-- colonnade/kind.holder -/
def F274 : FC := ⟨29, [.cell 2 true 7],
  (.seq (.ops [⟨(some 1), .box (.tmp 0), none⟩,
    ⟨(some 2), .alloc [(.string ⟨#[]⟩), (.bool false), (.int .i64 0), (.int .i64 0), (.int .i64 0), (.int .i64 0), (.slice none 0 0)], none⟩])
  (.seq (.ops [⟨(some 4), .load true 5 (.tmp 1), none⟩,
    ⟨(some 5), .build [(.string ⟨#[]⟩), (.bool false), (.int .i64 0), (.int .i64 0), (.int .i64 0), (.int .i64 0), (.slice none 0 0)] [(0, 1, (.const (.string ⟨#[97]⟩))), (2, 5, (.tmp 4))], none⟩,
    ⟨(some 3), .alloc [(.string ⟨#[]⟩), (.bool false), (.int .i64 0), (.int .i64 0), (.int .i64 0), (.int .i64 0), (.slice none 0 0)], none⟩,
    ⟨none, .store 7 (.tmp 3) (.tmp 5), none⟩])
  (.seq (.ops [⟨(some 6), .fieldAddr 0 (.tmp 1), none⟩,
    ⟨(some 7), .load false 1 (.tmp 6), none⟩,
    ⟨(some 8), .bin .eql (.tmp 7) (.const (.int .i64 1)) (some (.int .i64)), none⟩,
    ⟨(some 9), .mov (.tmp 8), none⟩,
    ⟨(some 10), .fieldAddr 0 (.tmp 1), (some (9, false))⟩,
    ⟨(some 11), .load false 1 (.tmp 10), (some (9, false))⟩,
    ⟨(some 12), .bin .eql (.tmp 11) (.const (.int .i64 20)) (some (.int .i64)), (some (9, false))⟩,
    ⟨(some 13), .mov (.tmp 12), (some (9, false))⟩,
    ⟨(some 14), .fieldAddr 4 (.tmp 1), (some (13, true))⟩,
    ⟨(some 15), .load false 1 (.tmp 14), (some (13, true))⟩,
    ⟨(some 16), .len 1 (.tmp 15), (some (13, true))⟩,
    ⟨(some 17), .bin .gtr (.tmp 16) (.const (.int .i64 0)) (some (.int .i64)), (some (13, true))⟩,
    ⟨(some 18), .pick (.tmp 13) (.tmp 17) (.const (.bool false)), (some (9, false))⟩,
    ⟨(some 19), .mov (.tmp 18), (some (9, false))⟩,
    ⟨(some 20), .fieldAddr 4 (.tmp 1), (some (19, true))⟩,
    ⟨(some 21), .load false 1 (.tmp 20), (some (19, true))⟩,
    ⟨(some 22), .indexAddr 7 (.tmp 21) (.const (.int .i64 0)), (some (19, true))⟩,
    ⟨(some 23), .fieldAddr 1 (.tmp 22), (some (19, true))⟩,
    ⟨(some 24), .load false 1 (.tmp 23), (some (19, true))⟩,
    ⟨(some 25), .pick (.tmp 19) (.tmp 24) (.const (.bool false)), (some (9, false))⟩,
    ⟨(some 26), .pick (.tmp 9) (.const (.bool true)) (.tmp 25), none⟩,
    ⟨(some 27), .fieldAddr 1 (.tmp 3), none⟩,
    ⟨none, .store 1 (.tmp 27) (.tmp 26), none⟩])
  (.seq (.ops [⟨(some 28), .load true 7 (.tmp 3), none⟩,
    ⟨none, .store 7 (.tmp 2) (.tmp 28), none⟩])
  .ret))))⟩
theorem F274_ok : compF Tryz.prog 274 = some F274 := by kernel_rfl
end Go.Proofs.YtpgeonghlabnhaaGreatDoor.Lin
