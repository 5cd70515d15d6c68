/- YtecephhhjhpcjaaGreatDoorMd: the texts Scd, Sc1, Sc2, St1, St2, St3, St4, St5, brought together. No conditions. -/
import Derived.Test.YtecephhhjhpcjaaGreatDoorMc
import Derived.Test.YtecephhhjhpcjaaGreatDoorX22
import Derived.Test.YtecephhhjhpcjaaGreatDoorX32
import Derived.Test.YtecephhhjhpcjaaGreatDoorX35
import Derived.Test.YtecephhhjhpcjaaGreatDoorX34
import Derived.Test.YtecephhhjhpcjaaGreatDoorProg
import Derived.KernelRfl
section
set_option linter.unusedVariables false
namespace Go.Proofs.YtecephhhjhpcjaaGreatDoor.Stats
open Go Go.Proofs.YtecephhhjhpcjaaGreatDoor Go.Proofs.YtecephhhjhpcjaaGreatDoor.Em
/-- colonnade/array.parts -/
def F123 : FC := ⟨11, [.tmp 2],
  (.seq (.ops [o 1 (.box (q 0)), o 2 (.mov (.const (.slice none 0 0)))])
  (.seq (.seq (.ops [o 3 (.fieldAddr 5 (q 1)), o 4 (.load false 1 (q 3)), o 5 (.len 1 (q 4)), o 6 (.bin .gtr (q 5) (.const (.int .i64 0)) (some (.int .i64)))])
  (.cond (q 6)
  (.seq (.ops [o 7 (.fieldAddr 5 (q 1)), o 8 (.load false 1 (q 7)), o 2 (.mov (q 8))])
  .ret)
  .skip))
  (.seq (.ops [o 9 (.fieldAddr 4 (q 1)), o 10 (.load false 1 (q 9)), o 2 (.mov (q 10))])
  .ret)))⟩
theorem F123_ok : compF Tryz.prog 123 = some F123 := by kernel_rfl
/-- colonnade/array.weights -/
def F126 : FC := ⟨207, [.tmp 6],
  (.seq (.ops [o 3 (.box (q 0)), o 4 (.box (q 1)), o 6 (.mov (.const (.slice none 0 0)))])
  (.seq (.ops [o 19 (.fieldAddr 2 (q 3)), o 20 (.load true 5 (q 19)), o 7 (.alloc [.int .i64 0, .int .i64 0, .int .i64 0, .int .i64 0, .slice none 0 0]), ⟨none, .store 5 (q 7) (q 20), none⟩])
  (.seq (.ops [o 21 (.fieldAddr 0 (q 4)), o 22 (.load false 1 (q 21)), o 23 (.mkSlice 1 8 [.int .i64 0] (q 22) (q 22)), o 8 (.mov (q 23))])
  (.seq (.ops [o 9 (.mov (.const (.int .i64 0)))])
  (.seq (.seq (.ops [o 24 (.mov (q 8)), o 25 (.len 1 (q 24)), o 26 (.mov (.const (.int .i64 0)))])
  (.block 0 (.loop (.seq (.ops [o 27 (.bin .lss (q 26) (q 25) (some (.int .i64)))])
  (.seq (.cond (q 27)
  .skip
  (.exit 0))
  (.seq (.block 1 (.seq (.ops [o 28 (.mov (q 26)), o 10 (.mov (q 28))])
  (.seq (.ops [o 29 (.fieldAddr 1 (q 4)), o 30 (.load false 1 (q 29)), o 31 (.mov (q 10)), o 32 (.bin .add (q 30) (q 31) (some (.int .i64))), o 11 (.mov (q 32))])
  (.seq (.ops [o 33 (.mov (q 8)), o 34 (.mov (q 10)), o 35 (.indexAddr 1 (q 33) (q 34)), ⟨none, .store 1 (q 35) (.const (.int .i64 16)), none⟩])
  (.seq (.seq (.ops [o 36 (.load true 7 (q 3)), o 37 (.load true 6 (q 4)), o 38 (.mov (q 11)), o 39 (.call 136 [.tmp 36, .tmp 37, .tmp 38])])
  (.cond (q 39)
  (.exit 1)
  .skip))
  (.seq (.ops [o 12 (.mov (.const (.int .i64 0))), o 13 (.mov (.const (.int .i64 0)))])
  (.seq (.seq (.ops [o 40 (.fieldAddr 0 (q 7)), o 41 (.load false 1 (q 40))])
  (.block 2 (.seq (.ops [o 43 (.bin .eql (q 41) (.const (.int .i64 14)) (some (.int .i64))), o 42 (.mov (q 43))])
  (.cond (q 42)
  (.ops [o 44 (.mov (q 8)), o 45 (.mov (q 10)), o 46 (.indexAddr 1 (q 44) (q 45)), o 47 (.load false 1 (q 46)), o 48 (.fieldAddr 1 (q 7)), o 49 (.load false 1 (q 48)), o 50 (.bin .add (q 47) (q 49) (some (.int .i64))), o 51 (.indexAddr 1 (q 44) (q 45)), ⟨none, .store 1 (q 51) (q 50), none⟩])
  (.seq (.seq (.ops [o 53 (.bin .eql (q 41) (.const (.int .i64 12)) (some (.int .i64))), o 52 (.mov (q 53))])
  (.cond (q 52)
  .skip
  (.ops [o 54 (.bin .eql (q 41) (.const (.int .i64 13)) (some (.int .i64))), o 52 (.mov (q 54))])))
  (.cond (q 52)
  (.ops [o 55 (.mov (q 8)), o 56 (.mov (q 10)), o 57 (.indexAddr 1 (q 55) (q 56)), o 58 (.load false 1 (q 57)), o 59 (.fieldAddr 3 (q 4)), o 60 (.load false 1 (q 59)), o 61 (.indexAddr 1 (q 60) (.const (.int .i64 1))), o 62 (.load false 1 (q 61)), o 63 (.mov (q 11)), o 64 (.bin .add (q 63) (.const (.int .i64 1)) (some (.int .i64))), o 66 (.fieldAddr 3 (q 4)), o 67 (.load false 1 (q 66)), o 68 (.indexAddr 1 (q 67) (.const (.int .i64 1))), o 69 (.load false 1 (q 68)), o 70 (.mov (q 11)), o 65 (.call 135 [.tmp 62, .tmp 64]), ⟨none, .again 69 false 1 (q 68), none⟩, ⟨none, .again 67 false 1 (q 66), none⟩, ⟨none, .again 58 false 1 (q 57), none⟩, o 71 (.call 135 [.tmp 69, .tmp 70]), ⟨none, .again 58 false 1 (q 57), none⟩, o 72 (.bin .sub (q 65) (q 71) (some (.int .i64))), o 73 (.bin .add (q 58) (q 72) (some (.int .i64))), o 74 (.indexAddr 1 (q 55) (q 56)), ⟨none, .store 1 (q 74) (q 73), none⟩])
  (.seq (.ops [o 76 (.bin .eql (q 41) (.const (.int .i64 15)) (some (.int .i64))), o 75 (.mov (q 76))])
  (.cond (q 75)
  (.ops [o 77 (.fieldAddr 3 (q 4)), o 78 (.load false 1 (q 77)), o 79 (.indexAddr 1 (q 78) (.const (.int .i64 1))), o 80 (.load false 1 (q 79)), o 81 (.mov (q 11)), o 83 (.fieldAddr 3 (q 4)), o 84 (.load false 1 (q 83)), o 85 (.indexAddr 1 (q 84) (.const (.int .i64 1))), o 86 (.load false 1 (q 85)), o 87 (.mov (q 11)), o 88 (.bin .add (q 87) (.const (.int .i64 1)) (some (.int .i64))), o 82 (.call 135 [.tmp 80, .tmp 81]), ⟨none, .again 86 false 1 (q 85), none⟩, ⟨none, .again 84 false 1 (q 83), none⟩, o 89 (.call 135 [.tmp 86, .tmp 88]), o 12 (.mov (q 82)), o 13 (.mov (q 89))])
  (.seq (.ops [o 91 (.bin .eql (q 41) (.const (.int .i64 16)) (some (.int .i64))), o 90 (.mov (q 91))])
  (.cond (q 90)
  (.ops [o 92 (.mov (q 11)), o 93 (.fieldAddr 1 (q 7)), o 94 (.load false 1 (q 93)), o 95 (.bin .mul (q 92) (q 94) (some (.int .i64))), o 96 (.mov (q 11)), o 97 (.bin .add (q 96) (.const (.int .i64 1)) (some (.int .i64))), o 98 (.fieldAddr 1 (q 7)), o 99 (.load false 1 (q 98)), o 100 (.bin .mul (q 97) (q 99) (some (.int .i64))), o 12 (.mov (q 95)), o 13 (.mov (q 100))])
  (.seq (.ops [o 102 (.bin .eql (q 41) (.const (.int .i64 17)) (some (.int .i64))), o 101 (.mov (q 102))])
  (.cond (q 101)
  (.seq (.ops [o 103 (.mov (q 2)), o 104 (.len 1 (q 103)), o 105 (.mov (.const (.int .i64 0)))])
  (.block 3 (.loop (.seq (.ops [o 106 (.bin .lss (q 105) (q 104) (some (.int .i64)))])
  (.seq (.cond (q 106)
  .skip
  (.exit 3))
  (.seq (.block 4 (.seq (.ops [o 107 (.indexAddr 1 (q 103) (q 105)), o 108 (.load false 1 (q 107)), o 15 (.mov (q 108))])
  (.ops [o 109 (.mov (q 8)), o 110 (.mov (q 10)), o 111 (.indexAddr 1 (q 109) (q 110)), o 112 (.load false 1 (q 111)), o 113 (.mov (q 15)), o 114 (.mov (q 11)), o 115 (.indexAddr 1 (q 113) (q 114)), o 116 (.load false 1 (q 115)), o 117 (.bin .add (q 112) (q 116) (some (.int .i64))), o 118 (.indexAddr 1 (q 109) (q 110)), ⟨none, .store 1 (q 118) (q 117), none⟩])))
  (.ops [o 119 (.bin .add (q 105) (.const (.int .i64 1)) (some (.int .i64))), o 105 (.mov (q 119))])))))))
  (.seq (.ops [o 121 (.bin .eql (q 41) (.const (.int .i64 18)) (some (.int .i64))), o 120 (.mov (q 121))])
  (.cond (q 120)
  (.ops [o 122 (.mov (q 8)), o 123 (.mov (q 10)), o 124 (.indexAddr 1 (q 122) (q 123)), o 125 (.load false 1 (q 124)), o 126 (.mov (q 2)), o 127 (.fieldAddr 3 (q 4)), o 128 (.load false 1 (q 127)), o 129 (.indexAddr 1 (q 128) (.const (.int .i64 0))), o 130 (.load false 1 (q 129)), o 131 (.mov (q 11)), o 132 (.indexAddr 1 (q 130) (q 131)), o 133 (.load false 1 (q 132)), o 134 (.indexAddr 1 (q 126) (q 133)), o 135 (.load false 1 (q 134)), o 136 (.fieldAddr 3 (q 4)), o 137 (.load false 1 (q 136)), o 138 (.indexAddr 1 (q 137) (.const (.int .i64 1))), o 139 (.load false 1 (q 138)), o 140 (.mov (q 11)), o 141 (.call 135 [.tmp 139, .tmp 140]), ⟨none, .again 135 false 1 (q 134), none⟩, ⟨none, .again 133 false 1 (q 132), none⟩, ⟨none, .again 130 false 1 (q 129), none⟩, ⟨none, .again 128 false 1 (q 127), none⟩, ⟨none, .again 125 false 1 (q 124), none⟩, o 142 (.indexAddr 1 (q 135) (q 141)), o 143 (.load false 1 (q 142)), o 144 (.bin .add (q 125) (q 143) (some (.int .i64))), o 145 (.indexAddr 1 (q 122) (q 123)), ⟨none, .store 1 (q 145) (q 144), none⟩])
  (.seq (.ops [o 147 (.bin .eql (q 41) (.const (.int .i64 19)) (some (.int .i64))), o 146 (.mov (q 147))])
  (.cond (q 146)
  (.ops [o 148 (.mov (q 8)), o 149 (.mov (q 10)), o 150 (.mov (q 2)), o 151 (.indexAddr 1 (q 150) (.const (.int .i64 0))), o 152 (.load false 1 (q 151)), o 153 (.load true 7 (q 3)), o 154 (.load true 6 (q 4)), o 155 (.mov (q 11)), o 156 (.call 137 [.tmp 153, .tmp 154, .tmp 155]), ⟨none, .again 152 false 1 (q 151), none⟩, o 157 (.indexAddr 1 (q 152) (q 156)), o 158 (.load false 1 (q 157)), o 159 (.indexAddr 1 (q 148) (q 149)), ⟨none, .store 1 (q 159) (q 158), none⟩])
  (.seq (.ops [o 161 (.bin .eql (q 41) (.const (.int .i64 20)) (some (.int .i64))), o 160 (.mov (q 161))])
  (.cond (q 160)
  (.seq (.ops [o 162 (.fieldAddr 4 (q 4)), o 163 (.load false 1 (q 162)), o 164 (.indexAddr 6 (q 163) (.const (.int .i64 0))), o 165 (.load true 6 (q 164)), o 16 (.alloc [.int .i64 0, .int .i64 0, .int .i64 0, .slice none 0 0, .slice none 0 0, .slice none 0 0]), ⟨none, .store 6 (q 16) (q 165), none⟩])
  (.seq (.block 5 (.loop (.seq (.seq (.ops [o 166 (.fieldAddr 3 (q 16)), o 167 (.load false 1 (q 166)), o 168 (.indexAddr 1 (q 167) (.const (.int .i64 1))), o 169 (.load false 1 (q 168)), o 170 (.fieldAddr 1 (q 16)), o 171 (.load false 1 (q 170)), o 172 (.mov (q 9)), o 173 (.bin .add (q 171) (q 172) (some (.int .i64))), o 175 (.mov (q 11)), o 174 (.call 135 [.tmp 169, .tmp 173]), o 176 (.bin .leq (q 174) (q 175) (some (.int .i64)))])
  (.cond (q 176)
  .skip
  (.exit 5)))
  (.block 6 (.ops [o 177 (.mov (q 9)), o 178 (.bin .add (q 177) (.const (.int .i64 1)) (some (.int .i64))), o 9 (.mov (q 178))])))))
  (.ops [o 179 (.mov (q 8)), o 180 (.mov (q 10)), o 181 (.mov (q 2)), o 182 (.indexAddr 1 (q 181) (.const (.int .i64 1))), o 183 (.load false 1 (q 182)), o 184 (.mov (q 9)), o 185 (.indexAddr 1 (q 183) (q 184)), o 186 (.load false 1 (q 185)), o 187 (.indexAddr 1 (q 179) (q 180)), ⟨none, .store 1 (q 187) (q 186), none⟩])))
  .skip))))))))))))))))))
  (.seq (.ops [o 188 (.mov (q 2)), o 189 (.mov (q 12)), o 190 (.mov (q 13)), o 191 (.call 138 [.tmp 188, .tmp 189, .tmp 190]), o 192 (.len 1 (q 191)), o 193 (.mov (.const (.int .i64 0)))])
  (.block 7 (.loop (.seq (.ops [o 194 (.bin .lss (q 193) (q 192) (some (.int .i64)))])
  (.seq (.cond (q 194)
  .skip
  (.exit 7))
  (.seq (.block 8 (.seq (.ops [o 195 (.indexAddr 1 (q 191) (q 193)), o 196 (.load false 1 (q 195)), o 18 (.mov (q 196))])
  (.ops [o 197 (.mov (q 8)), o 198 (.mov (q 10)), o 199 (.indexAddr 1 (q 197) (q 198)), o 200 (.load false 1 (q 199)), o 201 (.mov (q 18)), o 202 (.bin .add (q 200) (q 201) (some (.int .i64))), o 203 (.indexAddr 1 (q 197) (q 198)), ⟨none, .store 1 (q 203) (q 202), none⟩])))
  (.ops [o 204 (.bin .add (q 193) (.const (.int .i64 1)) (some (.int .i64))), o 193 (.mov (q 204))]))))))))))))))
  (.ops [o 205 (.bin .add (q 26) (.const (.int .i64 1)) (some (.int .i64))), o 26 (.mov (q 205))])))))))
  (.seq (.ops [o 206 (.mov (q 8)), o 6 (.mov (q 206))])
  .ret))))))⟩
theorem F126_ok : compF Tryz.prog 126 = some F126 := by kernel_rfl
/-- (*colonnade/array.Array).value -/
def F127 : FC := ⟨21, [.cell 6 true 4],
  (.seq (.ops [o 6 (.alloc [(.bool false), (.int .i64 0), (.string ⟨#[]⟩), (.slice none 0 0)])])
  (.seq (.seq (.ops [o 7 (.mov (q 0)), o 8 (.mov (q 1)), o 9 (.call 139 [.tmp 7, .tmp 8])])
  (.cond (q 9)
  (.seq (.ops [o 10 (.mov (q 2)), o 11 (.call 140 [.tmp 10, (.const (.int .i64 16))])])
  (.seq (.ops [o 12 (.build [(.bool false), (.int .i64 0), (.string ⟨#[]⟩), (.slice none 0 0)] [(0, 1, (.const (.bool true)))]), ⟨none, .store 4 (q 6) (q 12), none⟩])
  .ret))
  .skip))
  (.seq (.ops [o 13 (.mov (q 0)), o 14 (.nilCheck (q 13)), o 15 (.fieldAddr 16 (q 14)), o 16 (.load false 1 (q 15)), o 17 (.mov (q 0)), o 18 (.mov (q 1)), o 19 (.mov (q 2)), o 20 (.invoke (q 16) "colonnade/array.read" [(171, 178), (172, 185), (173, 188), (174, 189), (175, 190), (176, 192), (177, 194)] [.tmp 17, .tmp 18, .tmp 19]), ⟨none, .store 4 (q 6) (q 20), none⟩])
  .ret)))⟩
theorem F127_ok : compF Tryz.prog 127 = some F127 := by kernel_rfl
/-- colonnade/value.sized -/
def F129 : FC := ⟨16, [.tmp 2, .tmp 3],
  (.seq (.ops [o 2 (.mov (.const (.int .i64 0))), o 3 (.mov (.const (.bool false)))])
  (.seq (.seq (.ops [o 4 (.mov (q 0)), o 5 (.bin .geq (q 4) (.const (.int .i64 3)) (some (.int .i64))), o 6 (.mov (q 5)), ⟨some 7, .mov (q 0), some (6, true)⟩, ⟨some 8, .bin .leq (q 7) (.const (.int .i64 6)) (some (.int .i64)), some (6, true)⟩, o 9 (.pick (q 6) (q 8) (.const (.bool false)))])
  (.cond (q 9)
  (.seq (.ops [o 10 (.mov (q 0)), o 11 (.bin .sub (q 10) (.const (.int .i64 3)) (some (.int .i64))), o 12 (.bin .shl (.const (.int .i64 8)) (q 11) (some (.int .i64))), o 2 (.mov (q 12)), o 3 (.mov (.const (.bool true)))])
  .ret)
  .skip))
  (.seq (.ops [o 13 (.mov (q 0)), o 14 (.bin .sub (q 13) (.const (.int .i64 7)) (some (.int .i64))), o 15 (.bin .shl (.const (.int .i64 8)) (q 14) (some (.int .i64))), o 2 (.mov (q 15)), o 3 (.mov (.const (.bool false)))])
  .ret)))⟩
theorem F129_ok : compF Tryz.prog 129 = some F129 := by kernel_rfl
/-- colonnade/colonnaderef04.Utf8 -/
def F130 : FC := ⟨92, [.tmp 4],
  (.seq (.ops [o 4 (.mov (.const (.int .i64 0)))])
  (.seq (.seq (.ops [o 10 (.mov (q 1)), o 11 (.mov (q 0)), o 12 (.len 0 (q 11)), o 13 (.bin .geq (q 10) (q 12) (some (.int .i64)))])
  (.cond (q 13)
  (.seq (.ops [o 4 (.mov (.const (.int .i64 0)))])
  .ret)
  .skip))
  (.seq (.ops [o 14 (.mov (q 0)), o 15 (.mov (q 1)), o 16 (.indexStr (q 14) (q 15)), o 5 (.mov (q 16))])
  (.seq (.ops [o 6 (.mov (.const (.int .u8 128)))])
  (.seq (.ops [o 7 (.mov (.const (.int .u8 191)))])
  (.seq (.ops [o 8 (.mov (.const (.int .i64 0)))])
  (.seq (.block 0 (.seq (.ops [o 18 (.mov (q 5)), o 19 (.bin .lss (q 18) (.const (.int .u8 128)) (some (.int .u8))), o 17 (.mov (q 19))])
  (.cond (q 17)
  (.seq (.ops [o 4 (.mov (.const (.int .i64 1)))])
  .ret)
  (.seq (.ops [o 21 (.mov (q 5)), o 22 (.bin .geq (q 21) (.const (.int .u8 194)) (some (.int .u8))), o 23 (.mov (q 22)), ⟨some 24, .mov (q 5), some (23, true)⟩, ⟨some 25, .bin .leq (q 24) (.const (.int .u8 223)) (some (.int .u8)), some (23, true)⟩, o 26 (.pick (q 23) (q 25) (.const (.bool false))), o 20 (.mov (q 26))])
  (.cond (q 20)
  (.ops [o 8 (.mov (.const (.int .i64 2)))])
  (.seq (.ops [o 28 (.mov (q 5)), o 29 (.bin .geq (q 28) (.const (.int .u8 224)) (some (.int .u8))), o 30 (.mov (q 29)), ⟨some 31, .mov (q 5), some (30, true)⟩, ⟨some 32, .bin .leq (q 31) (.const (.int .u8 239)) (some (.int .u8)), some (30, true)⟩, o 33 (.pick (q 30) (q 32) (.const (.bool false))), o 27 (.mov (q 33))])
  (.cond (q 27)
  (.ops [o 8 (.mov (.const (.int .i64 3)))])
  (.seq (.ops [o 35 (.mov (q 5)), o 36 (.bin .geq (q 35) (.const (.int .u8 240)) (some (.int .u8))), o 37 (.mov (q 36)), ⟨some 38, .mov (q 5), some (37, true)⟩, ⟨some 39, .bin .leq (q 38) (.const (.int .u8 244)) (some (.int .u8)), some (37, true)⟩, o 40 (.pick (q 37) (q 39) (.const (.bool false))), o 34 (.mov (q 40))])
  (.cond (q 34)
  (.ops [o 8 (.mov (.const (.int .i64 4)))])
  (.seq (.ops [o 4 (.mov (.const (.int .i64 0)))])
  .ret))))))))))
  (.seq (.seq (.ops [o 41 (.mov (q 5))])
  (.block 1 (.seq (.ops [o 43 (.bin .eql (q 41) (.const (.int .u8 224)) (some (.int .u8))), o 42 (.mov (q 43))])
  (.cond (q 42)
  (.ops [o 6 (.mov (.const (.int .u8 160)))])
  (.seq (.ops [o 45 (.bin .eql (q 41) (.const (.int .u8 237)) (some (.int .u8))), o 44 (.mov (q 45))])
  (.cond (q 44)
  (.ops [o 7 (.mov (.const (.int .u8 159)))])
  (.seq (.ops [o 47 (.bin .eql (q 41) (.const (.int .u8 240)) (some (.int .u8))), o 46 (.mov (q 47))])
  (.cond (q 46)
  (.ops [o 6 (.mov (.const (.int .u8 144)))])
  (.seq (.ops [o 49 (.bin .eql (q 41) (.const (.int .u8 244)) (some (.int .u8))), o 48 (.mov (q 49))])
  (.cond (q 48)
  (.ops [o 7 (.mov (.const (.int .u8 143)))])
  .skip))))))))))
  (.seq (.seq (.ops [o 50 (.mov (q 1)), o 51 (.mov (q 8)), o 52 (.bin .add (q 50) (q 51) (some (.int .i64))), o 53 (.mov (q 0)), o 54 (.len 0 (q 53)), o 55 (.bin .gtr (q 52) (q 54) (some (.int .i64))), o 56 (.mov (q 55)), ⟨some 57, .mov (q 0), some (56, false)⟩, ⟨some 58, .mov (q 1), some (56, false)⟩, ⟨some 59, .bin .add (q 58) (.const (.int .i64 1)) (some (.int .i64)), some (56, false)⟩, ⟨some 60, .indexStr (q 57) (q 59), some (56, false)⟩, ⟨some 61, .mov (q 6), some (56, false)⟩, ⟨some 62, .bin .lss (q 60) (q 61) (some (.int .u8)), some (56, false)⟩, o 63 (.pick (q 56) (.const (.bool true)) (q 62)), o 64 (.mov (q 63)), ⟨some 65, .mov (q 0), some (64, false)⟩, ⟨some 66, .mov (q 1), some (64, false)⟩, ⟨some 67, .bin .add (q 66) (.const (.int .i64 1)) (some (.int .i64)), some (64, false)⟩, ⟨some 68, .indexStr (q 65) (q 67), some (64, false)⟩, ⟨some 69, .mov (q 7), some (64, false)⟩, ⟨some 70, .bin .gtr (q 68) (q 69) (some (.int .u8)), some (64, false)⟩, o 71 (.pick (q 64) (.const (.bool true)) (q 70))])
  (.cond (q 71)
  (.seq (.ops [o 4 (.mov (.const (.int .i64 0)))])
  .ret)
  .skip))
  (.seq (.seq (.ops [o 9 (.mov (.const (.int .i64 2)))])
  (.block 2 (.loop (.seq (.seq (.ops [o 72 (.mov (q 9)), o 73 (.mov (q 8)), o 74 (.bin .lss (q 72) (q 73) (some (.int .i64)))])
  (.cond (q 74)
  .skip
  (.exit 2)))
  (.seq (.block 3 (.seq (.ops [o 77 (.mov (q 0)), o 78 (.mov (q 1)), o 79 (.mov (q 9)), o 80 (.bin .add (q 78) (q 79) (some (.int .i64))), o 81 (.indexStr (q 77) (q 80)), o 82 (.bin .lss (q 81) (.const (.int .u8 128)) (some (.int .u8))), o 83 (.mov (q 82)), ⟨some 84, .mov (q 0), some (83, false)⟩, ⟨some 85, .mov (q 1), some (83, false)⟩, ⟨some 86, .mov (q 9), some (83, false)⟩, ⟨some 87, .bin .add (q 85) (q 86) (some (.int .i64)), some (83, false)⟩, ⟨some 88, .indexStr (q 84) (q 87), some (83, false)⟩, ⟨some 89, .bin .gtr (q 88) (.const (.int .u8 191)) (some (.int .u8)), some (83, false)⟩, o 90 (.pick (q 83) (.const (.bool true)) (q 89))])
  (.cond (q 90)
  (.seq (.ops [o 4 (.mov (.const (.int .i64 0)))])
  .ret)
  .skip)))
  (.ops [o 75 (.mov (q 9)), o 76 (.bin .add (q 75) (.const (.int .i64 1)) (some (.int .i64))), o 9 (.mov (q 76))]))))))
  (.seq (.ops [o 91 (.mov (q 8)), o 4 (.mov (q 91))])
  .ret)))))))))))⟩
theorem F130_ok : compF Tryz.prog 130 = some F130 := by kernel_rfl
/-- colonnade/kind.Shape -/
def F131 : FC := ⟨20, [.tmp 2, .tmp 3, .tmp 4],
  (.seq (.ops [o 1 (.box (q 0)), o 2 (.mov (.const (.int .i64 0))), o 3 (.mov (.const (.int .i64 0))), o 4 (.mov (.const (.int .i64 0)))])
  (.seq (.seq (.ops [o 5 (.load true 5 (q 1)), o 6 (.call 141 [.tmp 5]), o 7 (.un .not (q 6))])
  (.cond (q 7)
  (.seq (.ops [o 2 (.mov (.const (.int .i64 (-1)))), o 3 (.mov (.const (.int .i64 (-1)))), o 4 (.mov (.const (.int .i64 (-1))))])
  .ret)
  .skip))
  (.seq (.seq (.ops [o 8 (.fieldAddr 0 (q 1)), o 9 (.load false 1 (q 8)), o 10 (.bin .eql (q 9) (.const (.int .i64 19)) (some (.int .i64)))])
  (.cond (q 10)
  (.ops [o 4 (.mov (.const (.int .i64 1)))])
  .skip))
  (.seq (.ops [o 11 (.fieldAddr 0 (q 1)), o 12 (.load false 1 (q 11)), o 13 (.indexAddrArr 4 21 (.global 1) (q 12)), o 14 (.fieldAddr 2 (q 13)), o 15 (.load false 1 (q 14)), o 16 (.load true 5 (q 1)), o 19 (.mov (q 4)), o 17 (.call 142 [.tmp 16]), ⟨none, .again 15 false 1 (q 14), none⟩, ⟨none, .again 12 false 1 (q 11), none⟩, o 18 (.len 1 (q 17)), o 2 (.mov (q 15)), o 3 (.mov (q 18)), o 4 (.mov (q 19))])
  .ret))))⟩
theorem F131_ok : compF Tryz.prog 131 = some F131 := by kernel_rfl
/-- colonnade/array.needs -/
def F132 : FC := ⟨58, [.tmp 8],
  (.seq (.ops [o 4 (.box (q 0)), o 8 (.mov (.const (.int .i64 0)))])
  (.seq (.block 0 (.seq (.ops [o 10 (.fieldAddr 0 (q 4)), o 11 (.load false 1 (q 10)), o 12 (.bin .eql (q 11) (.const (.int .i64 18)) (some (.int .i64))), o 9 (.mov (q 12))])
  (.cond (q 9)
  (.seq (.ops [o 13 (.mov (q 2)), o 14 (.mov (q 1)), o 15 (.bin .mul (.const (.int .i64 3)) (q 14) (some (.int .i64))), o 16 (.bin .add (.const (.int .i64 1)) (q 15) (some (.int .i64))), o 17 (.bin .mul (q 13) (q 16) (some (.int .i64))), o 8 (.mov (q 17))])
  .ret)
  (.seq (.seq (.ops [o 19 (.mov (q 1)), o 20 (.bin .eql (q 19) (.const (.int .i64 0)) (some (.int .i64))), o 21 (.mov (q 20)), ⟨some 22, .mov (q 3), some (21, true)⟩, ⟨some 23, .bin .eql (q 22) (.const (.int .i64 0)) (some (.int .i64)), some (21, true)⟩, o 24 (.pick (q 21) (q 23) (.const (.bool false))), o 18 (.mov (q 24))])
  (.cond (q 18)
  .skip
  (.ops [o 25 (.mov (q 1)), o 26 (.bin .eql (q 25) (.const (.int .i64 2)) (some (.int .i64))), o 18 (.mov (q 26))])))
  (.cond (q 18)
  (.seq (.ops [o 8 (.mov (.const (.int .i64 0)))])
  .ret)
  (.seq (.ops [o 28 (.mov (q 1)), o 29 (.bin .eql (q 28) (.const (.int .i64 0)) (some (.int .i64))), o 30 (.mov (q 29)), ⟨some 31, .fieldAddr 0 (q 4), some (30, false)⟩, ⟨some 32, .load false 1 (q 31), some (30, false)⟩, ⟨some 33, .bin .eql (q 32) (.const (.int .i64 2)) (some (.int .i64)), some (30, false)⟩, o 34 (.pick (q 30) (.const (.bool true)) (q 33)), o 27 (.mov (q 34))])
  (.cond (q 27)
  (.seq (.ops [o 35 (.mov (q 2)), o 36 (.call 143 [.tmp 35]), o 8 (.mov (q 36))])
  .ret)
  (.seq (.ops [o 38 (.fieldAddr 0 (q 4)), o 39 (.load false 1 (q 38)), o 40 (.bin .eql (q 39) (.const (.int .i64 12)) (some (.int .i64))), o 41 (.mov (q 40)), ⟨some 42, .fieldAddr 0 (q 4), some (41, false)⟩, ⟨some 43, .load false 1 (q 42), some (41, false)⟩, ⟨some 44, .bin .eql (q 43) (.const (.int .i64 13)) (some (.int .i64)), some (41, false)⟩, o 45 (.pick (q 41) (.const (.bool true)) (q 44)), o 46 (.mov (q 45)), ⟨some 47, .fieldAddr 0 (q 4), some (46, false)⟩, ⟨some 48, .load false 1 (q 47), some (46, false)⟩, ⟨some 49, .bin .eql (q 48) (.const (.int .i64 15)) (some (.int .i64)), some (46, false)⟩, o 50 (.pick (q 46) (.const (.bool true)) (q 49)), o 37 (.mov (q 50))])
  (.cond (q 37)
  (.seq (.ops [o 51 (.mov (q 2)), o 52 (.bin .add (q 51) (.const (.int .i64 1)) (some (.int .i64))), o 53 (.bin .mul (.const (.int .i64 4)) (q 52) (some (.int .i64))), o 8 (.mov (q 53))])
  .ret)
  .skip)))))))))
  (.seq (.ops [o 54 (.mov (q 2)), o 55 (.load true 5 (q 4)), o 56 (.call 144 [.tmp 55]), o 57 (.bin .mul (q 54) (q 56) (some (.int .i64))), o 8 (.mov (q 57))])
  .ret)))⟩
theorem F132_ok : compF Tryz.prog 132 = some F132 := by kernel_rfl
/-- colonnade/array.nulls -/
def F133 : FC := ⟨24, [.cell 4 true 3],
  (.seq (.ops [o 2 (.box (q 0)), o 3 (.box (q 1)), o 4 (.alloc [.int .i64 0, .slice none 0 0, .int .i64 0])])
  (.seq (.seq (.ops [o 6 (.load true 7 (q 2)), o 7 (.load true 6 (q 3)), o 8 (.call 145 [.tmp 6, .tmp 7]), o 5 (.mov (q 8))])
  (.seq (.ops [o 9 (.fieldAddr 2 (q 3)), o 10 (.load false 1 (q 9)), o 11 (.mov (q 5)), o 12 (.bin .neq (q 10) (q 11) (some (.int .i64))), o 13 (.mov (q 12)), ⟨some 14, .mov (q 5), some (13, false)⟩, ⟨some 15, .bin .gtr (q 14) (.const (.int .i64 0)) (some (.int .i64)), some (13, false)⟩, ⟨some 16, .mov (q 15), some (13, false)⟩, ⟨some 17, .fieldAddr 1 (q 2), some (16, true)⟩, ⟨some 18, .load false 1 (q 17), some (16, true)⟩, ⟨some 19, .un .not (q 18), some (16, true)⟩, ⟨some 20, .pick (q 16) (q 19) (.const (.bool false)), some (13, false)⟩, o 21 (.pick (q 13) (.const (.bool true)) (q 20))])
  (.cond (q 21)
  (.seq (.ops [o 22 (.call 96 [(.const (.int .i64 81)), (.const (.int .i64 1))]), ⟨none, .store 3 (q 4) (q 22), none⟩])
  .ret)
  .skip)))
  (.seq (.ops [o 23 (.build [.int .i64 0, .slice none 0 0, .int .i64 0] []), ⟨none, .store 3 (q 4) (q 23), none⟩])
  .ret)))⟩
theorem F133_ok : compF Tryz.prog 133 = some F133 := by kernel_rfl
/-- colonnade/array.null -/
def F136 : FC := ⟨37, [.tmp 6],
  (.seq (.ops [o 3 (.box (q 0)), o 4 (.box (q 1)), o 6 (.mov (.const (.bool false)))])
  (.seq (.seq (.ops [o 9 (.fieldAddr 2 (q 3)), o 10 (.fieldAddr 0 (q 9)), o 11 (.load false 1 (q 10)), o 12 (.bin .eql (q 11) (.const (.int .i64 1)) (some (.int .i64)))])
  (.cond (q 12)
  (.seq (.ops [o 6 (.mov (.const (.bool true)))])
  .ret)
  .skip))
  (.seq (.seq (.ops [o 13 (.fieldAddr 2 (q 3)), o 14 (.fieldAddr 0 (q 13)), o 15 (.load false 1 (q 14)), o 16 (.call 147 [.tmp 15]), o 17 (.un .not (q 16)), o 18 (.mov (q 17)), ⟨some 19, .fieldAddr 3 (q 4), some (18, false)⟩, ⟨some 20, .load false 1 (q 19), some (18, false)⟩, ⟨some 21, .indexAddr 1 (q 20) (.const (.int .i64 0)), some (18, false)⟩, ⟨some 22, .load false 1 (q 21), some (18, false)⟩, ⟨some 23, .len 1 (q 22), some (18, false)⟩, ⟨some 24, .bin .eql (q 23) (.const (.int .i64 0)) (some (.int .i64)), some (18, false)⟩, o 25 (.pick (q 18) (.const (.bool true)) (q 24))])
  (.cond (q 25)
  (.seq (.ops [o 6 (.mov (.const (.bool false)))])
  .ret)
  .skip))
  (.seq (.ops [o 27 (.fieldAddr 3 (q 4)), o 28 (.load false 1 (q 27)), o 29 (.indexAddr 1 (q 28) (.const (.int .i64 0))), o 30 (.load false 1 (q 29)), o 31 (.mov (q 2)), o 32 (.call 148 [.tmp 30, .tmp 31]), o 26 (.mov (q 32)), o 33 (.extract (q 26) 0), o 34 (.extract (q 26) 1), o 7 (.mov (q 33)), o 8 (.mov (q 34))])
  (.seq (.ops [o 35 (.mov (q 7)), o 36 (.un .not (q 35)), o 6 (.mov (q 36))])
  .ret)))))⟩
theorem F136_ok : compF Tryz.prog 136 = some F136 := by kernel_rfl
/-- colonnade/array.slice -/
def F138 : FC := ⟨16, [.tmp 6],
  (.seq (.ops [o 6 (.mov (.const (.slice none 0 0)))])
  (.seq (.seq (.ops [o 7 (.mov (q 1)), o 8 (.mov (q 2)), o 9 (.bin .eql (q 7) (q 8) (some (.int .i64)))])
  (.cond (q 9)
  (.seq (.ops [o 6 (.mov (.const (.slice none 0 0)))])
  .ret)
  .skip))
  (.seq (.ops [o 10 (.mov (q 0)), o 11 (.indexAddr 1 (q 10) (.const (.int .i64 0))), o 12 (.load false 1 (q 11)), o 13 (.mov (q 1)), o 14 (.mov (q 2)), o 15 (.slice 1 (q 12) (some (q 13)) (some (q 14)) none), o 6 (.mov (q 15))])
  .ret)))⟩
theorem F138_ok : compF Tryz.prog 138 = some F138 := by kernel_rfl
/-- (*colonnade/array.Array).nullAt -/
def F139 : FC := ⟨47, [.tmp 4],
  (.seq (.ops [o 4 (.mov (.const (.bool false)))])
  (.seq (.seq (.ops [o 7 (.mov (q 0)), o 8 (.nilCheck (q 7)), o 9 (.fieldAddr 0 (q 8)), o 10 (.fieldAddr 2 (q 9)), o 11 (.fieldAddr 0 (q 10)), o 12 (.load false 1 (q 11)), o 13 (.bin .eql (q 12) (.const (.int .i64 1)) (some (.int .i64)))])
  (.cond (q 13)
  (.seq (.ops [o 4 (.mov (.const (.bool true)))])
  .ret)
  .skip))
  (.seq (.seq (.ops [o 14 (.mov (q 0)), o 15 (.nilCheck (q 14)), o 16 (.fieldAddr 0 (q 15)), o 17 (.fieldAddr 2 (q 16)), o 18 (.fieldAddr 0 (q 17)), o 19 (.load false 1 (q 18)), o 20 (.call 147 [.tmp 19]), o 21 (.un .not (q 20)), o 22 (.mov (q 21)), ⟨some 23, .mov (q 0), some (22, false)⟩, ⟨some 24, .nilCheck (q 23), some (22, false)⟩, ⟨some 25, .fieldAddr 7 (q 24), some (22, false)⟩, ⟨some 26, .fieldAddr 3 (q 25), some (22, false)⟩, ⟨some 27, .load false 1 (q 26), some (22, false)⟩, ⟨some 28, .indexAddr 1 (q 27) (.const (.int .i64 0)), some (22, false)⟩, ⟨some 29, .load false 1 (q 28), some (22, false)⟩, ⟨some 30, .len 1 (q 29), some (22, false)⟩, ⟨some 31, .bin .eql (q 30) (.const (.int .i64 0)) (some (.int .i64)), some (22, false)⟩, o 32 (.pick (q 22) (.const (.bool true)) (q 31))])
  (.cond (q 32)
  (.seq (.ops [o 4 (.mov (.const (.bool false)))])
  .ret)
  .skip))
  (.seq (.ops [o 34 (.mov (q 0)), o 35 (.call 150 [.tmp 34, (.const (.int .i64 0))]), o 36 (.mov (q 1)), o 37 (.bin .quo (q 36) (.const (.int .i64 8)) (some (.int .i64))), o 38 (.call 151 [.tmp 35, .tmp 37]), o 33 (.mov (q 38)), o 39 (.extract (q 33) 0), o 40 (.extract (q 33) 1), o 5 (.mov (q 39)), o 6 (.mov (q 40))])
  (.seq (.ops [o 41 (.mov (q 5)), o 42 (.mov (q 1)), o 43 (.bin .rem (q 42) (.const (.int .i64 8)) (some (.int .i64))), o 44 (.bin .shr (q 41) (q 43) (some (.int .u8))), o 45 (.bin .and (q 44) (.const (.int .u8 1)) (some (.int .u8))), o 46 (.bin .eql (q 45) (.const (.int .u8 0)) (some (.int .u8))), o 4 (.mov (q 46))])
  .ret)))))⟩
theorem F139_ok : compF Tryz.prog 139 = some F139 := by kernel_rfl
/-- colonnade/array.weigh -/
def F140 : FC := ⟨16, [],
  (.seq (.ops [o 4 (.mov (q 0)), o 5 (.nilCheck (q 4)), o 6 (.load false 1 (q 5)), o 7 (.mov (q 1)), o 8 (.bin .sub (q 6) (q 7) (some (.int .i64))), o 9 (.nilCheck (q 4)), ⟨none, .store 1 (q 9) (q 8), none⟩])
  (.seq (.ops [o 10 (.mov (q 0)), o 11 (.nilCheck (q 10)), o 12 (.load false 1 (q 11)), o 13 (.bin .lss (q 12) (.const (.int .i64 0)) (some (.int .i64)))])
  (.cond (q 13)
  (.ops [o 14 (.build [] []), o 15 (.mkIface 178 (q 14)), ⟨none, .bad, none⟩])
  .skip)))⟩
theorem F140_ok : compF Tryz.prog 140 = some F140 := by kernel_rfl
/-- colonnade/kind.mayType -/
def F141 : FC := ⟨8, [.tmp 2],
  (.seq (.ops [o 1 (.box (q 0)), o 2 (.mov (.const (.bool false)))])
  (.seq (.ops [o 3 (.load true 5 (q 1)), o 4 (.call 152 [.tmp 3]), o 5 (.call 15 [.tmp 4]), o 6 (.field false 0 1 (q 5)), o 7 (.bin .eql (q 6) (.const (.int .i64 0)) (some (.int .i64))), o 2 (.mov (q 7))])
  .ret))⟩
theorem F141_ok : compF Tryz.prog 141 = some F141 := by kernel_rfl
/-- colonnade/kind.Parts -/
def F142 : FC := ⟨24, [.tmp 2],
  (.seq (.ops [o 1 (.box (q 0)), o 2 (.mov (.const (.slice none 0 0)))])
  (.seq (.seq (.ops [o 4 (.load true 5 (q 1)), o 5 (.call 141 [.tmp 4]), o 6 (.un .not (q 5)), o 7 (.mov (q 6)), ⟨some 8, .fieldAddr 0 (q 1), some (7, false)⟩, ⟨some 9, .load false 1 (q 8), some (7, false)⟩, ⟨some 10, .bin .eql (q 9) (.const (.int .i64 19)) (some (.int .i64)), some (7, false)⟩, o 11 (.pick (q 7) (.const (.bool true)) (q 10))])
  (.cond (q 11)
  (.seq (.ops [o 2 (.mov (.const (.slice none 0 0)))])
  .ret)
  .skip))
  (.seq (.ops [o 12 (.fieldAddr 4 (q 1)), o 13 (.load false 1 (q 12)), o 14 (.call 153 [.tmp 13]), o 3 (.mov (q 14))])
  (.seq (.seq (.ops [o 15 (.fieldAddr 0 (q 1)), o 16 (.load false 1 (q 15)), o 17 (.bin .eql (q 16) (.const (.int .i64 20)) (some (.int .i64)))])
  (.cond (q 17)
  (.ops [o 18 (.build [.int .i64 0, .int .i64 0, .int .i64 0, .int .i64 0, .slice none 0 0] [(0, 1, (.const (.int .i64 5)))]), o 19 (.build [(.string ⟨#[]⟩), (.bool false), (.int .i64 0), (.int .i64 0), (.int .i64 0), (.int .i64 0), (.slice none 0 0)] [(0, 1, (.const (.string ⟨#[101, 110, 100, 115]⟩))), (2, 5, (q 18))]), o 20 (.buildSlice 7 1 [(.string ⟨#[]⟩), (.bool false), (.int .i64 0), (.int .i64 0), (.int .i64 0), (.int .i64 0), (.slice none 0 0)] [(0, 7, (q 19))]), o 21 (.mov (q 3)), o 22 (.append 7 80 (q 20) (q 21)), o 3 (.mov (q 22))])
  .skip))
  (.seq (.ops [o 23 (.mov (q 3)), o 2 (.mov (q 23))])
  .ret)))))⟩
theorem F142_ok : compF Tryz.prog 142 = some F142 := by kernel_rfl
/-- colonnade/bits.Need -/
def F143 : FC := ⟨9, [.tmp 2],
  (.seq (.ops [o 2 (.mov (.const (.int .i64 0)))])
  (.seq (.seq (.ops [o 3 (.mov (q 0)), o 4 (.bin .leq (q 3) (.const (.int .i64 0)) (some (.int .i64)))])
  (.cond (q 4)
  (.seq (.ops [o 2 (.mov (.const (.int .i64 0)))])
  .ret)
  .skip))
  (.seq (.ops [o 5 (.mov (q 0)), o 6 (.bin .sub (q 5) (.const (.int .i64 1)) (some (.int .i64))), o 7 (.bin .quo (q 6) (.const (.int .i64 8)) (some (.int .i64))), o 8 (.bin .add (q 7) (.const (.int .i64 1)) (some (.int .i64))), o 2 (.mov (q 8))])
  .ret)))⟩
theorem F143_ok : compF Tryz.prog 143 = some F143 := by kernel_rfl
/-- colonnade/kind.Width -/
def F144 : FC := ⟨24, [.tmp 2],
  (.seq (.ops [o 1 (.box (q 0)), o 2 (.mov (.const (.int .i64 0)))])
  (.seq (.seq (.ops [o 3 (.load true 5 (q 1)), o 4 (.call 141 [.tmp 3]), o 5 (.un .not (q 4))])
  (.cond (q 5)
  (.seq (.ops [o 2 (.mov (.const (.int .i64 0)))])
  .ret)
  .skip))
  (.seq (.seq (.ops [o 6 (.fieldAddr 0 (q 1)), o 7 (.load false 1 (q 6))])
  (.block 0 (.seq (.ops [o 9 (.bin .eql (q 7) (.const (.int .i64 14)) (some (.int .i64))), o 8 (.mov (q 9))])
  (.cond (q 8)
  (.seq (.ops [o 10 (.fieldAddr 1 (q 1)), o 11 (.load false 1 (q 10)), o 2 (.mov (q 11))])
  .ret)
  (.seq (.ops [o 13 (.bin .eql (q 7) (.const (.int .i64 19)) (some (.int .i64))), o 12 (.mov (q 13))])
  (.cond (q 12)
  (.seq (.ops [o 14 (.fieldAddr 3 (q 1)), o 15 (.load false 1 (q 14)), o 16 (.indexAddrArr 4 21 (.global 1) (q 15)), o 17 (.fieldAddr 1 (q 16)), o 18 (.load false 1 (q 17)), o 2 (.mov (q 18))])
  .ret)
  .skip))))))
  (.seq (.ops [o 19 (.fieldAddr 0 (q 1)), o 20 (.load false 1 (q 19)), o 21 (.indexAddrArr 4 21 (.global 1) (q 20)), o 22 (.fieldAddr 1 (q 21)), o 23 (.load false 1 (q 22)), o 2 (.mov (q 23))])
  .ret))))⟩
theorem F144_ok : compF Tryz.prog 144 = some F144 := by kernel_rfl
/-- colonnade/array.countNulls -/
def F145 : FC := ⟨23, [.tmp 4],
  (.seq (.ops [o 2 (.box (q 0)), o 3 (.box (q 1)), o 4 (.mov (.const (.int .i64 0)))])
  (.seq (.ops [o 5 (.mov (.const (.int .i64 0)))])
  (.seq (.seq (.ops [o 7 (.fieldAddr 0 (q 3)), o 8 (.load false 1 (q 7)), o 9 (.mov (.const (.int .i64 0)))])
  (.block 0 (.loop (.seq (.ops [o 10 (.bin .lss (q 9) (q 8) (some (.int .i64)))])
  (.seq (.cond (q 10)
  .skip
  (.exit 0))
  (.seq (.block 1 (.seq (.ops [o 11 (.mov (q 9)), o 6 (.mov (q 11))])
  (.seq (.ops [o 12 (.load true 7 (q 2)), o 13 (.load true 6 (q 3)), o 14 (.fieldAddr 1 (q 3)), o 15 (.load false 1 (q 14)), o 16 (.mov (q 6)), o 17 (.bin .add (q 15) (q 16) (some (.int .i64))), o 18 (.call 136 [.tmp 12, .tmp 13, .tmp 17])])
  (.cond (q 18)
  (.ops [o 19 (.mov (q 5)), o 20 (.bin .add (q 19) (.const (.int .i64 1)) (some (.int .i64))), o 5 (.mov (q 20))])
  .skip))))
  (.ops [o 21 (.bin .add (q 9) (.const (.int .i64 1)) (some (.int .i64))), o 9 (.mov (q 21))])))))))
  (.seq (.ops [o 22 (.mov (q 5)), o 4 (.mov (q 22))])
  .ret))))⟩
theorem F145_ok : compF Tryz.prog 145 = some F145 := by kernel_rfl
/-- colonnade/array.hasValidity -/
def F147 : FC := ⟨13, [.tmp 2],
  (.seq (.ops [o 2 (.mov (.const (.bool false)))])
  (.seq (.ops [o 3 (.mov (q 0)), o 4 (.bin .neq (q 3) (.const (.int .i64 1)) (some (.int .i64))), o 5 (.mov (q 4)), ⟨some 6, .mov (q 0), some (5, true)⟩, ⟨some 7, .bin .neq (q 6) (.const (.int .i64 18)) (some (.int .i64)), some (5, true)⟩, o 8 (.pick (q 5) (q 7) (.const (.bool false))), o 9 (.mov (q 8)), ⟨some 10, .mov (q 0), some (9, true)⟩, ⟨some 11, .bin .neq (q 10) (.const (.int .i64 20)) (some (.int .i64)), some (9, true)⟩, o 12 (.pick (q 9) (q 11) (.const (.bool false))), o 2 (.mov (q 12))])
  .ret))⟩
theorem F147_ok : compF Tryz.prog 147 = some F147 := by kernel_rfl
/-- colonnade/bits.Get -/
def F148 : FC := ⟨18, [.tmp 4, .tmp 5],
  (.seq (.ops [o 4 (.mov (.const (.bool false))), o 5 (.mov (.const (.int .i64 0)))])
  (.seq (.block 0 (.seq (.ops [o 7 (.mov (q 1)), o 8 (.bin .lss (q 7) (.const (.int .i64 0)) (some (.int .i64))), o 6 (.mov (q 8))])
  (.cond (q 6)
  (.seq (.ops [o 4 (.mov (.const (.bool false))), o 5 (.mov (.const (.int .i64 1)))])
  .ret)
  (.seq (.ops [o 10 (.mov (q 1)), o 11 (.bin .quo (q 10) (.const (.int .i64 8)) (some (.int .i64))), o 12 (.mov (q 0)), o 13 (.len 1 (q 12)), o 14 (.bin .geq (q 11) (q 13) (some (.int .i64))), o 9 (.mov (q 14))])
  (.cond (q 9)
  (.seq (.ops [o 4 (.mov (.const (.bool false))), o 5 (.mov (.const (.int .i64 2)))])
  .ret)
  .skip)))))
  (.seq (.ops [o 15 (.mov (q 0)), o 16 (.mov (q 1)), o 17 (.call 155 [.tmp 15, .tmp 16]), o 4 (.mov (q 17)), o 5 (.mov (.const (.int .i64 0)))])
  .ret)))⟩
theorem F148_ok : compF Tryz.prog 148 = some F148 := by kernel_rfl
/-- colonnade/array.width -/
def F149 : FC := ⟨17, [.tmp 2],
  (.seq (.ops [o 2 (.mov (.const (.int .i64 0)))])
  (.seq (.seq (.ops [o 3 (.mov (q 0))])
  (.block 0 (.seq (.seq (.ops [o 5 (.bin .eql (q 3) (.const (.int .i64 3)) (some (.int .i64))), o 4 (.mov (q 5))])
  (.cond (q 4)
  .skip
  (.ops [o 6 (.bin .eql (q 3) (.const (.int .i64 7)) (some (.int .i64))), o 4 (.mov (q 6))])))
  (.cond (q 4)
  (.seq (.ops [o 2 (.mov (.const (.int .i64 1)))])
  .ret)
  (.seq (.seq (.ops [o 8 (.bin .eql (q 3) (.const (.int .i64 4)) (some (.int .i64))), o 7 (.mov (q 8))])
  (.cond (q 7)
  .skip
  (.ops [o 9 (.bin .eql (q 3) (.const (.int .i64 8)) (some (.int .i64))), o 7 (.mov (q 9))])))
  (.cond (q 7)
  (.seq (.ops [o 2 (.mov (.const (.int .i64 2)))])
  .ret)
  (.seq (.seq (.ops [o 11 (.bin .eql (q 3) (.const (.int .i64 5)) (some (.int .i64))), o 10 (.mov (q 11))])
  (.cond (q 10)
  .skip
  (.ops [o 12 (.bin .eql (q 3) (.const (.int .i64 9)) (some (.int .i64))), o 10 (.mov (q 12))])))
  (.cond (q 10)
  (.seq (.ops [o 2 (.mov (.const (.int .i64 4)))])
  .ret)
  (.seq (.seq (.ops [o 14 (.bin .eql (q 3) (.const (.int .i64 6)) (some (.int .i64))), o 13 (.mov (q 14))])
  (.cond (q 13)
  .skip
  (.seq (.ops [o 15 (.bin .eql (q 3) (.const (.int .i64 10)) (some (.int .i64))), o 13 (.mov (q 15))])
  (.cond (q 13)
  .skip
  (.ops [o 16 (.bin .eql (q 3) (.const (.int .i64 11)) (some (.int .i64))), o 13 (.mov (q 16))])))))
  (.cond (q 13)
  (.seq (.ops [o 2 (.mov (.const (.int .i64 8)))])
  .ret)
  .skip))))))))))
  (.seq (.ops [o 2 (.mov (.const (.int .i64 0)))])
  .ret)))⟩
theorem F149_ok : compF Tryz.prog 149 = some F149 := by kernel_rfl
/-- (*colonnade/array.Array).bytes -/
def F150 : FC := ⟨19, [.cell 4 true 3],
  (.seq (.ops [o 4 (.alloc [.slice none 0 0, .int .i64 0, .pointer none])])
  (.seq (.ops [o 5 (.mov (q 0)), o 6 (.nilCheck (q 5)), o 7 (.fieldAddr 7 (q 6)), o 8 (.fieldAddr 3 (q 7)), o 9 (.load false 1 (q 8)), o 10 (.mov (q 1)), o 11 (.indexAddr 1 (q 9) (q 10)), o 12 (.load false 1 (q 11)), o 14 (.mov (q 0)), o 15 (.nilCheck (q 14)), o 16 (.fieldAddr 15 (q 15)), o 17 (.load false 1 (q 16)), o 13 (.call 156 [.tmp 12]), ⟨none, .again 17 false 1 (q 16), none⟩, o 18 (.call 157 [.tmp 13, .tmp 17]), ⟨none, .store 3 (q 4) (q 18), none⟩])
  .ret))⟩
theorem F150_ok : compF Tryz.prog 150 = some F150 := by kernel_rfl
/-- (colonnade/view.View).Byte -/
def F151 : FC := ⟨15, [.tmp 4, .tmp 5],
  (.seq (.ops [o 2 (.box (q 0)), o 4 (.mov (.const (.int .u8 0))), o 5 (.mov (.const (.int .i64 0)))])
  (.seq (.seq (.ops [o 6 (.load true 3 (q 2)), o 7 (.mov (q 1)), o 8 (.call 158 [.tmp 6, .tmp 7, (.const (.int .i64 1))]), o 9 (.un .not (q 8))])
  (.cond (q 9)
  (.seq (.ops [o 4 (.mov (.const (.int .u8 0))), o 5 (.mov (.const (.int .i64 2)))])
  .ret)
  .skip))
  (.seq (.ops [o 10 (.load true 3 (q 2)), o 11 (.mov (q 1)), o 12 (.call 159 [.tmp 10, .tmp 11, (.const (.int .i64 1))]), o 13 (.indexAddr 1 (q 12) (.const (.int .i64 0))), o 14 (.load false 1 (q 13)), o 4 (.mov (q 14)), o 5 (.mov (.const (.int .i64 0)))])
  .ret)))⟩
theorem F151_ok : compF Tryz.prog 151 = some F151 := by kernel_rfl
/-- colonnade/kind.holder -/
def F152 : FC := ⟨29, [.cell 2 true 7],
  (.seq (.ops [o 1 (.box (q 0)), o 2 (.alloc [(.string ⟨#[]⟩), (.bool false), (.int .i64 0), (.int .i64 0), (.int .i64 0), (.int .i64 0), (.slice none 0 0)])])
  (.seq (.ops [o 4 (.load true 5 (q 1)), o 5 (.build [(.string ⟨#[]⟩), (.bool false), (.int .i64 0), (.int .i64 0), (.int .i64 0), (.int .i64 0), (.slice none 0 0)] [(0, 1, (.const (.string ⟨#[97]⟩))), (2, 5, (q 4))]), o 3 (.alloc [(.string ⟨#[]⟩), (.bool false), (.int .i64 0), (.int .i64 0), (.int .i64 0), (.int .i64 0), (.slice none 0 0)]), ⟨none, .store 7 (q 3) (q 5), none⟩])
  (.seq (.ops [o 6 (.fieldAddr 0 (q 1)), o 7 (.load false 1 (q 6)), o 8 (.bin .eql (q 7) (.const (.int .i64 1)) (some (.int .i64))), o 9 (.mov (q 8)), ⟨some 10, .fieldAddr 0 (q 1), some (9, false)⟩, ⟨some 11, .load false 1 (q 10), some (9, false)⟩, ⟨some 12, .bin .eql (q 11) (.const (.int .i64 20)) (some (.int .i64)), some (9, false)⟩, ⟨some 13, .mov (q 12), some (9, false)⟩, ⟨some 14, .fieldAddr 4 (q 1), some (13, true)⟩, ⟨some 15, .load false 1 (q 14), some (13, true)⟩, ⟨some 16, .len 1 (q 15), some (13, true)⟩, ⟨some 17, .bin .gtr (q 16) (.const (.int .i64 0)) (some (.int .i64)), some (13, true)⟩, ⟨some 18, .pick (q 13) (q 17) (.const (.bool false)), some (9, false)⟩, ⟨some 19, .mov (q 18), some (9, false)⟩, ⟨some 20, .fieldAddr 4 (q 1), some (19, true)⟩, ⟨some 21, .load false 1 (q 20), some (19, true)⟩, ⟨some 22, .indexAddr 7 (q 21) (.const (.int .i64 0)), some (19, true)⟩, ⟨some 23, .fieldAddr 1 (q 22), some (19, true)⟩, ⟨some 24, .load false 1 (q 23), some (19, true)⟩, ⟨some 25, .pick (q 19) (q 24) (.const (.bool false)), some (9, false)⟩, o 26 (.pick (q 9) (.const (.bool true)) (q 25)), o 27 (.fieldAddr 1 (q 3)), ⟨none, .store 1 (q 27) (q 26), none⟩])
  (.seq (.ops [o 28 (.load true 7 (q 3)), ⟨none, .store 7 (q 2) (q 28), none⟩])
  .ret))))⟩
theorem F152_ok : compF Tryz.prog 152 = some F152 := by kernel_rfl
/-- colonnade/kind.copied -/
def F153 : FC := ⟨25, [.tmp 2],
  (.seq (.ops [o 2 (.mov (.const (.slice none 0 0)))])
  (.seq (.ops [o 3 (.mov (.const (.slice none 0 0)))])
  (.seq (.seq (.ops [o 6 (.mov (q 0)), o 7 (.len 1 (q 6)), o 8 (.mov (.const (.int .i64 0)))])
  (.block 0 (.loop (.seq (.ops [o 9 (.bin .lss (q 8) (q 7) (some (.int .i64)))])
  (.seq (.cond (q 9)
  .skip
  (.exit 0))
  (.seq (.block 1 (.seq (.ops [o 10 (.indexAddr 7 (q 6) (q 8)), o 11 (.load true 7 (q 10)), o 5 (.alloc [(.string ⟨#[]⟩), (.bool false), (.int .i64 0), (.int .i64 0), (.int .i64 0), (.int .i64 0), (.slice none 0 0)]), ⟨none, .store 7 (q 5) (q 11), none⟩])
  (.seq (.ops [o 12 (.fieldAddr 2 (q 5)), o 13 (.fieldAddr 4 (q 12)), o 14 (.load false 1 (q 13)), o 15 (.call 153 [.tmp 14]), o 16 (.fieldAddr 2 (q 5)), o 17 (.fieldAddr 4 (q 16)), ⟨none, .store 1 (q 17) (q 15), none⟩])
  (.ops [o 18 (.mov (q 3)), o 19 (.load true 7 (q 5)), o 20 (.buildSlice 7 1 [(.string ⟨#[]⟩), (.bool false), (.int .i64 0), (.int .i64 0), (.int .i64 0), (.int .i64 0), (.slice none 0 0)] [(0, 7, (q 19))]), o 21 (.append 7 80 (q 18) (q 20)), o 3 (.mov (q 21))]))))
  (.ops [o 22 (.bin .add (q 8) (.const (.int .i64 1)) (some (.int .i64))), o 8 (.mov (q 22))])))))))
  (.seq (.ops [o 23 (.mov (q 3)), o 24 (.call 160 [.tmp 23]), o 2 (.mov (q 24))])
  .ret))))⟩
theorem F153_ok : compF Tryz.prog 153 = some F153 := by kernel_rfl
/-- colonnade/bits.bit -/
def F155 : FC := ⟨15, [.tmp 4],
  (.seq (.ops [o 4 (.mov (.const (.bool false)))])
  (.seq (.ops [o 5 (.mov (q 0)), o 6 (.mov (q 1)), o 7 (.bin .quo (q 6) (.const (.int .i64 8)) (some (.int .i64))), o 8 (.indexAddr 1 (q 5) (q 7)), o 9 (.load false 1 (q 8)), o 10 (.mov (q 1)), o 11 (.bin .rem (q 10) (.const (.int .i64 8)) (some (.int .i64))), o 12 (.bin .shr (q 9) (q 11) (some (.int .u8))), o 13 (.bin .and (q 12) (.const (.int .u8 1)) (some (.int .u8))), o 14 (.bin .eql (q 13) (.const (.int .u8 1)) (some (.int .u8))), o 4 (.mov (q 14))])
  .ret))⟩
theorem F155_ok : compF Tryz.prog 155 = some F155 := by kernel_rfl
/-- colonnade/view.Of -/
def F156 : FC := ⟨10, [.cell 2 true 3],
  (.seq (.ops [o 2 (.alloc [.slice none 0 0, .int .i64 0, .pointer none])])
  (.seq (.ops [o 3 (.mov (q 0)), o 4 (.mov (q 0)), o 5 (.len 1 (q 4)), o 6 (.mov (q 0)), o 7 (.len 1 (q 6)), o 8 (.slice 1 (q 3) none (some (q 5)) (some (q 7))), o 9 (.build [.slice none 0 0, .int .i64 0, .pointer none] [(0, 1, (q 8))]), ⟨none, .store 3 (q 2) (q 9), none⟩])
  .ret))⟩
theorem F156_ok : compF Tryz.prog 156 = some F156 := by kernel_rfl
/-- (colonnade/view.View).Watched -/
def F157 : FC := ⟨8, [.cell 4 true 3],
  (.seq (.ops [o 2 (.box (q 0)), o 4 (.alloc [.slice none 0 0, .int .i64 0, .pointer none])])
  (.seq (.ops [o 5 (.mov (q 1)), o 6 (.fieldAddr 2 (q 2)), ⟨none, .store 1 (q 6) (q 5), none⟩])
  (.seq (.ops [o 7 (.load true 3 (q 2)), ⟨none, .store 3 (q 4) (q 7), none⟩])
  .ret)))⟩
theorem F157_ok : compF Tryz.prog 157 = some F157 := by kernel_rfl
/-- (colonnade/view.View).there -/
def F158 : FC := ⟨29, [.tmp 6],
  (.seq (.ops [o 3 (.box (q 0)), o 6 (.mov (.const (.bool false)))])
  (.seq (.ops [o 7 (.mov (q 1)), o 8 (.bin .geq (q 7) (.const (.int .i64 0)) (some (.int .i64))), o 9 (.mov (q 8)), ⟨some 10, .mov (q 2), some (9, true)⟩, ⟨some 11, .bin .geq (q 10) (.const (.int .i64 0)) (some (.int .i64)), some (9, true)⟩, o 12 (.pick (q 9) (q 11) (.const (.bool false))), o 13 (.mov (q 12)), ⟨some 14, .mov (q 1), some (13, true)⟩, ⟨some 15, .fieldAddr 0 (q 3), some (13, true)⟩, ⟨some 16, .load false 1 (q 15), some (13, true)⟩, ⟨some 17, .len 1 (q 16), some (13, true)⟩, ⟨some 18, .bin .leq (q 14) (q 17) (some (.int .i64)), some (13, true)⟩, o 19 (.pick (q 13) (q 18) (.const (.bool false))), o 20 (.mov (q 19)), ⟨some 21, .mov (q 2), some (20, true)⟩, ⟨some 22, .fieldAddr 0 (q 3), some (20, true)⟩, ⟨some 23, .load false 1 (q 22), some (20, true)⟩, ⟨some 24, .len 1 (q 23), some (20, true)⟩, ⟨some 25, .mov (q 1), some (20, true)⟩, ⟨some 26, .bin .sub (q 24) (q 25) (some (.int .i64)), some (20, true)⟩, ⟨some 27, .bin .leq (q 21) (q 26) (some (.int .i64)), some (20, true)⟩, o 28 (.pick (q 20) (q 27) (.const (.bool false))), o 6 (.mov (q 28))])
  .ret))⟩
theorem F158_ok : compF Tryz.prog 158 = some F158 := by kernel_rfl
/-- (colonnade/view.View).read -/
def F159 : FC := ⟨46, [.tmp 6],
  (.seq (.ops [o 3 (.box (q 0)), o 6 (.mov (.const (.slice none 0 0)))])
  (.seq (.seq (.ops [o 7 (.fieldAddr 2 (q 3)), o 8 (.load false 1 (q 7)), o 9 (.bin .neq (q 8) (.const (.pointer none)) (some (.pointer 218))), o 10 (.mov (q 9)), ⟨some 11, .mov (q 2), some (10, true)⟩, ⟨some 12, .bin .gtr (q 11) (.const (.int .i64 0)) (some (.int .i64)), some (10, true)⟩, o 13 (.pick (q 10) (q 12) (.const (.bool false)))])
  (.cond (q 13)
  (.ops [o 14 (.fieldAddr 2 (q 3)), o 15 (.load false 1 (q 14)), o 16 (.fieldAddr 2 (q 3)), o 17 (.load false 1 (q 16)), o 18 (.nilCheck (q 17)), o 19 (.fieldAddr 0 (q 18)), o 20 (.load false 1 (q 19)), o 21 (.fieldAddr 1 (q 3)), o 22 (.load false 1 (q 21)), o 23 (.mov (q 1)), o 24 (.bin .add (q 22) (q 23) (some (.int .i64))), o 25 (.fieldAddr 1 (q 3)), o 26 (.load false 1 (q 25)), o 27 (.mov (q 1)), o 28 (.bin .add (q 26) (q 27) (some (.int .i64))), o 29 (.mov (q 2)), o 30 (.bin .add (q 28) (q 29) (some (.int .i64))), o 31 (.build [.int .i64 0, .int .i64 0] [(0, 1, (q 24)), (1, 1, (q 30))]), o 32 (.buildSlice 2 1 [.int .i64 0, .int .i64 0] [(0, 2, (q 31))]), ⟨none, .again 20 false 1 (q 19), none⟩, ⟨none, .again 17 false 1 (q 16), none⟩, ⟨none, .again 15 false 1 (q 14), none⟩, o 33 (.append 2 16 (q 20) (q 32)), ⟨none, .again 15 false 1 (q 14), none⟩, o 34 (.nilCheck (q 15)), o 35 (.fieldAddr 0 (q 34)), ⟨none, .store 1 (q 35) (q 33), none⟩])
  .skip))
  (.seq (.ops [o 36 (.fieldAddr 0 (q 3)), o 37 (.load false 1 (q 36)), o 38 (.mov (q 1)), o 39 (.mov (q 1)), o 40 (.mov (q 2)), o 41 (.bin .add (q 39) (q 40) (some (.int .i64))), o 42 (.mov (q 1)), o 43 (.mov (q 2)), o 44 (.bin .add (q 42) (q 43) (some (.int .i64))), o 45 (.slice 1 (q 37) (some (q 38)) (some (q 41)) (some (q 44))), o 6 (.mov (q 45))])
  .ret)))⟩
theorem F159_ok : compF Tryz.prog 159 = some F159 := by kernel_rfl
/-- slices.Clip[[]colonnade/api.Field,colonnade/api.Field] -/
def F160 : FC := ⟨9, [.tmp 2],
  (.seq (.ops [o 2 (.mov (.const (.slice none 0 0)))])
  (.seq (.ops [o 3 (.mov (q 0)), o 4 (.mov (q 0)), o 5 (.len 1 (q 4)), o 6 (.mov (q 0)), o 7 (.len 1 (q 6)), o 8 (.slice 7 (q 3) none (some (q 5)) (some (q 7))), o 2 (.mov (q 8))])
  .ret))⟩
theorem F160_ok : compF Tryz.prog 160 = some F160 := by kernel_rfl
/-- (colonnade/view.View).Signed -/
def F181 : FC := ⟨30, [.tmp 6, .tmp 7],
  (.seq (.ops [o 3 (.box (q 0)), o 6 (.mov (.const (.int .i64 0))), o 7 (.mov (.const (.int .i64 0)))])
  (.seq (.ops [o 12 (.load true 3 (q 3)), o 13 (.mov (q 1)), o 14 (.mov (q 2)), o 15 (.call 182 [.tmp 12, .tmp 13, .tmp 14]), o 11 (.mov (q 15)), o 16 (.extract (q 11) 0), o 17 (.extract (q 11) 1), o 8 (.mov (q 16)), o 9 (.mov (q 17))])
  (.seq (.seq (.ops [o 18 (.mov (q 9)), o 19 (.bin .neq (q 18) (.const (.int .i64 0)) (some (.int .i64)))])
  (.cond (q 19)
  (.seq (.ops [o 20 (.mov (q 9)), o 6 (.mov (.const (.int .i64 0))), o 7 (.mov (q 20))])
  .ret)
  .skip))
  (.seq (.ops [o 21 (.mov (q 2)), o 22 (.bin .mul (.const (.int .i64 8)) (q 21) (some (.int .i64))), o 23 (.bin .sub (.const (.int .i64 64)) (q 22) (some (.int .i64))), o 10 (.mov (q 23))])
  (.seq (.ops [o 24 (.mov (q 8)), o 25 (.mov (q 10)), o 26 (.bin .shl (q 24) (q 25) (some (.int .u64))), o 27 (.conv .i64 (q 26)), o 28 (.mov (q 10)), o 29 (.bin .shr (q 27) (q 28) (some (.int .i64))), o 6 (.mov (q 29)), o 7 (.mov (.const (.int .i64 0)))])
  .ret)))))⟩
theorem F181_ok : compF Tryz.prog 181 = some F181 := by kernel_rfl
/-- (colonnade/view.View).Load -/
def F182 : FC := ⟨21, [.tmp 6, .tmp 7],
  (.seq (.ops [o 3 (.box (q 0)), o 6 (.mov (.const (.int .u64 0))), o 7 (.mov (.const (.int .i64 0)))])
  (.seq (.seq (.ops [o 8 (.mov (q 2)), o 9 (.call 183 [.tmp 8]), o 10 (.un .not (q 9))])
  (.cond (q 10)
  (.seq (.ops [o 6 (.mov (.const (.int .u64 0))), o 7 (.mov (.const (.int .i64 1)))])
  .ret)
  .skip))
  (.seq (.seq (.ops [o 11 (.load true 3 (q 3)), o 12 (.mov (q 1)), o 13 (.mov (q 2)), o 14 (.call 158 [.tmp 11, .tmp 12, .tmp 13]), o 15 (.un .not (q 14))])
  (.cond (q 15)
  (.seq (.ops [o 6 (.mov (.const (.int .u64 0))), o 7 (.mov (.const (.int .i64 2)))])
  .ret)
  .skip))
  (.seq (.ops [o 16 (.load true 3 (q 3)), o 17 (.mov (q 1)), o 18 (.mov (q 2)), o 19 (.call 159 [.tmp 16, .tmp 17, .tmp 18]), o 20 (.call 184 [.tmp 19]), o 6 (.mov (q 20)), o 7 (.mov (.const (.int .i64 0)))])
  .ret))))⟩
theorem F182_ok : compF Tryz.prog 182 = some F182 := by kernel_rfl
/-- colonnade/view.wide -/
def F183 : FC := ⟨17, [.tmp 2],
  (.seq (.ops [o 2 (.mov (.const (.bool false)))])
  (.seq (.ops [o 3 (.mov (q 0)), o 4 (.bin .eql (q 3) (.const (.int .i64 1)) (some (.int .i64))), o 5 (.mov (q 4)), ⟨some 6, .mov (q 0), some (5, false)⟩, ⟨some 7, .bin .eql (q 6) (.const (.int .i64 2)) (some (.int .i64)), some (5, false)⟩, o 8 (.pick (q 5) (.const (.bool true)) (q 7)), o 9 (.mov (q 8)), ⟨some 10, .mov (q 0), some (9, false)⟩, ⟨some 11, .bin .eql (q 10) (.const (.int .i64 4)) (some (.int .i64)), some (9, false)⟩, o 12 (.pick (q 9) (.const (.bool true)) (q 11)), o 13 (.mov (q 12)), ⟨some 14, .mov (q 0), some (13, false)⟩, ⟨some 15, .bin .eql (q 14) (.const (.int .i64 8)) (some (.int .i64)), some (13, false)⟩, o 16 (.pick (q 13) (.const (.bool true)) (q 15)), o 2 (.mov (q 16))])
  .ret))⟩
theorem F183_ok : compF Tryz.prog 183 = some F183 := by kernel_rfl
/-- colonnade/view.number -/
def F184 : FC := ⟨22, [.tmp 2],
  (.seq (.ops [o 2 (.mov (.const (.int .u64 0)))])
  (.seq (.ops [o 3 (.mov (.const (.int .u64 0)))])
  (.seq (.seq (.ops [o 6 (.mov (q 0)), o 7 (.len 1 (q 6)), o 8 (.mov (.const (.int .i64 0)))])
  (.block 0 (.loop (.seq (.ops [o 9 (.bin .lss (q 8) (q 7) (some (.int .i64)))])
  (.seq (.cond (q 9)
  .skip
  (.exit 0))
  (.seq (.block 1 (.seq (.ops [o 10 (.mov (q 8)), o 11 (.indexAddr 1 (q 6) (q 8)), o 12 (.load false 1 (q 11)), o 4 (.mov (q 10)), o 5 (.mov (q 12))])
  (.ops [o 13 (.mov (q 3)), o 14 (.mov (q 5)), o 15 (.conv .u64 (q 14)), o 16 (.mov (q 4)), o 17 (.bin .mul (.const (.int .i64 8)) (q 16) (some (.int .i64))), o 18 (.bin .shl (q 15) (q 17) (some (.int .u64))), o 19 (.bin .or (q 13) (q 18) (some (.int .u64))), o 3 (.mov (q 19))])))
  (.ops [o 20 (.bin .add (q 8) (.const (.int .i64 1)) (some (.int .i64))), o 8 (.mov (q 20))])))))))
  (.seq (.ops [o 21 (.mov (q 3)), o 2 (.mov (q 21))])
  .ret))))⟩
theorem F184_ok : compF Tryz.prog 184 = some F184 := by kernel_rfl
/-- (*colonnade/array.Array).number -/
def F191 : FC := ⟨43, [.tmp 6],
  (.seq (.ops [o 6 (.mov (.const (.int .i64 0)))])
  (.seq (.ops [o 12 (.mov (q 1)), o 13 (.call 149 [.tmp 12]), o 7 (.mov (q 13))])
  (.seq (.seq (.ops [o 14 (.mov (q 1)), o 15 (.bin .geq (q 14) (.const (.int .i64 3)) (some (.int .i64))), o 16 (.mov (q 15)), ⟨some 17, .mov (q 1), some (16, true)⟩, ⟨some 18, .bin .leq (q 17) (.const (.int .i64 6)) (some (.int .i64)), some (16, true)⟩, o 19 (.pick (q 16) (q 18) (.const (.bool false)))])
  (.cond (q 19)
  (.seq (.ops [o 21 (.mov (q 0)), o 22 (.call 150 [.tmp 21, (.const (.int .i64 1))]), o 23 (.mov (q 2)), o 24 (.mov (q 7)), o 25 (.bin .mul (q 23) (q 24) (some (.int .i64))), o 26 (.mov (q 7)), o 27 (.call 181 [.tmp 22, .tmp 25, .tmp 26]), o 20 (.mov (q 27)), o 28 (.extract (q 20) 0), o 29 (.extract (q 20) 1), o 8 (.mov (q 28)), o 9 (.mov (q 29))])
  (.seq (.ops [o 30 (.mov (q 8)), o 6 (.mov (q 30))])
  .ret))
  .skip))
  (.seq (.ops [o 32 (.mov (q 0)), o 33 (.call 150 [.tmp 32, (.const (.int .i64 1))]), o 34 (.mov (q 2)), o 35 (.mov (q 7)), o 36 (.bin .mul (q 34) (q 35) (some (.int .i64))), o 37 (.mov (q 7)), o 38 (.call 182 [.tmp 33, .tmp 36, .tmp 37]), o 31 (.mov (q 38)), o 39 (.extract (q 31) 0), o 40 (.extract (q 31) 1), o 10 (.mov (q 39)), o 11 (.mov (q 40))])
  (.seq (.ops [o 41 (.mov (q 10)), o 42 (.conv .i64 (q 41)), o 6 (.mov (q 42))])
  .ret)))))⟩
theorem F191_ok : compF Tryz.prog 191 = some F191 := by kernel_rfl
/-- (colonnade/array.flats).read -/
def F194 : FC := ⟨67, [.cell 8 true 4],
  (.seq (.ops [o 4 (.box (q 0)), o 8 (.alloc [(.bool false), (.int .i64 0), (.string ⟨#[]⟩), (.slice none 0 0)])])
  (.seq (.ops [o 15 (.mov (q 1)), o 16 (.nilCheck (q 15)), o 17 (.fieldAddr 0 (q 16)), o 18 (.fieldAddr 2 (q 17)), o 19 (.load true 5 (q 18)), o 9 (.alloc [.int .i64 0, .int .i64 0, .int .i64 0, .int .i64 0, .slice none 0 0]), ⟨none, .store 5 (q 9) (q 19), none⟩])
  (.seq (.ops [o 20 (.mov (q 1)), o 21 (.call 150 [.tmp 20, (.const (.int .i64 1))]), o 10 (.alloc [.slice none 0 0, .int .i64 0, .pointer none]), ⟨none, .store 3 (q 10) (q 21), none⟩])
  (.seq (.ops [o 22 (.mov (q 3)), o 23 (.call 140 [.tmp 22, (.const (.int .i64 16))])])
  (.seq (.seq (.ops [o 24 (.fieldAddr 0 (q 9)), o 25 (.load false 1 (q 24))])
  (.block 0 (.seq (.ops [o 27 (.bin .eql (q 25) (.const (.int .i64 2)) (some (.int .i64))), o 26 (.mov (q 27))])
  (.cond (q 26)
  (.seq (.ops [o 29 (.load true 3 (q 10)), o 30 (.mov (q 2)), o 31 (.bin .quo (q 30) (.const (.int .i64 8)) (some (.int .i64))), o 32 (.call 151 [.tmp 29, .tmp 31]), o 28 (.mov (q 32)), o 33 (.extract (q 28) 0), o 34 (.extract (q 28) 1), o 11 (.mov (q 33)), o 12 (.mov (q 34))])
  (.seq (.ops [o 35 (.mov (q 11)), o 36 (.mov (q 2)), o 37 (.bin .rem (q 36) (.const (.int .i64 8)) (some (.int .i64))), o 38 (.bin .shr (q 35) (q 37) (some (.int .u8))), o 39 (.bin .and (q 38) (.const (.int .u8 1)) (some (.int .u8))), o 40 (.conv .i64 (q 39)), o 41 (.build [(.bool false), (.int .i64 0), (.string ⟨#[]⟩), (.slice none 0 0)] [(1, 1, (q 40))]), ⟨none, .store 4 (q 8) (q 41), none⟩])
  .ret))
  (.seq (.ops [o 43 (.bin .eql (q 25) (.const (.int .i64 14)) (some (.int .i64))), o 42 (.mov (q 43))])
  (.cond (q 42)
  (.seq (.ops [o 44 (.mov (q 3)), o 45 (.fieldAddr 1 (q 9)), o 46 (.load false 1 (q 45)), o 47 (.call 140 [.tmp 44, .tmp 46])])
  (.seq (.ops [o 49 (.load true 3 (q 10)), o 50 (.mov (q 2)), o 51 (.fieldAddr 1 (q 9)), o 52 (.load false 1 (q 51)), o 53 (.bin .mul (q 50) (q 52) (some (.int .i64))), o 54 (.fieldAddr 1 (q 9)), o 55 (.load false 1 (q 54)), o 56 (.call 180 [.tmp 49, .tmp 53, .tmp 55]), o 48 (.mov (q 56)), o 57 (.extract (q 48) 0), o 58 (.extract (q 48) 1), o 13 (.mov (q 57)), o 14 (.mov (q 58))])
  (.seq (.ops [o 59 (.mov (q 13)), o 60 (.build [(.bool false), (.int .i64 0), (.string ⟨#[]⟩), (.slice none 0 0)] [(2, 1, (q 59))]), ⟨none, .store 4 (q 8) (q 60), none⟩])
  .ret)))
  .skip))))))
  (.seq (.ops [o 61 (.mov (q 1)), o 62 (.fieldAddr 0 (q 9)), o 63 (.load false 1 (q 62)), o 64 (.mov (q 2)), o 65 (.call 191 [.tmp 61, .tmp 63, .tmp 64]), o 66 (.build [(.bool false), (.int .i64 0), (.string ⟨#[]⟩), (.slice none 0 0)] [(1, 1, (q 65))]), ⟨none, .store 4 (q 8) (q 66), none⟩])
  .ret))))))⟩
theorem F194_ok : compF Tryz.prog 194 = some F194 := by kernel_rfl
/-- (*colonnade/array.Array).get -/
def D76 : DF := ⟨14, [.cell 4 true 4, .tmp 5, .cell 6 false 1],
  [(.ops [⟨(some 4), .alloc [(.bool false), (.int .i64 0), (.string ⟨#[]⟩), (.slice none 0 0)], none⟩,
    ⟨(some 5), .mov (.const (.int .i64 0)), none⟩,
    ⟨(some 6), .alloc [(.int .i64 0)], none⟩])],
  [], (.func 102), [(.tmp 6)],
  [(.seq (.ops [⟨(some 7), .alloc [(.int .i64 0)], none⟩,
    ⟨none, .store 1 (.tmp 7) (.const (.int .i64 4194304)), none⟩])
  (.seq (.ops [⟨(some 8), .mov (.tmp 0), none⟩,
    ⟨(some 9), .mov (.tmp 1), none⟩,
    ⟨(some 10), .call 103 [(.tmp 8), (.tmp 9), (.tmp 7)], none⟩,
    ⟨none, .store 4 (.tmp 4) (.tmp 10), none⟩])
  (.seq (.ops [⟨(some 11), .load true 4 (.tmp 4), none⟩,
    ⟨(some 12), .load false 1 (.tmp 7), none⟩,
    ⟨(some 13), .bin .sub (.const (.int .i64 4194304)) (.tmp 12) (some (.int .i64)), none⟩,
    ⟨none, .store 4 (.tmp 4) (.tmp 11), none⟩,
    ⟨none, .again 12 false 1 (.tmp 7), none⟩,
    ⟨(some 5), .mov (.tmp 13), none⟩,
    ⟨none, .store 1 (.tmp 6) (.const (.int .i64 0)), none⟩])
  .ret)))]⟩
theorem D76_ok : compDF Tryz.prog 76 = some D76 := by kernel_rfl
/-- colonnade/array.caught -/
def R102 : RF := ⟨18, [], (some (some 5)),
  [⟨(some 2), .mov (.tmp 5), none⟩],
  [(.seq (.ops [⟨(some 6), .mov (.tmp 2), none⟩,
    ⟨(some 7), .bin .neq (.tmp 6) (.const .nilIface) (some (.interface #[])), none⟩])
  (.cond (.tmp 7)
  (.seq (.seq (.ops [⟨(some 9), .mov (.tmp 2), none⟩,
    ⟨(some 10), .bad, none⟩,
    ⟨(some 8), .mov (.tmp 10), none⟩,
    ⟨(some 11), .extract (.tmp 8) 0, none⟩,
    ⟨(some 12), .extract (.tmp 8) 1, none⟩,
    ⟨(some 3), .alloc [], none⟩,
    ⟨none, .store 0 (.tmp 3) (.tmp 11), none⟩,
    ⟨(some 4), .mov (.tmp 12), none⟩])
  (.seq (.ops [⟨(some 13), .mov (.tmp 4), none⟩,
    ⟨(some 14), .un .not (.tmp 13), none⟩])
  (.cond (.tmp 14)
  (.ops [⟨(some 15), .mov (.tmp 2), none⟩,
    ⟨none, .bad, none⟩])
  .skip)))
  (.ops [⟨(some 16), .mov (.tmp 0), none⟩,
    ⟨(some 17), .nilCheck (.tmp 16), none⟩,
    ⟨none, .store 1 (.tmp 17) (.const (.int .i64 7)), none⟩]))
  .skip))]⟩
theorem R102_ok : compRF Tryz.prog 102 = some R102 := by kernel_rfl
end Go.Proofs.YtecephhhjhpcjaaGreatDoor.Stats
end
section
set_option linter.unusedVariables false
namespace Go.Proofs.YtecephhhjhpcjaaGreatDoor.Stats
open Go Go.Proofs.YtecephhhjhpcjaaGreatDoor Go.Proofs.YtecephhhjhpcjaaGreatDoor.Em
def tabF : List (Nat × FC) := [(3, F3), (6, F6), (7, F7), (8, F8), (9, F9), (15, F15), (16, F16), (17, F17), (18, F18), (19, F19), (20, F20), (21, F21), (22, F22), (23, F23), (24, F24), (28, F28), (31, F31), (37, F37), (38, F38), (39, F39), (40, F40), (42, F42), (43, F43), (44, F44), (45, F45), (46, F46), (47, F47), (48, F48), (49, F49), (50, F50), (51, F51), (52, F52), (55, F55), (56, F56), (57, F57), (58, F58), (59, F59), (62, F62), (64, F64), (65, F65), (66, F66), (67, F67), (68, F68), (69, F69), (70, F70), (71, F71), (72, F72), (73, F73), (74, F74), (75, F75), (77, F77), (78, F78), (79, F79), (80, F80), (81, F81), (82, F82), (83, F83), (84, F84), (85, F85), (86, F86), (87, F87), (89, F89), (90, F90), (91, F91), (92, F92), (93, F93), (94, F94), (95, F95), (97, F97), (98, F98), (99, F99), (100, F100), (101, F101), (103, F103), (104, F104), (105, F105), (106, F106), (107, F107), (108, F108), (111, F111), (112, F112), (113, F113), (114, F114), (115, F115), (116, F116), (117, F117), (118, F118), (119, F119), (120, F120), (121, F121), (122, F122), (123, F123), (126, F126), (127, F127), (129, F129), (130, F130), (131, F131), (132, F132), (133, F133), (136, F136), (138, F138), (139, F139), (140, F140), (141, F141), (142, F142), (143, F143), (144, F144), (145, F145), (147, F147), (148, F148), (149, F149), (150, F150), (151, F151), (152, F152), (153, F153), (155, F155), (156, F156), (157, F157), (158, F158), (159, F159), (160, F160), (181, F181), (182, F182), (183, F183), (184, F184), (191, F191), (194, F194)]
theorem tabF_ok : tabOK (compF Tryz.prog) tabF := ⟨F3_ok, F6_ok, F7_ok, F8_ok, F9_ok, F15_ok, F16_ok, F17_ok, F18_ok, F19_ok, F20_ok, F21_ok, F22_ok, F23_ok, F24_ok, F28_ok, F31_ok, F37_ok, F38_ok, F39_ok, F40_ok, F42_ok, F43_ok, F44_ok, F45_ok, F46_ok, F47_ok, F48_ok, F49_ok, F50_ok, F51_ok, F52_ok, F55_ok, F56_ok, F57_ok, F58_ok, F59_ok, F62_ok, F64_ok, F65_ok, F66_ok, F67_ok, F68_ok, F69_ok, F70_ok, F71_ok, F72_ok, F73_ok, F74_ok, F75_ok, F77_ok, F78_ok, F79_ok, F80_ok, F81_ok, F82_ok, F83_ok, F84_ok, F85_ok, F86_ok, F87_ok, F89_ok, F90_ok, F91_ok, F92_ok, F93_ok, F94_ok, F95_ok, F97_ok, F98_ok, F99_ok, F100_ok, F101_ok, F103_ok, F104_ok, F105_ok, F106_ok, F107_ok, F108_ok, F111_ok, F112_ok, F113_ok, F114_ok, F115_ok, F116_ok, F117_ok, F118_ok, F119_ok, F120_ok, F121_ok, F122_ok, F123_ok, F126_ok, F127_ok, F129_ok, F130_ok, F131_ok, F132_ok, F133_ok, F136_ok, F138_ok, F139_ok, F140_ok, F141_ok, F142_ok, F143_ok, F144_ok, F145_ok, F147_ok, F148_ok, F149_ok, F150_ok, F151_ok, F152_ok, F153_ok, F155_ok, F156_ok, F157_ok, F158_ok, F159_ok, F160_ok, F181_ok, F182_ok, F183_ok, F184_ok, F191_ok, F194_ok, trivial⟩
def tabD : List (Nat × DF) := [(76, D76)]
theorem tabD_ok : tabOK (compDF Tryz.prog) tabD := ⟨D76_ok, trivial⟩
def tabR : List (Nat × RF) := [(102, R102)]
theorem tabR_ok : tabOK (compRF Tryz.prog) tabR := ⟨R102_ok, trivial⟩
def tab : Tab := ⟨findF tabF, findF tabD, findF tabR⟩
theorem tab_ok : tab.OK Tryz.prog := ⟨findF_ok tabF_ok, findF_ok tabD_ok, findF_ok tabR_ok⟩
end Go.Proofs.YtecephhhjhpcjaaGreatDoor.Stats
end
section
set_option linter.unusedVariables false
namespace Go.Proofs.YtecephhhjhpcjaaGreatDoor.Stats
open Go Go.Proofs.YtecephhhjhpcjaaGreatDoor Go.Proofs.YtecephhhjhpcjaaGreatDoor.Em
theorem hd : DrawSound Tryz.prog gs := draw_sound (by kernel_rfl)
theorem fixed_val : valX gs tab 100000 9 [] = some (.sb true) := by kernel_rfl
theorem fixed_ok (h : EH) : Tri Tryz.prog gs 9 [] h fun v h' => v = .sb true ∧ h' = h :=
  Tri.litC (φ := fun v => v = .sb true) (fun v hv => by rw [hv]; rfl) rfl ((Tri.closed hd tab_ok (valX_exec fixed_val) rfl).2.mono fun v h' hx => hx.1) h
end Go.Proofs.YtecephhhjhpcjaaGreatDoor.Stats
end
section
set_option linter.unusedVariables false
namespace Go.Proofs.YtecephhhjhpcjaaGreatDoor.Stats
open Go Go.Proofs.YtecephhhjhpcjaaGreatDoor Go.Proofs.YtecephhhjhpcjaaGreatDoor.Em
/-- a field -/
inductive Fld where
  | mk (nm : ByteArray) (nul : Bool) (kind width id idx : Int) (kids : List Fld)
mutual
def cellsF : Fld → List EV
  | .mk nm nul k w i x kids => [.lit (.string nm), .lit (.bool nul), .lit (.int .i64 k), .lit (.int .i64 w), .lit (.int .i64 i), .lit (.int .i64 x), .isl kids.length none (cellsFs kids)]
def cellsFs : List Fld → List EV
  | [] => []
  | f :: l => cellsF f ++ cellsFs l
end
def i64r (n : Int) : Prop := -9223372036854775808 ≤ n ∧ n ≤ 9223372036854775807
mutual
def okF : Fld → Prop
  | .mk nm nul k w i x kids => nm.size ≤ 140737488351232 ∧ i64r k ∧ i64r w ∧ i64r i ∧ i64r x ∧ kids.length ≤ 140737488351232 ∧ okFs kids
def okFs : List Fld → Prop
  | [] => True
  | f :: l => okF f ∧ okFs l
end
/-- a value -/
inductive Val where
  | mk (null : Bool) (num : Int) (text : ByteArray) (kids : List Val)
mutual
def cellsV : Val → List EV
  | .mk b n t l => [.lit (.bool b), .lit (.int .i64 n), .lit (.string t), .isl l.length none (cellsVs l)]
def cellsVs : List Val → List EV
  | [] => []
  | v :: l => cellsV v ++ cellsVs l
end
mutual
def okV : Val → Prop
  | .mk b n t l => i64r n ∧ t.size ≤ 140737488351232 ∧ l.length ≤ 140737488351232 ∧ okVs l
def okVs : List Val → Prop
  | [] => True
  | v :: l => okV v ∧ okVs l
end
theorem cellsF_length (f : Fld) : (cellsF f).length = 7 := by cases f; rfl
/-- pieces of one size, each of a kind of its own, are such a list -/
theorem pieces_of {α : Type} {n : Nat} {cells : α → List EV} {cellss : List α → List EV} {ok : α → Prop} {oks : List α → Prop} (h0 : cellss [] = []) (h1 : ∀ a l, cellss (a :: l) = cells a ++ cellss l) (o0 : oks []) (o1 : ∀ a l, ok a → oks l → oks (a :: l)) :
    ∀ (len : Nat) (c : List EV), c.length = len * n → (∀ i, i < len → ∃ a, (c.drop (i * n)).take n = cells a ∧ ok a) → ∃ l : List α, l.length = len ∧ c = cellss l ∧ oks l
  | 0, c, hl, _ => ⟨[], rfl, by rw [h0]; exact List.length_eq_zero_iff.1 (by omega), o0⟩
  | len + 1, c, hl, h => by
    obtain ⟨a, e1, e2⟩ := h 0 (by omega)
    obtain ⟨l, k1, k2, k3⟩ := pieces_of (n := n) h0 h1 o0 o1 len (c.drop n) (by rw [List.length_drop, hl, Nat.add_mul]; omega) (fun i hi => by
      obtain ⟨b, q1, q2⟩ := h (i + 1) (by omega)
      refine ⟨b, ?_, q2⟩
      rw [List.drop_drop, ← q1]
      congr 2
      rw [Nat.add_mul]; omega)
    refine ⟨a :: l, by simp [k1], ?_, o1 a l e2 k3⟩
    rw [h1, ← e1, ← k2]
    simp
def tys : List TypeId := [26, 24, 22, 29, 27, 31, 41, 40, 38, 102, 42, 5, 3, 2, 9, 4]
theorem tys_ok : okL Tryz.prog tys = true := by kernel_rfl
theorem cut1 {c : List EV} {x : EV} (h : c.take 1 = [x]) : c = x :: c.drop 1 := by
  match c, h with
  | y :: l, h => simp at h; subst h; rfl
theorem cells_bool : Tryz.prog.cellsOf 4 = 1 := by kernel_rfl
theorem cells_int : Tryz.prog.cellsOf 3 = 1 := by kernel_rfl
theorem cells_int64 : Tryz.prog.cellsOf 2 = 1 := by kernel_rfl
theorem cells_string : Tryz.prog.cellsOf 9 = 1 := by kernel_rfl
theorem cells_field : Tryz.prog.cellsOf 26 = 7 := by kernel_rfl
theorem cells_type : Tryz.prog.cellsOf 24 = 5 := by kernel_rfl
theorem cells_value : Tryz.prog.cellsOf 29 = 4 := by kernel_rfl
theorem cells_fields : Tryz.prog.cellsOf 22 = 1 := by kernel_rfl
theorem cells_values : Tryz.prog.cellsOf 27 = 1 := by kernel_rfl
theorem hasFld : ∀ (m : Nat) (c : List EV), HasT Tryz.prog m 26 c → ∃ f, c = cellsF f ∧ okF f := by
  intro m
  induction m using Nat.strongRecOn with
  | _ m ih =>
  intro c h
  obtain ⟨m1, rfl, g1⟩ := HasT.struct Tryz.underlying26 h
  obtain ⟨_, h1, g2⟩ := HasTF.cons g1 rfl cells_string
  obtain ⟨_, h2, g3⟩ := HasTF.cons g2 rfl cells_bool
  obtain ⟨_, h3, g4⟩ := HasTF.cons g3 rfl cells_type
  have h4 := HasTF.nil g4
  obtain ⟨nm, e1, q1⟩ := HasT.str Tryz.underlying9 h1
  obtain ⟨nul, e2⟩ := HasT.bool Tryz.underlying4 h2
  obtain ⟨m2, rfl, g5⟩ := HasT.struct Tryz.underlying24 h3
  obtain ⟨_, h5, g6⟩ := HasTF.cons g5 rfl cells_int
  obtain ⟨_, h6, g7⟩ := HasTF.cons g6 rfl cells_int
  obtain ⟨_, h7, g8⟩ := HasTF.cons g7 rfl cells_int
  obtain ⟨_, h8, g9⟩ := HasTF.cons g8 rfl cells_int
  obtain ⟨_, h9, g10⟩ := HasTF.cons g9 rfl cells_fields
  have h10 := HasTF.nil g10
  obtain ⟨k, e5, q5⟩ := HasT.int Tryz.underlying3 h5
  obtain ⟨w, e6, q6⟩ := HasT.int Tryz.underlying3 h6
  obtain ⟨i, e7, q7⟩ := HasT.int Tryz.underlying3 h7
  obtain ⟨x, e8, q8⟩ := HasT.int Tryz.underlying3 h8
  obtain ⟨m3, len, l, rfl, e9, q9, hl, hk⟩ := HasT.slice Tryz.underlying22 cells_field h9
  obtain ⟨kids, k1, k2, k3⟩ := pieces_of (n := 7) (cells := cellsF) (cellss := cellsFs) (ok := okF) (oks := okFs) rfl (fun _ _ => rfl) trivial (fun _ _ a b => ⟨a, b⟩) len l hl (fun i hi => ih m3 (by omega) _ (hk i hi))
  refine ⟨.mk nm nul k w i x kids, ?_, q1, q5, q6, q7, q8, by omega, k3⟩
  have d1 := cut1 e1
  have d2 := cut1 e2
  have d5 := cut1 e5
  have d6 := cut1 e6
  have d7 := cut1 e7
  have d8 := cut1 e8
  have d9 := cut1 e9
  have d10 : ((c.drop 1).drop 1) = ((c.drop 1).drop 1).take 5 ++ [] := by
    conv => lhs; rw [← List.take_append_drop 5 ((c.drop 1).drop 1), h4]
  rw [d1, d2, d10, d5, d6, d7, d8, d9, h10, ← k1, k2]
  rfl
theorem hasVal : ∀ (m : Nat) (c : List EV), HasT Tryz.prog m 29 c → ∃ v, c = cellsV v ∧ okV v := by
  intro m
  induction m using Nat.strongRecOn with
  | _ m ih =>
  intro c h
  obtain ⟨m1, rfl, g11⟩ := HasT.struct Tryz.underlying29 h
  obtain ⟨_, h1, g12⟩ := HasTF.cons g11 rfl cells_bool
  obtain ⟨_, h2, g13⟩ := HasTF.cons g12 rfl cells_int64
  obtain ⟨_, h3, g14⟩ := HasTF.cons g13 rfl cells_string
  obtain ⟨_, h9, g15⟩ := HasTF.cons g14 rfl cells_values
  have h4 := HasTF.nil g15
  obtain ⟨b, e1⟩ := HasT.bool Tryz.underlying4 h1
  obtain ⟨n, e2, q2⟩ := HasT.int Tryz.underlying2 h2
  obtain ⟨t, e3, q3⟩ := HasT.str Tryz.underlying9 h3
  obtain ⟨m3, len, l, rfl, e9, q9, hl, hk⟩ := HasT.slice Tryz.underlying27 cells_value h9
  obtain ⟨kids, k1, k2, k3⟩ := pieces_of (n := 4) (cells := cellsV) (cellss := cellsVs) (ok := okV) (oks := okVs) rfl (fun _ _ => rfl) trivial (fun _ _ a b => ⟨a, b⟩) len l hl (fun i hi => ih m3 (by omega) _ (hk i hi))
  refine ⟨.mk b n t kids, ?_, q2, q3, by omega, k3⟩
  have d1 := cut1 e1
  have d2 := cut1 e2
  have d3 := cut1 e3
  have d9 := cut1 e9
  rw [d1, d2, d3, d9, h4, ← k1, k2]
  rfl
end Go.Proofs.YtecephhhjhpcjaaGreatDoor.Stats
end
section
set_option linter.unusedVariables false
namespace Go.Proofs.YtecephhhjhpcjaaGreatDoor.Stats
open Go Go.Proofs.YtecephhhjhpcjaaGreatDoor Go.Proofs.YtecephhhjhpcjaaGreatDoor.Em
/-- a text's byte -/
def bs (s : ByteArray) (i : Nat) : Int := stdA.bat s i
def letP (c : Int) : Prop := 97 ≤ c ∧ c ≤ 122 ∨ 65 ≤ c ∧ c ≤ 90 ∨ 48 ≤ c ∧ c ≤ 57 ∨ c = 95
def nameP (s : ByteArray) : Prop := 0 < s.size ∧ s.size ≤ 48 ∧ (∀ i, i < s.size → letP (bs s i)) ∧ ¬ (48 ≤ bs s 0 ∧ bs s 0 ≤ 57)
def Fld.nm : Fld → ByteArray | .mk a _ _ _ _ _ _ => a
def Fld.nul : Fld → Bool | .mk _ a _ _ _ _ _ => a
def Fld.kind : Fld → Int | .mk _ _ a _ _ _ _ => a
def Fld.width : Fld → Int | .mk _ _ _ a _ _ _ => a
def Fld.id : Fld → Int | .mk _ _ _ _ a _ _ => a
def Fld.idx : Fld → Int | .mk _ _ _ _ _ a _ => a
def Fld.kids : Fld → List Fld | .mk _ _ _ _ _ _ a => a
def kid0 (l : List Fld) : Bool := match l with | [] => false | f :: _ => f.nul
/-- a type is as its kind asks, its children apart -/
def fitsP (k w i x : Int) (n : Nat) : Prop :=
  1 ≤ k ∧ k ≤ 20 ∧
    if k = 14 then 1 ≤ w ∧ w ≤ 16 ∧ i = 0 ∧ x = 0 ∧ n = 0
    else if k = 15 ∨ k = 20 then w = 0 ∧ i = 0 ∧ x = 0 ∧ n = 1
    else if k = 16 then 1 ≤ w ∧ w ≤ 64 ∧ i = 0 ∧ x = 0 ∧ n = 1
    else if k = 17 then w = 0 ∧ i = 0 ∧ x = 0 ∧ n ≤ 32
    else if k = 18 then w = 0 ∧ i = 0 ∧ x = 0 ∧ 1 ≤ n ∧ n ≤ 32
    else if k = 19 then w = 0 ∧ 0 ≤ i ∧ i < 32 ∧ 3 ≤ x ∧ x ≤ 10 ∧ n = 1
    else w = 0 ∧ i = 0 ∧ x = 0 ∧ n = 0
def nullsP (nul : Bool) (k : Int) (kids : List Fld) : Prop := (k = 1 → nul = true) ∧ (k = 18 → nul = false) ∧ (k = 20 → nul = kid0 kids)
/-- a field on its way -/
structure Pl where
  path : List Nat
  ahead : List Fld
  f : Fld
  inD : Bool
mutual
/-- the fields of a list, each ahead of those within it, 65 deep at most -/
def nodesF (path : List Nat) (ahead : List Fld) (inD : Bool) : Fld → List Pl
  | .mk a b k w i x kids => ⟨path ++ [ahead.length], ahead, .mk a b k w i x kids, inD⟩ :: (if path.length < 64 then nodesFs (path ++ [ahead.length]) [] (inD || decide (k = 19)) kids else [])
def nodesFs (path : List Nat) (ahead : List Fld) (inD : Bool) : List Fld → List Pl
  | [] => []
  | f :: l => nodesF path ahead inD f ++ nodesFs path (ahead ++ [f]) inD l
end
/-- a field is right, behind others -/
def okN (prev : List Pl) (p : Pl) : Prop :=
  p.path.length ≤ 64 ∧ nameP p.f.nm ∧ (∀ g ∈ p.ahead, g.nm ≠ p.f.nm) ∧ fitsP p.f.kind p.f.width p.f.id p.f.idx p.f.kids.length ∧ nullsP p.f.nul p.f.kind p.f.kids ∧
  ¬ (p.inD = true ∧ (p.f.kind = 19 ∨ p.f.kind = 20)) ∧ ¬ (p.f.kind = 19 ∧ (kid0 p.f.kids = true ∨ ∃ o ∈ prev, o.f.kind = 19 ∧ o.f.id = p.f.id))
/-- all are right, at most 256 -/
def allN (prev : List Pl) : List Pl → Prop
  | [] => True
  | p :: l => prev.length < 256 ∧ okN prev p ∧ allN (prev ++ [p]) l
theorem allN_app : ∀ (l m prev : List Pl), allN prev (l ++ m) ↔ allN prev l ∧ allN (prev ++ l) m
  | [], m, prev => by simp [allN]
  | p :: l, m, prev => by
    have := allN_app l m (prev ++ [p])
    simp only [List.cons_append, allN, this, List.append_assoc, List.nil_append, and_assoc]
end Go.Proofs.YtecephhhjhpcjaaGreatDoor.Stats
end
section
set_option linter.unusedVariables false
set_option linter.unusedSimpArgs false
namespace Go.Proofs.YtecephhhjhpcjaaGreatDoor.Stats
open Go Go.Proofs.YtecephhhjhpcjaaGreatDoor Go.Proofs.YtecephhhjhpcjaaGreatDoor.Em
set_option maxHeartbeats 1000000 in
theorem letter_ok (c : Int) (h : EH) : Tri Tryz.prog gs 105 [.lit (.int .u8 c)] h fun v h' => IsP (letP c) v ∧ h' = h := by
  refine Tri.boolC rfl (Tri_of F105_ok fun I0 ρ0 w0 Q hρ hQ => ?_) h
  obtain ⟨A, hA⟩ : ∃ A, A = stdA := ⟨_, rfl⟩
  with_reducible refine runS hA hd hQ 200 ?hk ?_
  case hk => exact trivial
  conv => arg 9; cbv
  try simp only [OK]
  repeat' first
    | ((with_reducible refine ⟨fun hbr => ?_, fun hbr => ?_⟩) <;> (try simp (disch := omega) only [hA, OK, s_le, s_inb, s_slb, s_room, s_mks, s_ne0, s_nn, s_eql, s_neq, s_lss, s_leq, s_gtr, s_geq, s_isz, s_bnot, s_beq, s_idx, s_addN, s_subN, s_mulN, s_tn, s_ofn, s_nmin, s_drp, s_tak, s_app, s_len, s_leB, s_add, s_sub, s_mul, s_wr64, s_wr8, bytesE_fold, bytesE_length, bytesE_drop, bytesE_take, bytesE_app, intsE_fold, intsE_length, decide_eq_true_eq, decide_eq_false_iff_not, Nat.mul_one, Nat.zero_add, Nat.add_zero, Bool.not_eq_true', List.length_take, List.length_drop, List.length_append, List.length_cons, List.length_nil, List.drop_zero, reduceCtorEq] at hbr) <;> (try ((with_reducible exfalso); omega)))
    | ((with_reducible refine runK hA hd hQ 200 ?hk ?_); (case hk => exact trivial); (conv => arg 9; cbv); (try simp only [OK]))
    | ((with_reducible refine need_of ?hn ?_); (case hn => ((simp (disch := omega) only [hA, OK, s_le, s_inb, s_slb, s_room, s_mks, s_ne0, s_nn, s_eql, s_neq, s_lss, s_leq, s_gtr, s_geq, s_isz, s_bnot, s_beq, s_idx, s_addN, s_subN, s_mulN, s_tn, s_ofn, s_nmin, s_drp, s_tak, s_app, s_len, s_leB, s_add, s_sub, s_mul, s_wr64, s_wr8, bytesE_fold, bytesE_length, bytesE_drop, bytesE_take, bytesE_app, intsE_fold, intsE_length, decide_eq_true_eq, decide_eq_false_iff_not, Nat.mul_one, Nat.zero_add, Nat.add_zero, Bool.not_eq_true', List.length_take, List.length_drop, List.length_append, List.length_cons, List.length_nil, List.drop_zero]) <;> omega)))
    | fail
  all_goals refine ⟨_, rfl, _, (by first | exact .inl rfl | exact .inr rfl), ?_⟩
  all_goals (try simp (disch := omega) only [hA, OK, s_le, s_inb, s_slb, s_room, s_mks, s_ne0, s_nn, s_eql, s_neq, s_lss, s_leq, s_gtr, s_geq, s_isz, s_bnot, s_beq, s_idx, s_addN, s_subN, s_mulN, s_tn, s_ofn, s_nmin, s_drp, s_tak, s_app, s_len, s_leB, s_add, s_sub, s_mul, s_wr64, s_wr8, bytesE_fold, bytesE_length, bytesE_drop, bytesE_take, bytesE_app, intsE_fold, intsE_length, decide_eq_true_eq, decide_eq_false_iff_not, Nat.mul_one, Nat.zero_add, Nat.add_zero, Bool.not_eq_true', List.length_take, List.length_drop, List.length_append, List.length_cons, List.length_nil, List.drop_zero, Bool.false_eq_true, true_iff, false_iff, eq_self, iff_true, iff_false , letP])
  all_goals first | omega | (simp <;> omega) | (simp_all <;> omega)
set_option maxHeartbeats 1000000 in
theorem letterR_ok (c : Int) (h : EH) : Tri Tryz.prog gs 104 [.lit (.int .u8 c)] h fun v h' => IsP (letP c) v ∧ h' = h := by
  refine Tri.boolC rfl (Tri_of F104_ok fun I0 ρ0 w0 Q hρ hQ => ?_) h
  obtain ⟨A, hA⟩ : ∃ A, A = stdA := ⟨_, rfl⟩
  with_reducible refine runS hA hd hQ 200 ?hk ?_
  case hk => exact trivial
  conv => arg 9; cbv
  try simp only [OK]
  repeat' first
    | ((with_reducible refine ⟨fun hbr => ?_, fun hbr => ?_⟩) <;> (try simp (disch := omega) only [hA, OK, s_le, s_inb, s_slb, s_room, s_mks, s_ne0, s_nn, s_eql, s_neq, s_lss, s_leq, s_gtr, s_geq, s_isz, s_bnot, s_beq, s_idx, s_addN, s_subN, s_mulN, s_tn, s_ofn, s_nmin, s_drp, s_tak, s_app, s_len, s_leB, s_add, s_sub, s_mul, s_wr64, s_wr8, bytesE_fold, bytesE_length, bytesE_drop, bytesE_take, bytesE_app, intsE_fold, intsE_length, decide_eq_true_eq, decide_eq_false_iff_not, Nat.mul_one, Nat.zero_add, Nat.add_zero, Bool.not_eq_true', List.length_take, List.length_drop, List.length_append, List.length_cons, List.length_nil, List.drop_zero, reduceCtorEq] at hbr) <;> (try ((with_reducible exfalso); omega)))
    | ((with_reducible refine runK hA hd hQ 200 ?hk ?_); (case hk => exact trivial); (conv => arg 9; cbv); (try simp only [OK]))
    | ((with_reducible refine need_of ?hn ?_); (case hn => ((simp (disch := omega) only [hA, OK, s_le, s_inb, s_slb, s_room, s_mks, s_ne0, s_nn, s_eql, s_neq, s_lss, s_leq, s_gtr, s_geq, s_isz, s_bnot, s_beq, s_idx, s_addN, s_subN, s_mulN, s_tn, s_ofn, s_nmin, s_drp, s_tak, s_app, s_len, s_leB, s_add, s_sub, s_mul, s_wr64, s_wr8, bytesE_fold, bytesE_length, bytesE_drop, bytesE_take, bytesE_app, intsE_fold, intsE_length, decide_eq_true_eq, decide_eq_false_iff_not, Nat.mul_one, Nat.zero_add, Nat.add_zero, Bool.not_eq_true', List.length_take, List.length_drop, List.length_append, List.length_cons, List.length_nil, List.drop_zero]) <;> omega)))
    | fail
  all_goals refine ⟨_, rfl, _, (by first | exact .inl rfl | exact .inr rfl), ?_⟩
  all_goals (try simp (disch := omega) only [hA, OK, s_le, s_inb, s_slb, s_room, s_mks, s_ne0, s_nn, s_eql, s_neq, s_lss, s_leq, s_gtr, s_geq, s_isz, s_bnot, s_beq, s_idx, s_addN, s_subN, s_mulN, s_tn, s_ofn, s_nmin, s_drp, s_tak, s_app, s_len, s_leB, s_add, s_sub, s_mul, s_wr64, s_wr8, bytesE_fold, bytesE_length, bytesE_drop, bytesE_take, bytesE_app, intsE_fold, intsE_length, decide_eq_true_eq, decide_eq_false_iff_not, Nat.mul_one, Nat.zero_add, Nat.add_zero, Bool.not_eq_true', List.length_take, List.length_drop, List.length_append, List.length_cons, List.length_nil, List.drop_zero, Bool.false_eq_true, true_iff, false_iff, eq_self, iff_true, iff_false , letP])
  all_goals first | omega | (simp <;> omega) | (simp_all <;> omega)
set_option maxHeartbeats 1000000 in
theorem known_ok (k : Int) (h : EH) : Tri Tryz.prog gs 107 [.lit (.int .i64 k)] h fun v h' => IsP (1 ≤ k ∧ k ≤ 20) v ∧ h' = h := by
  refine Tri.boolC rfl (Tri_of F107_ok fun I0 ρ0 w0 Q hρ hQ => ?_) h
  obtain ⟨A, hA⟩ : ∃ A, A = stdA := ⟨_, rfl⟩
  with_reducible refine runS hA hd hQ 200 ?hk ?_
  case hk => exact trivial
  conv => arg 9; cbv
  try simp only [OK]
  repeat' first
    | ((with_reducible refine ⟨fun hbr => ?_, fun hbr => ?_⟩) <;> (try simp (disch := omega) only [hA, OK, s_le, s_inb, s_slb, s_room, s_mks, s_ne0, s_nn, s_eql, s_neq, s_lss, s_leq, s_gtr, s_geq, s_isz, s_bnot, s_beq, s_idx, s_addN, s_subN, s_mulN, s_tn, s_ofn, s_nmin, s_drp, s_tak, s_app, s_len, s_leB, s_add, s_sub, s_mul, s_wr64, s_wr8, bytesE_fold, bytesE_length, bytesE_drop, bytesE_take, bytesE_app, intsE_fold, intsE_length, decide_eq_true_eq, decide_eq_false_iff_not, Nat.mul_one, Nat.zero_add, Nat.add_zero, Bool.not_eq_true', List.length_take, List.length_drop, List.length_append, List.length_cons, List.length_nil, List.drop_zero, reduceCtorEq] at hbr) <;> (try ((with_reducible exfalso); omega)))
    | ((with_reducible refine runK hA hd hQ 200 ?hk ?_); (case hk => exact trivial); (conv => arg 9; cbv); (try simp only [OK]))
    | ((with_reducible refine need_of ?hn ?_); (case hn => ((simp (disch := omega) only [hA, OK, s_le, s_inb, s_slb, s_room, s_mks, s_ne0, s_nn, s_eql, s_neq, s_lss, s_leq, s_gtr, s_geq, s_isz, s_bnot, s_beq, s_idx, s_addN, s_subN, s_mulN, s_tn, s_ofn, s_nmin, s_drp, s_tak, s_app, s_len, s_leB, s_add, s_sub, s_mul, s_wr64, s_wr8, bytesE_fold, bytesE_length, bytesE_drop, bytesE_take, bytesE_app, intsE_fold, intsE_length, decide_eq_true_eq, decide_eq_false_iff_not, Nat.mul_one, Nat.zero_add, Nat.add_zero, Bool.not_eq_true', List.length_take, List.length_drop, List.length_append, List.length_cons, List.length_nil, List.drop_zero]) <;> omega)))
    | fail
  all_goals refine ⟨_, rfl, _, (by first | exact .inl rfl | exact .inr rfl), ?_⟩
  all_goals (try simp (disch := omega) only [hA, OK, s_le, s_inb, s_slb, s_room, s_mks, s_ne0, s_nn, s_eql, s_neq, s_lss, s_leq, s_gtr, s_geq, s_isz, s_bnot, s_beq, s_idx, s_addN, s_subN, s_mulN, s_tn, s_ofn, s_nmin, s_drp, s_tak, s_app, s_len, s_leB, s_add, s_sub, s_mul, s_wr64, s_wr8, bytesE_fold, bytesE_length, bytesE_drop, bytesE_take, bytesE_app, intsE_fold, intsE_length, decide_eq_true_eq, decide_eq_false_iff_not, Nat.mul_one, Nat.zero_add, Nat.add_zero, Bool.not_eq_true', List.length_take, List.length_drop, List.length_append, List.length_cons, List.length_nil, List.drop_zero, Bool.false_eq_true, true_iff, false_iff, eq_self, iff_true, iff_false])
  all_goals first | omega | (simp <;> omega) | (simp_all <;> omega)
set_option maxHeartbeats 1000000 in
theorem isText_ok (k : Int) (h : EH) : Tri Tryz.prog gs 40 [.lit (.int .i64 k)] h fun v h' => IsP (12 ≤ k ∧ k ≤ 14) v ∧ h' = h := by
  refine Tri.boolC rfl (Tri_of F40_ok fun I0 ρ0 w0 Q hρ hQ => ?_) h
  obtain ⟨A, hA⟩ : ∃ A, A = stdA := ⟨_, rfl⟩
  with_reducible refine runS hA hd hQ 200 ?hk ?_
  case hk => exact trivial
  conv => arg 9; cbv
  try simp only [OK]
  repeat' first
    | ((with_reducible refine ⟨fun hbr => ?_, fun hbr => ?_⟩) <;> (try simp (disch := omega) only [hA, OK, s_le, s_inb, s_slb, s_room, s_mks, s_ne0, s_nn, s_eql, s_neq, s_lss, s_leq, s_gtr, s_geq, s_isz, s_bnot, s_beq, s_idx, s_addN, s_subN, s_mulN, s_tn, s_ofn, s_nmin, s_drp, s_tak, s_app, s_len, s_leB, s_add, s_sub, s_mul, s_wr64, s_wr8, bytesE_fold, bytesE_length, bytesE_drop, bytesE_take, bytesE_app, intsE_fold, intsE_length, decide_eq_true_eq, decide_eq_false_iff_not, Nat.mul_one, Nat.zero_add, Nat.add_zero, Bool.not_eq_true', List.length_take, List.length_drop, List.length_append, List.length_cons, List.length_nil, List.drop_zero, reduceCtorEq] at hbr) <;> (try ((with_reducible exfalso); omega)))
    | ((with_reducible refine runK hA hd hQ 200 ?hk ?_); (case hk => exact trivial); (conv => arg 9; cbv); (try simp only [OK]))
    | ((with_reducible refine need_of ?hn ?_); (case hn => ((simp (disch := omega) only [hA, OK, s_le, s_inb, s_slb, s_room, s_mks, s_ne0, s_nn, s_eql, s_neq, s_lss, s_leq, s_gtr, s_geq, s_isz, s_bnot, s_beq, s_idx, s_addN, s_subN, s_mulN, s_tn, s_ofn, s_nmin, s_drp, s_tak, s_app, s_len, s_leB, s_add, s_sub, s_mul, s_wr64, s_wr8, bytesE_fold, bytesE_length, bytesE_drop, bytesE_take, bytesE_app, intsE_fold, intsE_length, decide_eq_true_eq, decide_eq_false_iff_not, Nat.mul_one, Nat.zero_add, Nat.add_zero, Bool.not_eq_true', List.length_take, List.length_drop, List.length_append, List.length_cons, List.length_nil, List.drop_zero]) <;> omega)))
    | fail
  all_goals refine ⟨_, rfl, _, (by first | exact .inl rfl | exact .inr rfl), ?_⟩
  all_goals (try simp (disch := omega) only [hA, OK, s_le, s_inb, s_slb, s_room, s_mks, s_ne0, s_nn, s_eql, s_neq, s_lss, s_leq, s_gtr, s_geq, s_isz, s_bnot, s_beq, s_idx, s_addN, s_subN, s_mulN, s_tn, s_ofn, s_nmin, s_drp, s_tak, s_app, s_len, s_leB, s_add, s_sub, s_mul, s_wr64, s_wr8, bytesE_fold, bytesE_length, bytesE_drop, bytesE_take, bytesE_app, intsE_fold, intsE_length, decide_eq_true_eq, decide_eq_false_iff_not, Nat.mul_one, Nat.zero_add, Nat.add_zero, Bool.not_eq_true', List.length_take, List.length_drop, List.length_append, List.length_cons, List.length_nil, List.drop_zero, Bool.false_eq_true, true_iff, false_iff, eq_self, iff_true, iff_false])
  all_goals first | omega | (simp <;> omega) | (simp_all <;> omega)
set_option maxHeartbeats 1000000 in
theorem textR_ok (k : Int) (h : EH) : Tri Tryz.prog gs 57 [.lit (.int .i64 k)] h fun v h' => IsP (12 ≤ k ∧ k ≤ 14) v ∧ h' = h := by
  refine Tri.boolC rfl (Tri_of F57_ok fun I0 ρ0 w0 Q hρ hQ => ?_) h
  obtain ⟨A, hA⟩ : ∃ A, A = stdA := ⟨_, rfl⟩
  with_reducible refine runS hA hd hQ 200 ?hk ?_
  case hk => exact trivial
  conv => arg 9; cbv
  try simp only [OK]
  repeat' first
    | ((with_reducible refine ⟨fun hbr => ?_, fun hbr => ?_⟩) <;> (try simp (disch := omega) only [hA, OK, s_le, s_inb, s_slb, s_room, s_mks, s_ne0, s_nn, s_eql, s_neq, s_lss, s_leq, s_gtr, s_geq, s_isz, s_bnot, s_beq, s_idx, s_addN, s_subN, s_mulN, s_tn, s_ofn, s_nmin, s_drp, s_tak, s_app, s_len, s_leB, s_add, s_sub, s_mul, s_wr64, s_wr8, bytesE_fold, bytesE_length, bytesE_drop, bytesE_take, bytesE_app, intsE_fold, intsE_length, decide_eq_true_eq, decide_eq_false_iff_not, Nat.mul_one, Nat.zero_add, Nat.add_zero, Bool.not_eq_true', List.length_take, List.length_drop, List.length_append, List.length_cons, List.length_nil, List.drop_zero, reduceCtorEq] at hbr) <;> (try ((with_reducible exfalso); omega)))
    | ((with_reducible refine runK hA hd hQ 200 ?hk ?_); (case hk => exact trivial); (conv => arg 9; cbv); (try simp only [OK]))
    | ((with_reducible refine need_of ?hn ?_); (case hn => ((simp (disch := omega) only [hA, OK, s_le, s_inb, s_slb, s_room, s_mks, s_ne0, s_nn, s_eql, s_neq, s_lss, s_leq, s_gtr, s_geq, s_isz, s_bnot, s_beq, s_idx, s_addN, s_subN, s_mulN, s_tn, s_ofn, s_nmin, s_drp, s_tak, s_app, s_len, s_leB, s_add, s_sub, s_mul, s_wr64, s_wr8, bytesE_fold, bytesE_length, bytesE_drop, bytesE_take, bytesE_app, intsE_fold, intsE_length, decide_eq_true_eq, decide_eq_false_iff_not, Nat.mul_one, Nat.zero_add, Nat.add_zero, Bool.not_eq_true', List.length_take, List.length_drop, List.length_append, List.length_cons, List.length_nil, List.drop_zero]) <;> omega)))
    | fail
  all_goals refine ⟨_, rfl, _, (by first | exact .inl rfl | exact .inr rfl), ?_⟩
  all_goals (try simp (disch := omega) only [hA, OK, s_le, s_inb, s_slb, s_room, s_mks, s_ne0, s_nn, s_eql, s_neq, s_lss, s_leq, s_gtr, s_geq, s_isz, s_bnot, s_beq, s_idx, s_addN, s_subN, s_mulN, s_tn, s_ofn, s_nmin, s_drp, s_tak, s_app, s_len, s_leB, s_add, s_sub, s_mul, s_wr64, s_wr8, bytesE_fold, bytesE_length, bytesE_drop, bytesE_take, bytesE_app, intsE_fold, intsE_length, decide_eq_true_eq, decide_eq_false_iff_not, Nat.mul_one, Nat.zero_add, Nat.add_zero, Bool.not_eq_true', List.length_take, List.length_drop, List.length_append, List.length_cons, List.length_nil, List.drop_zero, Bool.false_eq_true, true_iff, false_iff, eq_self, iff_true, iff_false])
  all_goals first | omega | (simp <;> omega) | (simp_all <;> omega)
set_option maxHeartbeats 1000000 in
theorem hasBounds_ok (k : Int) (h : EH) : Tri Tryz.prog gs 38 [.lit (.int .i64 k)] h fun v h' => IsP (2 ≤ k ∧ k ≤ 14) v ∧ h' = h := by
  refine Tri.boolC rfl (Tri_of F38_ok fun I0 ρ0 w0 Q hρ hQ => ?_) h
  obtain ⟨A, hA⟩ : ∃ A, A = stdA := ⟨_, rfl⟩
  with_reducible refine runS hA hd hQ 200 ?hk ?_
  case hk => exact trivial
  conv => arg 9; cbv
  try simp only [OK]
  repeat' first
    | ((with_reducible refine ⟨fun hbr => ?_, fun hbr => ?_⟩) <;> (try simp (disch := omega) only [hA, OK, s_le, s_inb, s_slb, s_room, s_mks, s_ne0, s_nn, s_eql, s_neq, s_lss, s_leq, s_gtr, s_geq, s_isz, s_bnot, s_beq, s_idx, s_addN, s_subN, s_mulN, s_tn, s_ofn, s_nmin, s_drp, s_tak, s_app, s_len, s_leB, s_add, s_sub, s_mul, s_wr64, s_wr8, bytesE_fold, bytesE_length, bytesE_drop, bytesE_take, bytesE_app, intsE_fold, intsE_length, decide_eq_true_eq, decide_eq_false_iff_not, Nat.mul_one, Nat.zero_add, Nat.add_zero, Bool.not_eq_true', List.length_take, List.length_drop, List.length_append, List.length_cons, List.length_nil, List.drop_zero, reduceCtorEq] at hbr) <;> (try ((with_reducible exfalso); omega)))
    | ((with_reducible refine runK hA hd hQ 200 ?hk ?_); (case hk => exact trivial); (conv => arg 9; cbv); (try simp only [OK]))
    | ((with_reducible refine need_of ?hn ?_); (case hn => ((simp (disch := omega) only [hA, OK, s_le, s_inb, s_slb, s_room, s_mks, s_ne0, s_nn, s_eql, s_neq, s_lss, s_leq, s_gtr, s_geq, s_isz, s_bnot, s_beq, s_idx, s_addN, s_subN, s_mulN, s_tn, s_ofn, s_nmin, s_drp, s_tak, s_app, s_len, s_leB, s_add, s_sub, s_mul, s_wr64, s_wr8, bytesE_fold, bytesE_length, bytesE_drop, bytesE_take, bytesE_app, intsE_fold, intsE_length, decide_eq_true_eq, decide_eq_false_iff_not, Nat.mul_one, Nat.zero_add, Nat.add_zero, Bool.not_eq_true', List.length_take, List.length_drop, List.length_append, List.length_cons, List.length_nil, List.drop_zero]) <;> omega)))
    | fail
  all_goals refine ⟨_, rfl, _, (by first | exact .inl rfl | exact .inr rfl), ?_⟩
  all_goals (try simp (disch := omega) only [hA, OK, s_le, s_inb, s_slb, s_room, s_mks, s_ne0, s_nn, s_eql, s_neq, s_lss, s_leq, s_gtr, s_geq, s_isz, s_bnot, s_beq, s_idx, s_addN, s_subN, s_mulN, s_tn, s_ofn, s_nmin, s_drp, s_tak, s_app, s_len, s_leB, s_add, s_sub, s_mul, s_wr64, s_wr8, bytesE_fold, bytesE_length, bytesE_drop, bytesE_take, bytesE_app, intsE_fold, intsE_length, decide_eq_true_eq, decide_eq_false_iff_not, Nat.mul_one, Nat.zero_add, Nat.add_zero, Bool.not_eq_true', List.length_take, List.length_drop, List.length_append, List.length_cons, List.length_nil, List.drop_zero, Bool.false_eq_true, true_iff, false_iff, eq_self, iff_true, iff_false])
  all_goals first | omega | (simp <;> omega) | (simp_all <;> omega)
end Go.Proofs.YtecephhhjhpcjaaGreatDoor.Stats
end
section
set_option linter.unusedVariables false
set_option linter.unusedSimpArgs false
namespace Go.Proofs.YtecephhhjhpcjaaGreatDoor.Stats
open Go Go.Proofs.YtecephhhjhpcjaaGreatDoor Go.Proofs.YtecephhhjhpcjaaGreatDoor.Em
mutual
theorem clF : ∀ f : Fld, clL (cellsF f) = true
  | .mk nm nul k w i x kids => by simp [cellsF, clL, clE, clFs kids]
theorem clFs : ∀ l : List Fld, clL (cellsFs l) = true
  | [] => rfl
  | f :: l => by
    have h1 := clF f
    have h2 := clFs l
    refine clL_of fun x hx => ?_
    rw [cellsFs] at hx
    rcases List.mem_append.1 hx with hx | hx
    · obtain ⟨j, hj⟩ := List.getElem?_of_mem hx; exact clL_get h1 j x hj
    · obtain ⟨j, hj⟩ := List.getElem?_of_mem hx; exact clL_get h2 j x hj
end
set_option maxHeartbeats 1000000 in
theorem bounded_ok (k : Int) (h : EH) : Tri Tryz.prog gs 45 [.lit (.int .i64 k)] h fun v h' => IsP (2 ≤ k ∧ k ≤ 14) v ∧ h' = h := by
  refine Tri.boolC rfl (Tri_of F45_ok fun I0 ρ0 w0 Q hρ hQ => ?_) h
  obtain ⟨A, hA⟩ : ∃ A, A = stdA := ⟨_, rfl⟩
  with_reducible refine runS hA hd hQ 200 ?hk ?_
  case hk => exact trivial
  conv => arg 9; cbv
  try simp only [OK]
  repeat' first
    | ((with_reducible refine ⟨fun hbr => ?_, fun hbr => ?_⟩) <;> (try simp (disch := omega) only [hA, OK, s_le, s_inb, s_slb, s_room, s_mks, s_ne0, s_nn, s_eql, s_neq, s_lss, s_leq, s_gtr, s_geq, s_isz, s_bnot, s_beq, s_idx, s_addN, s_subN, s_mulN, s_tn, s_ofn, s_nmin, s_drp, s_tak, s_app, s_len, s_leB, s_add, s_sub, s_mul, s_wr64, s_wr8, bytesE_fold, bytesE_length, bytesE_drop, bytesE_take, bytesE_app, intsE_fold, intsE_length, decide_eq_true_eq, decide_eq_false_iff_not, Nat.mul_one, Nat.zero_add, Nat.add_zero, Bool.not_eq_true', List.length_take, List.length_drop, List.length_append, List.length_cons, List.length_nil, List.drop_zero, reduceCtorEq] at hbr) <;> (try ((with_reducible exfalso); omega)))
    | ((with_reducible refine runK hA hd hQ 200 ?hk ?_); (case hk => exact trivial); (conv => arg 9; cbv); (try simp only [OK]))
    | ((with_reducible refine need_of ?hn ?_); (case hn => ((simp (disch := omega) only [hA, OK, s_le, s_inb, s_slb, s_room, s_mks, s_ne0, s_nn, s_eql, s_neq, s_lss, s_leq, s_gtr, s_geq, s_isz, s_bnot, s_beq, s_idx, s_addN, s_subN, s_mulN, s_tn, s_ofn, s_nmin, s_drp, s_tak, s_app, s_len, s_leB, s_add, s_sub, s_mul, s_wr64, s_wr8, bytesE_fold, bytesE_length, bytesE_drop, bytesE_take, bytesE_app, intsE_fold, intsE_length, decide_eq_true_eq, decide_eq_false_iff_not, Nat.mul_one, Nat.zero_add, Nat.add_zero, Bool.not_eq_true', List.length_take, List.length_drop, List.length_append, List.length_cons, List.length_nil, List.drop_zero]) <;> omega)))
    | (refine CallOK.of (goodF_of F57_ok) (Tri.mono (textR_ok _ _) fun v hh hx => ?_); (obtain ⟨⟨b, hv, hb⟩, he⟩ := hx; subst hv; subst he; cases b <;> simp (disch := omega) only [hA, OK, s_le, s_inb, s_slb, s_room, s_mks, s_ne0, s_nn, s_eql, s_neq, s_lss, s_leq, s_gtr, s_geq, s_isz, s_bnot, s_beq, s_idx, s_addN, s_subN, s_mulN, s_tn, s_ofn, s_nmin, s_drp, s_tak, s_app, s_len, s_leB, s_add, s_sub, s_mul, s_wr64, s_wr8, bytesE_fold, bytesE_length, bytesE_drop, bytesE_take, bytesE_app, intsE_fold, intsE_length, decide_eq_true_eq, decide_eq_false_iff_not, Nat.mul_one, Nat.zero_add, Nat.add_zero, Bool.not_eq_true', List.length_take, List.length_drop, List.length_append, List.length_cons, List.length_nil, List.drop_zero, Bool.false_eq_true, true_iff, false_iff, eq_self, reduceCtorEq] at hb) <;> (try ((with_reducible exfalso); omega)))
    | fail
  all_goals refine ⟨_, rfl, _, (by first | exact .inl rfl | exact .inr rfl), ?_⟩
  all_goals (try simp (disch := omega) only [hA, OK, s_le, s_inb, s_slb, s_room, s_mks, s_ne0, s_nn, s_eql, s_neq, s_lss, s_leq, s_gtr, s_geq, s_isz, s_bnot, s_beq, s_idx, s_addN, s_subN, s_mulN, s_tn, s_ofn, s_nmin, s_drp, s_tak, s_app, s_len, s_leB, s_add, s_sub, s_mul, s_wr64, s_wr8, bytesE_fold, bytesE_length, bytesE_drop, bytesE_take, bytesE_app, intsE_fold, intsE_length, decide_eq_true_eq, decide_eq_false_iff_not, Nat.mul_one, Nat.zero_add, Nat.add_zero, Bool.not_eq_true', List.length_take, List.length_drop, List.length_append, List.length_cons, List.length_nil, List.drop_zero, Bool.false_eq_true, true_iff, false_iff, eq_self, iff_true, iff_false])
  all_goals first | omega | (simp <;> omega) | (simp_all <;> omega)
set_option maxHeartbeats 4000000 in
theorem shaped_ok (k w i x : Int) (n : Nat) (c : List EV) (h : EH) (hn : n ≤ 140737488351232) (hc : clL c = true) :
    Tri Tryz.prog gs 78 [.agg [.lit (.int .i64 k), .lit (.int .i64 w), .lit (.int .i64 i), .lit (.int .i64 x), .isl n none c]] h fun v h' => IsP (fitsP k w i x n) v ∧ h' = h := by
  refine Tri.boolC (by simp [clL, clE, hc]) (Tri_of F78_ok fun I0 ρ0 w0 Q hρ hQ => ?_) h
  obtain ⟨A, hA⟩ : ∃ A, A = stdA := ⟨_, rfl⟩
  with_reducible refine runS hA hd hQ 300 ?hk ?_
  case hk => exact trivial
  conv => arg 9; cbv
  try simp only [OK]
  repeat' first
    | ((with_reducible refine ⟨fun hbr => ?_, fun hbr => ?_⟩) <;> (try simp (disch := omega) only [hA, OK, s_le, s_inb, s_slb, s_room, s_mks, s_ne0, s_nn, s_eql, s_neq, s_lss, s_leq, s_gtr, s_geq, s_isz, s_bnot, s_beq, s_idx, s_addN, s_subN, s_mulN, s_tn, s_ofn, s_nmin, s_drp, s_tak, s_app, s_len, s_leB, s_add, s_sub, s_mul, s_wr64, s_wr8, bytesE_fold, bytesE_length, bytesE_drop, bytesE_take, bytesE_app, intsE_fold, intsE_length, decide_eq_true_eq, decide_eq_false_iff_not, Nat.mul_one, Nat.zero_add, Nat.add_zero, Bool.not_eq_true', List.length_take, List.length_drop, List.length_append, List.length_cons, List.length_nil, List.drop_zero, reduceCtorEq] at hbr) <;> (try ((with_reducible exfalso); omega)))
    | ((with_reducible refine runK hA hd hQ 300 ?hk ?_); (case hk => exact trivial); (conv => arg 9; cbv); (try simp only [OK]))
    | ((with_reducible refine need_of ?hn ?_); (case hn => ((simp (disch := omega) only [hA, OK, s_le, s_inb, s_slb, s_room, s_mks, s_ne0, s_nn, s_eql, s_neq, s_lss, s_leq, s_gtr, s_geq, s_isz, s_bnot, s_beq, s_idx, s_addN, s_subN, s_mulN, s_tn, s_ofn, s_nmin, s_drp, s_tak, s_app, s_len, s_leB, s_add, s_sub, s_mul, s_wr64, s_wr8, bytesE_fold, bytesE_length, bytesE_drop, bytesE_take, bytesE_app, intsE_fold, intsE_length, decide_eq_true_eq, decide_eq_false_iff_not, Nat.mul_one, Nat.zero_add, Nat.add_zero, Bool.not_eq_true', List.length_take, List.length_drop, List.length_append, List.length_cons, List.length_nil, List.drop_zero]) <;> omega)))
    | fail
  all_goals refine ⟨_, rfl, _, (by first | exact .inl rfl | exact .inr rfl), ?_⟩
  all_goals (try simp (disch := omega) only [hA, OK, s_le, s_inb, s_slb, s_room, s_mks, s_ne0, s_nn, s_eql, s_neq, s_lss, s_leq, s_gtr, s_geq, s_isz, s_bnot, s_beq, s_idx, s_addN, s_subN, s_mulN, s_tn, s_ofn, s_nmin, s_drp, s_tak, s_app, s_len, s_leB, s_add, s_sub, s_mul, s_wr64, s_wr8, bytesE_fold, bytesE_length, bytesE_drop, bytesE_take, bytesE_app, intsE_fold, intsE_length, decide_eq_true_eq, decide_eq_false_iff_not, Nat.mul_one, Nat.zero_add, Nat.add_zero, Bool.not_eq_true', List.length_take, List.length_drop, List.length_append, List.length_cons, List.length_nil, List.drop_zero, Bool.false_eq_true, true_iff, false_iff, eq_self, iff_true, iff_false])
  all_goals unfold fitsP
  all_goals (repeat' split)
  all_goals omega
theorem kid_look (f : Fld) (l : List Fld) {c : List EV} (hc : c = cellsFs (f :: l)) : (c.drop 1).take 1 = [.lit (.bool f.nul)] := by
  subst hc; cases f; rfl
end Go.Proofs.YtecephhhjhpcjaaGreatDoor.Stats
end
section
set_option linter.unusedVariables false
set_option linter.unusedSimpArgs false
namespace Go.Proofs.YtecephhhjhpcjaaGreatDoor.Stats
open Go Go.Proofs.YtecephhhjhpcjaaGreatDoor Go.Proofs.YtecephhhjhpcjaaGreatDoor.Em
theorem one_of {k w i x : Int} {kids : List Fld} (hf : fitsP k w i x kids.length) (h : k = 20) : kids.length = 1 := by
  obtain ⟨_, _, hf⟩ := hf
  rw [if_neg (by omega), if_pos (.inr h)] at hf
  exact hf.2.2.2
set_option maxHeartbeats 4000000 in
theorem nullsR_ok (nm : ByteArray) (nul : Bool) (k w i x : Int) (kids : List Fld) (h : EH) (hf : fitsP k w i x kids.length) :
    Tri Tryz.prog gs 79 [.agg (cellsF (.mk nm nul k w i x kids))] h fun v h' => IsP (nullsP nul k kids) v ∧ h' = h := by
  refine Tri.boolC (by simp [clL, clE, cellsF, clFs]) (Tri_of F79_ok fun I0 ρ0 w0 Q hρ hQ => ?_) h
  obtain ⟨A, hA⟩ : ∃ A, A = stdA := ⟨_, rfl⟩
  simp only [cellsF]
  obtain ⟨n, hn⟩ : ∃ n, n = kids.length := ⟨_, rfl⟩
  obtain ⟨c, hc⟩ : ∃ c, c = cellsFs kids := ⟨_, rfl⟩
  have hn1 := (one_of hf)
  obtain ⟨b, hb⟩ : ∃ b, b = kid0 kids := ⟨_, rfl⟩
  have L : k = 20 → List.take 1 (List.drop (A.add (A.idx 0 0 7) 1) c) = [.lit (.bool b)] := fun h20 => by
    rw [hA, hc, hb]
    match kids, hn1 h20 with
    | [f], _ => exact kid_look f [] rfl
  have hp : nullsP nul k kids ↔ ((k = 1 → nul = true) ∧ (k = 18 → nul = false) ∧ (k = 20 → nul = b)) := by rw [hb]; exact Iff.rfl
  simp only [hp] at hQ
  rw [← hn] at hn1
  rw [← hn, ← hc]
  clear hp hb hc hn hf
  cases nul <;> cases b
  all_goals
    with_reducible refine runS hA hd hQ 300 ?hk ?_
    case hk => exact trivial
    conv => arg 9; cbv
    try simp only [OK]
    repeat' first
      | ((with_reducible refine ⟨fun hbr => ?_, fun hbr => ?_⟩) <;> (try simp (disch := omega) only [hA, OK, s_le, s_inb, s_slb, s_room, s_mks, s_ne0, s_nn, s_eql, s_neq, s_lss, s_leq, s_gtr, s_geq, s_isz, s_bnot, s_beq, s_idx, s_addN, s_subN, s_mulN, s_tn, s_ofn, s_nmin, s_drp, s_tak, s_app, s_len, s_leB, s_add, s_sub, s_mul, s_wr64, s_wr8, bytesE_fold, bytesE_length, bytesE_drop, bytesE_take, bytesE_app, intsE_fold, intsE_length, decide_eq_true_eq, decide_eq_false_iff_not, Nat.mul_one, Nat.zero_add, Nat.add_zero, Bool.not_eq_true', List.length_take, List.length_drop, List.length_append, List.length_cons, List.length_nil, List.drop_zero, reduceCtorEq] at hbr) <;> (try ((with_reducible exfalso); omega)))
      | ((with_reducible refine runK hA hd hQ 300 ?hk ?_); (case hk => exact trivial); (conv => arg 9; cbv); (try simp only [OK]))
      | ((with_reducible refine need_of ?hn ?_); (case hn => ((simp (disch := omega) only [hA, OK, s_le, s_inb, s_slb, s_room, s_mks, s_ne0, s_nn, s_eql, s_neq, s_lss, s_leq, s_gtr, s_geq, s_isz, s_bnot, s_beq, s_idx, s_addN, s_subN, s_mulN, s_tn, s_ofn, s_nmin, s_drp, s_tak, s_app, s_len, s_leB, s_add, s_sub, s_mul, s_wr64, s_wr8, bytesE_fold, bytesE_length, bytesE_drop, bytesE_take, bytesE_app, intsE_fold, intsE_length, decide_eq_true_eq, decide_eq_false_iff_not, Nat.mul_one, Nat.zero_add, Nat.add_zero, Bool.not_eq_true', List.length_take, List.length_drop, List.length_append, List.length_cons, List.length_nil, List.drop_zero]) <;> omega)))
      | ((refine ⟨_, _, ?l1, (L hbr), rfl, ?_⟩); (case l1 => exact rfl))
      | fail
  all_goals refine ⟨_, rfl, _, (by first | exact .inl rfl | exact .inr rfl), ?_⟩
  all_goals (try simp (disch := omega) only [hA, OK, s_le, s_inb, s_slb, s_room, s_mks, s_ne0, s_nn, s_eql, s_neq, s_lss, s_leq, s_gtr, s_geq, s_isz, s_bnot, s_beq, s_idx, s_addN, s_subN, s_mulN, s_tn, s_ofn, s_nmin, s_drp, s_tak, s_app, s_len, s_leB, s_add, s_sub, s_mul, s_wr64, s_wr8, bytesE_fold, bytesE_length, bytesE_drop, bytesE_take, bytesE_app, intsE_fold, intsE_length, decide_eq_true_eq, decide_eq_false_iff_not, Nat.mul_one, Nat.zero_add, Nat.add_zero, Bool.not_eq_true', List.length_take, List.length_drop, List.length_append, List.length_cons, List.length_nil, List.drop_zero, Bool.false_eq_true, true_iff, false_iff, eq_self, iff_true, iff_false , reduceCtorEq, imp_false])
  all_goals first | omega | (simp <;> omega) | (simp_all <;> omega)
set_option maxHeartbeats 4000000 in
theorem nulls_ok (nm : ByteArray) (nul : Bool) (k w i x : Int) (kids : List Fld) (h : EH) (hf : fitsP k w i x kids.length) :
    Tri Tryz.prog gs 87 [.agg (cellsF (.mk nm nul k w i x kids))] h fun v h' => IsP (nullsP nul k kids) v ∧ h' = h := by
  refine Tri.boolC (by simp [clL, clE, cellsF, clFs]) (Tri_of F87_ok fun I0 ρ0 w0 Q hρ hQ => ?_) h
  obtain ⟨A, hA⟩ : ∃ A, A = stdA := ⟨_, rfl⟩
  simp only [cellsF]
  obtain ⟨n, hn⟩ : ∃ n, n = kids.length := ⟨_, rfl⟩
  obtain ⟨c, hc⟩ : ∃ c, c = cellsFs kids := ⟨_, rfl⟩
  have hn1 := (one_of hf)
  obtain ⟨b, hb⟩ : ∃ b, b = kid0 kids := ⟨_, rfl⟩
  have L : k = 20 → List.take 1 (List.drop (A.add (A.idx 0 0 7) 1) c) = [.lit (.bool b)] := fun h20 => by
    rw [hA, hc, hb]
    match kids, hn1 h20 with
    | [f], _ => exact kid_look f [] rfl
  have hp : nullsP nul k kids ↔ ((k = 1 → nul = true) ∧ (k = 18 → nul = false) ∧ (k = 20 → nul = b)) := by rw [hb]; exact Iff.rfl
  simp only [hp] at hQ
  rw [← hn] at hn1
  rw [← hn, ← hc]
  clear hp hb hc hn hf
  cases nul <;> cases b
  all_goals
    with_reducible refine runS hA hd hQ 300 ?hk ?_
    case hk => exact trivial
    conv => arg 9; cbv
    try simp only [OK]
    repeat' first
      | ((with_reducible refine ⟨fun hbr => ?_, fun hbr => ?_⟩) <;> (try simp (disch := omega) only [hA, OK, s_le, s_inb, s_slb, s_room, s_mks, s_ne0, s_nn, s_eql, s_neq, s_lss, s_leq, s_gtr, s_geq, s_isz, s_bnot, s_beq, s_idx, s_addN, s_subN, s_mulN, s_tn, s_ofn, s_nmin, s_drp, s_tak, s_app, s_len, s_leB, s_add, s_sub, s_mul, s_wr64, s_wr8, bytesE_fold, bytesE_length, bytesE_drop, bytesE_take, bytesE_app, intsE_fold, intsE_length, decide_eq_true_eq, decide_eq_false_iff_not, Nat.mul_one, Nat.zero_add, Nat.add_zero, Bool.not_eq_true', List.length_take, List.length_drop, List.length_append, List.length_cons, List.length_nil, List.drop_zero, reduceCtorEq] at hbr) <;> (try ((with_reducible exfalso); omega)))
      | ((with_reducible refine runK hA hd hQ 300 ?hk ?_); (case hk => exact trivial); (conv => arg 9; cbv); (try simp only [OK]))
      | ((with_reducible refine need_of ?hn ?_); (case hn => ((simp (disch := omega) only [hA, OK, s_le, s_inb, s_slb, s_room, s_mks, s_ne0, s_nn, s_eql, s_neq, s_lss, s_leq, s_gtr, s_geq, s_isz, s_bnot, s_beq, s_idx, s_addN, s_subN, s_mulN, s_tn, s_ofn, s_nmin, s_drp, s_tak, s_app, s_len, s_leB, s_add, s_sub, s_mul, s_wr64, s_wr8, bytesE_fold, bytesE_length, bytesE_drop, bytesE_take, bytesE_app, intsE_fold, intsE_length, decide_eq_true_eq, decide_eq_false_iff_not, Nat.mul_one, Nat.zero_add, Nat.add_zero, Bool.not_eq_true', List.length_take, List.length_drop, List.length_append, List.length_cons, List.length_nil, List.drop_zero]) <;> omega)))
      | ((refine ⟨_, _, ?l1, (L hbr), rfl, ?_⟩); (case l1 => exact rfl))
      | fail
  all_goals refine ⟨_, rfl, _, (by first | exact .inl rfl | exact .inr rfl), ?_⟩
  all_goals (try simp (disch := omega) only [hA, OK, s_le, s_inb, s_slb, s_room, s_mks, s_ne0, s_nn, s_eql, s_neq, s_lss, s_leq, s_gtr, s_geq, s_isz, s_bnot, s_beq, s_idx, s_addN, s_subN, s_mulN, s_tn, s_ofn, s_nmin, s_drp, s_tak, s_app, s_len, s_leB, s_add, s_sub, s_mul, s_wr64, s_wr8, bytesE_fold, bytesE_length, bytesE_drop, bytesE_take, bytesE_app, intsE_fold, intsE_length, decide_eq_true_eq, decide_eq_false_iff_not, Nat.mul_one, Nat.zero_add, Nat.add_zero, Bool.not_eq_true', List.length_take, List.length_drop, List.length_append, List.length_cons, List.length_nil, List.drop_zero, Bool.false_eq_true, true_iff, false_iff, eq_self, iff_true, iff_false , reduceCtorEq, imp_false])
  all_goals first | omega | (simp <;> omega) | (simp_all <;> omega)
end Go.Proofs.YtecephhhjhpcjaaGreatDoor.Stats
end
