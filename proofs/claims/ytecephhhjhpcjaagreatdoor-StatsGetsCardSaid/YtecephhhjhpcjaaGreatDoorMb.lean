/- YtecephhhjhpcjaaGreatDoorMb: the texts Scd, Sc1, Sc2, St1, St2, St3, St4, St5, St6, St7, St8, brought together. No conditions. -/
import Derived.Test.YtecephhhjhpcjaaGreatDoorMa
import Derived.Test.YtecephhhjhpcjaaGreatDoorX22
import Derived.Test.YtecephhhjhpcjaaGreatDoorX32
import Derived.Test.YtecephhhjhpcjaaGreatDoorX35
import Derived.Test.YtecephhhjhpcjaaGreatDoorX34
import Derived.Test.YtecephhhjhpcjaaGreatDoorX37
import Derived.Test.YtecephhhjhpcjaaGreatDoorProg
import Derived.KernelRfl
section
set_option linter.unusedVariables false
namespace Go.Proofs.YtecephhhjhpcjaaGreatDoor.Stats
open Go Go.Proofs.YtecephhhjhpcjaaGreatDoor Go.Proofs.YtecephhhjhpcjaaGreatDoor.Em
def F123 : FC := ⟨11, [.tmp 2],
  (sQ [o 1 (.box (q 0)), o 2 (.mov (.const (.slice none 0 0)))]
  (.seq (sQ [oA 3 5 1, oL 4 3, o 5 (.len 1 (q 4)), o 6 (.bin .gtr (q 5) (kI 0) tI)]
  (.cond (q 6)
  (sQ [oA 7 5 1, oL 8 7, oM 2 8]
  .ret)
  .skip))
  (sQ [oA 9 4 1, oL 10 9, oM 2 10]
  .ret)))⟩
theorem F123_ok : compF Tryz.prog 123 = some F123 := by kernel_rfl
def F126 : FC := ⟨207, [.tmp 6],
  (sQ [o 3 (.box (q 0)), o 4 (.box (q 1)), o 6 (.mov (.const (.slice none 0 0)))]
  (sQ [oA 19 2 3, o 20 (.load true 5 (q 19)), o 7 (.alloc [.int .i64 0, .int .i64 0, .int .i64 0, .int .i64 0, .slice none 0 0]), oS 5 7 20]
  (sQ [oA 21 0 4, oL 22 21, o 23 (.mkSlice 1 8 [.int .i64 0] (q 22) (q 22)), oM 8 23]
  (sQ [o 9 (.mov (kI 0))]
  (.seq (sQ [oM 24 8, o 25 (.len 1 (q 24)), o 26 (.mov (kI 0))]
  (.block 0 (.loop (sQ [o 27 (.bin .lss (q 26) (q 25) tI)]
  (.seq (.cond (q 27)
  .skip
  (.exit 0))
  (.seq (.block 1 (sQ [oM 28 26, oM 10 28]
  (sQ [oA 29 1 4, oL 30 29, oM 31 10, o 32 (.bin .add (q 30) (q 31) tI), oM 11 32]
  (sQ [oM 33 8, oM 34 10, o 35 (.indexAddr 1 (q 33) (q 34)), ⟨none, .store 1 (q 35) (kI 16), none⟩]
  (.seq (sQ [o 36 (.load true 7 (q 3)), o 37 (.load true 6 (q 4)), oM 38 11, o 39 (.call 136 [.tmp 36, .tmp 37, .tmp 38])]
  (.cond (q 39)
  (.exit 1)
  .skip))
  (sQ [o 12 (.mov (kI 0)), o 13 (.mov (kI 0))]
  (.seq (sQ [oA 40 0 7, oL 41 40]
  (.block 2 (sQ [o 43 (.bin .eql (q 41) (kI 14) tI), oM 42 43]
  (.cond (q 42)
  (.ops [oM 44 8, oM 45 10, o 46 (.indexAddr 1 (q 44) (q 45)), oL 47 46, oA 48 1 7, oL 49 48, o 50 (.bin .add (q 47) (q 49) tI), o 51 (.indexAddr 1 (q 44) (q 45)), oS 1 51 50])
  (.seq (sQ [o 53 (.bin .eql (q 41) (kI 12) tI), oM 52 53]
  (.cond (q 52)
  .skip
  (.ops [o 54 (.bin .eql (q 41) (kI 13) tI), oM 52 54])))
  (.cond (q 52)
  (.ops [oM 55 8, oM 56 10, o 57 (.indexAddr 1 (q 55) (q 56)), oL 58 57, oA 59 3 4, oL 60 59, o 61 (.indexAddr 1 (q 60) (kI 1)), oL 62 61, oM 63 11, o 64 (.bin .add (q 63) (kI 1) tI), oA 66 3 4, oL 67 66, o 68 (.indexAddr 1 (q 67) (kI 1)), oL 69 68, oM 70 11, o 65 (.call 135 [.tmp 62, .tmp 64]), ⟨none, .again 69 false 1 (q 68), none⟩, ⟨none, .again 67 false 1 (q 66), none⟩, ⟨none, .again 58 false 1 (q 57), none⟩, o 71 (.call 135 [.tmp 69, .tmp 70]), ⟨none, .again 58 false 1 (q 57), none⟩, o 72 (.bin .sub (q 65) (q 71) tI), o 73 (.bin .add (q 58) (q 72) tI), o 74 (.indexAddr 1 (q 55) (q 56)), oS 1 74 73])
  (sQ [o 76 (.bin .eql (q 41) (kI 15) tI), oM 75 76]
  (.cond (q 75)
  (.ops [oA 77 3 4, oL 78 77, o 79 (.indexAddr 1 (q 78) (kI 1)), oL 80 79, oM 81 11, oA 83 3 4, oL 84 83, o 85 (.indexAddr 1 (q 84) (kI 1)), oL 86 85, oM 87 11, o 88 (.bin .add (q 87) (kI 1) tI), o 82 (.call 135 [.tmp 80, .tmp 81]), ⟨none, .again 86 false 1 (q 85), none⟩, ⟨none, .again 84 false 1 (q 83), none⟩, o 89 (.call 135 [.tmp 86, .tmp 88]), oM 12 82, oM 13 89])
  (sQ [o 91 (.bin .eql (q 41) (kI 16) tI), oM 90 91]
  (.cond (q 90)
  (.ops [oM 92 11, oA 93 1 7, oL 94 93, o 95 (.bin .mul (q 92) (q 94) tI), oM 96 11, o 97 (.bin .add (q 96) (kI 1) tI), oA 98 1 7, oL 99 98, o 100 (.bin .mul (q 97) (q 99) tI), oM 12 95, oM 13 100])
  (sQ [o 102 (.bin .eql (q 41) (kI 17) tI), oM 101 102]
  (.cond (q 101)
  (sQ [oM 103 2, o 104 (.len 1 (q 103)), o 105 (.mov (kI 0))]
  (.block 3 (.loop (sQ [o 106 (.bin .lss (q 105) (q 104) tI)]
  (.seq (.cond (q 106)
  .skip
  (.exit 3))
  (.seq (.block 4 (sQ [o 107 (.indexAddr 1 (q 103) (q 105)), oL 108 107, oM 15 108]
  (.ops [oM 109 8, oM 110 10, o 111 (.indexAddr 1 (q 109) (q 110)), oL 112 111, oM 113 15, oM 114 11, o 115 (.indexAddr 1 (q 113) (q 114)), oL 116 115, o 117 (.bin .add (q 112) (q 116) tI), o 118 (.indexAddr 1 (q 109) (q 110)), oS 1 118 117])))
  (.ops [o 119 (.bin .add (q 105) (kI 1) tI), oM 105 119])))))))
  (sQ [o 121 (.bin .eql (q 41) (kI 18) tI), oM 120 121]
  (.cond (q 120)
  (.ops [oM 122 8, oM 123 10, o 124 (.indexAddr 1 (q 122) (q 123)), oL 125 124, oM 126 2, oA 127 3 4, oL 128 127, o 129 (.indexAddr 1 (q 128) (kI 0)), oL 130 129, oM 131 11, o 132 (.indexAddr 1 (q 130) (q 131)), oL 133 132, o 134 (.indexAddr 1 (q 126) (q 133)), oL 135 134, oA 136 3 4, oL 137 136, o 138 (.indexAddr 1 (q 137) (kI 1)), oL 139 138, oM 140 11, o 141 (.call 135 [.tmp 139, .tmp 140]), ⟨none, .again 135 false 1 (q 134), none⟩, ⟨none, .again 133 false 1 (q 132), none⟩, ⟨none, .again 130 false 1 (q 129), none⟩, ⟨none, .again 128 false 1 (q 127), none⟩, ⟨none, .again 125 false 1 (q 124), none⟩, o 142 (.indexAddr 1 (q 135) (q 141)), oL 143 142, o 144 (.bin .add (q 125) (q 143) tI), o 145 (.indexAddr 1 (q 122) (q 123)), oS 1 145 144])
  (sQ [o 147 (.bin .eql (q 41) (kI 19) tI), oM 146 147]
  (.cond (q 146)
  (.ops [oM 148 8, oM 149 10, oM 150 2, o 151 (.indexAddr 1 (q 150) (kI 0)), oL 152 151, o 153 (.load true 7 (q 3)), o 154 (.load true 6 (q 4)), oM 155 11, o 156 (.call 137 [.tmp 153, .tmp 154, .tmp 155]), ⟨none, .again 152 false 1 (q 151), none⟩, o 157 (.indexAddr 1 (q 152) (q 156)), oL 158 157, o 159 (.indexAddr 1 (q 148) (q 149)), oS 1 159 158])
  (sQ [o 161 (.bin .eql (q 41) (kI 20) tI), oM 160 161]
  (.cond (q 160)
  (sQ [oA 162 4 4, oL 163 162, o 164 (.indexAddr 6 (q 163) (kI 0)), o 165 (.load true 6 (q 164)), o 16 (.alloc [.int .i64 0, .int .i64 0, .int .i64 0, .slice none 0 0, .slice none 0 0, .slice none 0 0]), oS 6 16 165]
  (.seq (.block 5 (.loop (.seq (sQ [oA 166 3 16, oL 167 166, o 168 (.indexAddr 1 (q 167) (kI 1)), oL 169 168, oA 170 1 16, oL 171 170, oM 172 9, o 173 (.bin .add (q 171) (q 172) tI), oM 175 11, o 174 (.call 135 [.tmp 169, .tmp 173]), o 176 (.bin .leq (q 174) (q 175) tI)]
  (.cond (q 176)
  .skip
  (.exit 5)))
  (.block 6 (.ops [oM 177 9, o 178 (.bin .add (q 177) (kI 1) tI), oM 9 178])))))
  (.ops [oM 179 8, oM 180 10, oM 181 2, o 182 (.indexAddr 1 (q 181) (kI 1)), oL 183 182, oM 184 9, o 185 (.indexAddr 1 (q 183) (q 184)), oL 186 185, o 187 (.indexAddr 1 (q 179) (q 180)), oS 1 187 186])))
  .skip))))))))))))))))))
  (sQ [oM 188 2, oM 189 12, oM 190 13, o 191 (.call 138 [.tmp 188, .tmp 189, .tmp 190]), o 192 (.len 1 (q 191)), o 193 (.mov (kI 0))]
  (.block 7 (.loop (sQ [o 194 (.bin .lss (q 193) (q 192) tI)]
  (.seq (.cond (q 194)
  .skip
  (.exit 7))
  (.seq (.block 8 (sQ [o 195 (.indexAddr 1 (q 191) (q 193)), oL 196 195, oM 18 196]
  (.ops [oM 197 8, oM 198 10, o 199 (.indexAddr 1 (q 197) (q 198)), oL 200 199, oM 201 18, o 202 (.bin .add (q 200) (q 201) tI), o 203 (.indexAddr 1 (q 197) (q 198)), oS 1 203 202])))
  (.ops [o 204 (.bin .add (q 193) (kI 1) tI), oM 193 204]))))))))))))))
  (.ops [o 205 (.bin .add (q 26) (kI 1) tI), oM 26 205])))))))
  (sQ [oM 206 8, oM 6 206]
  .ret))))))⟩
theorem F126_ok : compF Tryz.prog 126 = some F126 := by kernel_rfl
def F127 : FC := ⟨21, [.cell 6 true 4],
  (sQ [o 6 (.alloc zcZ)]
  (.seq (sQ [oM 7 0, oM 8 1, o 9 (.call 139 [.tmp 7, .tmp 8])]
  (.cond (q 9)
  (sQ [oM 10 2, o 11 (.call 140 [.tmp 10, (kI 16)])]
  (sQ [o 12 (.build zcZ [(0, 1, kT)]), oS 4 6 12]
  .ret))
  .skip))
  (sQ [oM 13 0, o 14 (.nilCheck (q 13)), oA 15 16 14, oL 16 15, oM 17 0, oM 18 1, oM 19 2, o 20 (.invoke (q 16) "colonnade/array.read" [(171, 178), (172, 185), (173, 188), (174, 189), (175, 190), (176, 192), (177, 194)] [.tmp 17, .tmp 18, .tmp 19]), oS 4 6 20]
  .ret)))⟩
theorem F127_ok : compF Tryz.prog 127 = some F127 := by kernel_rfl
def F129 : FC := ⟨16, [.tmp 2, .tmp 3],
  (sQ [o 2 (.mov (kI 0)), o 3 (.mov kF)]
  (.seq (sQ [oM 4 0, o 5 (.bin .geq (q 4) (kI 3) tI), oM 6 5, og 7 (.mov (q 0)) 6 true, og 8 (.bin .leq (q 7) (kI 6) tI) 6 true, o 9 (.pick (q 6) (q 8) kF)]
  (.cond (q 9)
  (sQ [oM 10 0, o 11 (.bin .sub (q 10) (kI 3) tI), o 12 (.bin .shl (kI 8) (q 11) tI), oM 2 12, o 3 (.mov kT)]
  .ret)
  .skip))
  (sQ [oM 13 0, o 14 (.bin .sub (q 13) (kI 7) tI), o 15 (.bin .shl (kI 8) (q 14) tI), oM 2 15, o 3 (.mov kF)]
  .ret)))⟩
theorem F129_ok : compF Tryz.prog 129 = some F129 := by kernel_rfl
def F131 : FC := ⟨20, [.tmp 2, .tmp 3, .tmp 4],
  (sQ [o 1 (.box (q 0)), o 2 (.mov (kI 0)), o 3 (.mov (kI 0)), o 4 (.mov (kI 0))]
  (.seq (sQ [o 5 (.load true 5 (q 1)), o 6 (.call 141 [.tmp 5]), o 7 (.un .not (q 6))]
  (.cond (q 7)
  (sQ [o 2 (.mov (kI (-1))), o 3 (.mov (kI (-1))), o 4 (.mov (kI (-1)))]
  .ret)
  .skip))
  (.seq (sQ [oA 8 0 1, oL 9 8, o 10 (.bin .eql (q 9) (kI 19) tI)]
  (.cond (q 10)
  (.ops [o 4 (.mov (kI 1))])
  .skip))
  (sQ [oA 11 0 1, oL 12 11, o 13 (.indexAddrArr 4 21 (.global 1) (q 12)), oA 14 2 13, oL 15 14, o 16 (.load true 5 (q 1)), oM 19 4, o 17 (.call 142 [.tmp 16]), ⟨none, .again 15 false 1 (q 14), none⟩, ⟨none, .again 12 false 1 (q 11), none⟩, o 18 (.len 1 (q 17)), oM 2 15, oM 3 18, oM 4 19]
  .ret))))⟩
theorem F131_ok : compF Tryz.prog 131 = some F131 := by kernel_rfl
def F132 : FC := ⟨58, [.tmp 8],
  (sQ [o 4 (.box (q 0)), o 8 (.mov (kI 0))]
  (.seq (.block 0 (sQ [oA 10 0 4, oL 11 10, o 12 (.bin .eql (q 11) (kI 18) tI), oM 9 12]
  (.cond (q 9)
  (sQ [oM 13 2, oM 14 1, o 15 (.bin .mul (kI 3) (q 14) tI), o 16 (.bin .add (kI 1) (q 15) tI), o 17 (.bin .mul (q 13) (q 16) tI), oM 8 17]
  .ret)
  (.seq (sQ [oM 19 1, o 20 (.bin .eql (q 19) (kI 0) tI), oM 21 20, og 22 (.mov (q 3)) 21 true, og 23 (.bin .eql (q 22) (kI 0) tI) 21 true, o 24 (.pick (q 21) (q 23) kF), oM 18 24]
  (.cond (q 18)
  .skip
  (.ops [oM 25 1, o 26 (.bin .eql (q 25) (kI 2) tI), oM 18 26])))
  (.cond (q 18)
  (sQ [o 8 (.mov (kI 0))]
  .ret)
  (sQ [oM 28 1, o 29 (.bin .eql (q 28) (kI 0) tI), oM 30 29, og 31 (.fieldAddr 0 (q 4)) 30 false, og 32 (.load false 1 (q 31)) 30 false, og 33 (.bin .eql (q 32) (kI 2) tI) 30 false, o 34 (.pick (q 30) kT (q 33)), oM 27 34]
  (.cond (q 27)
  (sQ [oM 35 2, o 36 (.call 143 [.tmp 35]), oM 8 36]
  .ret)
  (sQ [oA 38 0 4, oL 39 38, o 40 (.bin .eql (q 39) (kI 12) tI), oM 41 40, og 42 (.fieldAddr 0 (q 4)) 41 false, og 43 (.load false 1 (q 42)) 41 false, og 44 (.bin .eql (q 43) (kI 13) tI) 41 false, o 45 (.pick (q 41) kT (q 44)), oM 46 45, og 47 (.fieldAddr 0 (q 4)) 46 false, og 48 (.load false 1 (q 47)) 46 false, og 49 (.bin .eql (q 48) (kI 15) tI) 46 false, o 50 (.pick (q 46) kT (q 49)), oM 37 50]
  (.cond (q 37)
  (sQ [oM 51 2, o 52 (.bin .add (q 51) (kI 1) tI), o 53 (.bin .mul (kI 4) (q 52) tI), oM 8 53]
  .ret)
  .skip)))))))))
  (sQ [oM 54 2, o 55 (.load true 5 (q 4)), o 56 (.call 144 [.tmp 55]), o 57 (.bin .mul (q 54) (q 56) tI), oM 8 57]
  .ret)))⟩
theorem F132_ok : compF Tryz.prog 132 = some F132 := by kernel_rfl
def F133 : FC := ⟨24, [.cell 4 true 3],
  (sQ [o 2 (.box (q 0)), o 3 (.box (q 1)), o 4 (.alloc [.int .i64 0, .slice none 0 0, .int .i64 0])]
  (.seq (sQ [o 6 (.load true 7 (q 2)), o 7 (.load true 6 (q 3)), o 8 (.call 145 [.tmp 6, .tmp 7]), oM 5 8]
  (sQ [oA 9 2 3, oL 10 9, oM 11 5, o 12 (.bin .neq (q 10) (q 11) tI), oM 13 12, og 14 (.mov (q 5)) 13 false, og 15 (.bin .gtr (q 14) (kI 0) tI) 13 false, og 16 (.mov (q 15)) 13 false, og 17 (.fieldAddr 1 (q 2)) 16 true, og 18 (.load false 1 (q 17)) 16 true, og 19 (.un .not (q 18)) 16 true, og 20 (.pick (q 16) (q 19) kF) 13 false, o 21 (.pick (q 13) kT (q 20))]
  (.cond (q 21)
  (sQ [o 22 (.call 96 [(kI 81), (kI 1)]), oS 3 4 22]
  .ret)
  .skip)))
  (sQ [o 23 (.build [.int .i64 0, .slice none 0 0, .int .i64 0] []), oS 3 4 23]
  .ret)))⟩
theorem F133_ok : compF Tryz.prog 133 = some F133 := by kernel_rfl
def F136 : FC := ⟨37, [.tmp 6],
  (sQ [o 3 (.box (q 0)), o 4 (.box (q 1)), o 6 (.mov kF)]
  (.seq (sQ [oA 9 2 3, oA 10 0 9, oL 11 10, o 12 (.bin .eql (q 11) (kI 1) tI)]
  (.cond (q 12)
  (sQ [o 6 (.mov kT)]
  .ret)
  .skip))
  (.seq (sQ [oA 13 2 3, oA 14 0 13, oL 15 14, o 16 (.call 147 [.tmp 15]), o 17 (.un .not (q 16)), oM 18 17, og 19 (.fieldAddr 3 (q 4)) 18 false, og 20 (.load false 1 (q 19)) 18 false, og 21 (.indexAddr 1 (q 20) (kI 0)) 18 false, og 22 (.load false 1 (q 21)) 18 false, og 23 (.len 1 (q 22)) 18 false, og 24 (.bin .eql (q 23) (kI 0) tI) 18 false, o 25 (.pick (q 18) kT (q 24))]
  (.cond (q 25)
  (sQ [o 6 (.mov kF)]
  .ret)
  .skip))
  (sQ [oA 27 3 4, oL 28 27, o 29 (.indexAddr 1 (q 28) (kI 0)), oL 30 29, oM 31 2, o 32 (.call 148 [.tmp 30, .tmp 31]), oM 26 32, o 33 (.extract (q 26) 0), o 34 (.extract (q 26) 1), oM 7 33, oM 8 34]
  (sQ [oM 35 7, o 36 (.un .not (q 35)), oM 6 36]
  .ret)))))⟩
theorem F136_ok : compF Tryz.prog 136 = some F136 := by kernel_rfl
def F138 : FC := ⟨16, [.tmp 6],
  (sQ [o 6 (.mov (.const (.slice none 0 0)))]
  (.seq (sQ [oM 7 1, oM 8 2, o 9 (.bin .eql (q 7) (q 8) tI)]
  (.cond (q 9)
  (sQ [o 6 (.mov (.const (.slice none 0 0)))]
  .ret)
  .skip))
  (sQ [oM 10 0, o 11 (.indexAddr 1 (q 10) (kI 0)), oL 12 11, oM 13 1, oM 14 2, o 15 (.slice 1 (q 12) (some (q 13)) (some (q 14)) none), oM 6 15]
  .ret)))⟩
theorem F138_ok : compF Tryz.prog 138 = some F138 := by kernel_rfl
def F139 : FC := ⟨47, [.tmp 4],
  (sQ [o 4 (.mov kF)]
  (.seq (sQ [oM 7 0, o 8 (.nilCheck (q 7)), oA 9 0 8, oA 10 2 9, oA 11 0 10, oL 12 11, o 13 (.bin .eql (q 12) (kI 1) tI)]
  (.cond (q 13)
  (sQ [o 4 (.mov kT)]
  .ret)
  .skip))
  (.seq (sQ [oM 14 0, o 15 (.nilCheck (q 14)), oA 16 0 15, oA 17 2 16, oA 18 0 17, oL 19 18, o 20 (.call 147 [.tmp 19]), o 21 (.un .not (q 20)), oM 22 21, og 23 (.mov (q 0)) 22 false, og 24 (.nilCheck (q 23)) 22 false, og 25 (.fieldAddr 7 (q 24)) 22 false, og 26 (.fieldAddr 3 (q 25)) 22 false, og 27 (.load false 1 (q 26)) 22 false, og 28 (.indexAddr 1 (q 27) (kI 0)) 22 false, og 29 (.load false 1 (q 28)) 22 false, og 30 (.len 1 (q 29)) 22 false, og 31 (.bin .eql (q 30) (kI 0) tI) 22 false, o 32 (.pick (q 22) kT (q 31))]
  (.cond (q 32)
  (sQ [o 4 (.mov kF)]
  .ret)
  .skip))
  (sQ [oM 34 0, o 35 (.call 150 [.tmp 34, (kI 0)]), oM 36 1, o 37 (.bin .quo (q 36) (kI 8) tI), o 38 (.call 151 [.tmp 35, .tmp 37]), oM 33 38, o 39 (.extract (q 33) 0), o 40 (.extract (q 33) 1), oM 5 39, oM 6 40]
  (sQ [oM 41 5, oM 42 1, o 43 (.bin .rem (q 42) (kI 8) tI), o 44 (.bin .shr (q 41) (q 43) (some (.int .u8))), o 45 (.bin .and (q 44) (.const (.int .u8 1)) (some (.int .u8))), o 46 (.bin .eql (q 45) (.const (.int .u8 0)) (some (.int .u8))), oM 4 46]
  .ret)))))⟩
theorem F139_ok : compF Tryz.prog 139 = some F139 := by kernel_rfl
def F140 : FC := ⟨16, [],
  (sQ [oM 4 0, o 5 (.nilCheck (q 4)), oL 6 5, oM 7 1, o 8 (.bin .sub (q 6) (q 7) tI), o 9 (.nilCheck (q 4)), oS 1 9 8]
  (sQ [oM 10 0, o 11 (.nilCheck (q 10)), oL 12 11, o 13 (.bin .lss (q 12) (kI 0) tI)]
  (.cond (q 13)
  (.ops [o 14 (.build [] []), o 15 (.mkIface 178 (q 14)), ⟨none, .bad, none⟩])
  .skip)))⟩
theorem F140_ok : compF Tryz.prog 140 = some F140 := by kernel_rfl
def F141 : FC := ⟨8, [.tmp 2],
  (sQ [o 1 (.box (q 0)), o 2 (.mov kF)]
  (sQ [o 3 (.load true 5 (q 1)), o 4 (.call 152 [.tmp 3]), o 5 (.call 15 [.tmp 4]), o 6 (.field false 0 1 (q 5)), o 7 (.bin .eql (q 6) (kI 0) tI), oM 2 7]
  .ret))⟩
theorem F141_ok : compF Tryz.prog 141 = some F141 := by kernel_rfl
def F142 : FC := ⟨24, [.tmp 2],
  (sQ [o 1 (.box (q 0)), o 2 (.mov (.const (.slice none 0 0)))]
  (.seq (sQ [o 4 (.load true 5 (q 1)), o 5 (.call 141 [.tmp 4]), o 6 (.un .not (q 5)), oM 7 6, og 8 (.fieldAddr 0 (q 1)) 7 false, og 9 (.load false 1 (q 8)) 7 false, og 10 (.bin .eql (q 9) (kI 19) tI) 7 false, o 11 (.pick (q 7) kT (q 10))]
  (.cond (q 11)
  (sQ [o 2 (.mov (.const (.slice none 0 0)))]
  .ret)
  .skip))
  (sQ [oA 12 4 1, oL 13 12, o 14 (.call 153 [.tmp 13]), oM 3 14]
  (.seq (sQ [oA 15 0 1, oL 16 15, o 17 (.bin .eql (q 16) (kI 20) tI)]
  (.cond (q 17)
  (.ops [o 18 (.build [.int .i64 0, .int .i64 0, .int .i64 0, .int .i64 0, .slice none 0 0] [(0, 1, (kI 5))]), o 19 (.build zbZ [(0, 1, (.const (.string ⟨#[101, 110, 100, 115]⟩))), (2, 5, (q 18))]), o 20 (.buildSlice 7 1 zbZ [(0, 7, (q 19))]), oM 21 3, o 22 (.append 7 80 (q 20) (q 21)), oM 3 22])
  .skip))
  (sQ [oM 23 3, oM 2 23]
  .ret)))))⟩
theorem F142_ok : compF Tryz.prog 142 = some F142 := by kernel_rfl
def F143 : FC := ⟨9, [.tmp 2],
  (sQ [o 2 (.mov (kI 0))]
  (.seq (sQ [oM 3 0, o 4 (.bin .leq (q 3) (kI 0) tI)]
  (.cond (q 4)
  (sQ [o 2 (.mov (kI 0))]
  .ret)
  .skip))
  (sQ [oM 5 0, o 6 (.bin .sub (q 5) (kI 1) tI), o 7 (.bin .quo (q 6) (kI 8) tI), o 8 (.bin .add (q 7) (kI 1) tI), oM 2 8]
  .ret)))⟩
theorem F143_ok : compF Tryz.prog 143 = some F143 := by kernel_rfl
def F144 : FC := ⟨24, [.tmp 2],
  (sQ [o 1 (.box (q 0)), o 2 (.mov (kI 0))]
  (.seq (sQ [o 3 (.load true 5 (q 1)), o 4 (.call 141 [.tmp 3]), o 5 (.un .not (q 4))]
  (.cond (q 5)
  (sQ [o 2 (.mov (kI 0))]
  .ret)
  .skip))
  (.seq (sQ [oA 6 0 1, oL 7 6]
  (.block 0 (sQ [o 9 (.bin .eql (q 7) (kI 14) tI), oM 8 9]
  (.cond (q 8)
  (sQ [oA 10 1 1, oL 11 10, oM 2 11]
  .ret)
  (sQ [o 13 (.bin .eql (q 7) (kI 19) tI), oM 12 13]
  (.cond (q 12)
  (sQ [oA 14 3 1, oL 15 14, o 16 (.indexAddrArr 4 21 (.global 1) (q 15)), oA 17 1 16, oL 18 17, oM 2 18]
  .ret)
  .skip))))))
  (sQ [oA 19 0 1, oL 20 19, o 21 (.indexAddrArr 4 21 (.global 1) (q 20)), oA 22 1 21, oL 23 22, oM 2 23]
  .ret))))⟩
theorem F144_ok : compF Tryz.prog 144 = some F144 := by kernel_rfl
def F145 : FC := ⟨23, [.tmp 4],
  (sQ [o 2 (.box (q 0)), o 3 (.box (q 1)), o 4 (.mov (kI 0))]
  (sQ [o 5 (.mov (kI 0))]
  (.seq (sQ [oA 7 0 3, oL 8 7, o 9 (.mov (kI 0))]
  (.block 0 (.loop (sQ [o 10 (.bin .lss (q 9) (q 8) tI)]
  (.seq (.cond (q 10)
  .skip
  (.exit 0))
  (.seq (.block 1 (sQ [oM 11 9, oM 6 11]
  (sQ [o 12 (.load true 7 (q 2)), o 13 (.load true 6 (q 3)), oA 14 1 3, oL 15 14, oM 16 6, o 17 (.bin .add (q 15) (q 16) tI), o 18 (.call 136 [.tmp 12, .tmp 13, .tmp 17])]
  (.cond (q 18)
  (.ops [oM 19 5, o 20 (.bin .add (q 19) (kI 1) tI), oM 5 20])
  .skip))))
  (.ops [o 21 (.bin .add (q 9) (kI 1) tI), oM 9 21])))))))
  (sQ [oM 22 5, oM 4 22]
  .ret))))⟩
theorem F145_ok : compF Tryz.prog 145 = some F145 := by kernel_rfl
def F147 : FC := ⟨13, [.tmp 2],
  (sQ [o 2 (.mov kF)]
  (sQ [oM 3 0, o 4 (.bin .neq (q 3) (kI 1) tI), oM 5 4, og 6 (.mov (q 0)) 5 true, og 7 (.bin .neq (q 6) (kI 18) tI) 5 true, o 8 (.pick (q 5) (q 7) kF), oM 9 8, og 10 (.mov (q 0)) 9 true, og 11 (.bin .neq (q 10) (kI 20) tI) 9 true, o 12 (.pick (q 9) (q 11) kF), oM 2 12]
  .ret))⟩
theorem F147_ok : compF Tryz.prog 147 = some F147 := by kernel_rfl
def F148 : FC := ⟨18, [.tmp 4, .tmp 5],
  (sQ [o 4 (.mov kF), o 5 (.mov (kI 0))]
  (.seq (.block 0 (sQ [oM 7 1, o 8 (.bin .lss (q 7) (kI 0) tI), oM 6 8]
  (.cond (q 6)
  (sQ [o 4 (.mov kF), o 5 (.mov (kI 1))]
  .ret)
  (sQ [oM 10 1, o 11 (.bin .quo (q 10) (kI 8) tI), oM 12 0, o 13 (.len 1 (q 12)), o 14 (.bin .geq (q 11) (q 13) tI), oM 9 14]
  (.cond (q 9)
  (sQ [o 4 (.mov kF), o 5 (.mov (kI 2))]
  .ret)
  .skip)))))
  (sQ [oM 15 0, oM 16 1, o 17 (.call 155 [.tmp 15, .tmp 16]), oM 4 17, o 5 (.mov (kI 0))]
  .ret)))⟩
theorem F148_ok : compF Tryz.prog 148 = some F148 := by kernel_rfl
def F149 : FC := ⟨17, [.tmp 2],
  (sQ [o 2 (.mov (kI 0))]
  (.seq (sQ [oM 3 0]
  (.block 0 (.seq (sQ [o 5 (.bin .eql (q 3) (kI 3) tI), oM 4 5]
  (.cond (q 4)
  .skip
  (.ops [o 6 (.bin .eql (q 3) (kI 7) tI), oM 4 6])))
  (.cond (q 4)
  (sQ [o 2 (.mov (kI 1))]
  .ret)
  (.seq (sQ [o 8 (.bin .eql (q 3) (kI 4) tI), oM 7 8]
  (.cond (q 7)
  .skip
  (.ops [o 9 (.bin .eql (q 3) (kI 8) tI), oM 7 9])))
  (.cond (q 7)
  (sQ [o 2 (.mov (kI 2))]
  .ret)
  (.seq (sQ [o 11 (.bin .eql (q 3) (kI 5) tI), oM 10 11]
  (.cond (q 10)
  .skip
  (.ops [o 12 (.bin .eql (q 3) (kI 9) tI), oM 10 12])))
  (.cond (q 10)
  (sQ [o 2 (.mov (kI 4))]
  .ret)
  (.seq (sQ [o 14 (.bin .eql (q 3) (kI 6) tI), oM 13 14]
  (.cond (q 13)
  .skip
  (sQ [o 15 (.bin .eql (q 3) (kI 10) tI), oM 13 15]
  (.cond (q 13)
  .skip
  (.ops [o 16 (.bin .eql (q 3) (kI 11) tI), oM 13 16])))))
  (.cond (q 13)
  (sQ [o 2 (.mov (kI 8))]
  .ret)
  .skip))))))))))
  (sQ [o 2 (.mov (kI 0))]
  .ret)))⟩
theorem F149_ok : compF Tryz.prog 149 = some F149 := by kernel_rfl
def F150 : FC := ⟨19, [.cell 4 true 3],
  (sQ [o 4 (.alloc [.slice none 0 0, .int .i64 0, .pointer none])]
  (sQ [oM 5 0, o 6 (.nilCheck (q 5)), oA 7 7 6, oA 8 3 7, oL 9 8, oM 10 1, o 11 (.indexAddr 1 (q 9) (q 10)), oL 12 11, oM 14 0, o 15 (.nilCheck (q 14)), oA 16 15 15, oL 17 16, o 13 (.call 156 [.tmp 12]), ⟨none, .again 17 false 1 (q 16), none⟩, o 18 (.call 157 [.tmp 13, .tmp 17]), oS 3 4 18]
  .ret))⟩
theorem F150_ok : compF Tryz.prog 150 = some F150 := by kernel_rfl
def F151 : FC := ⟨15, [.tmp 4, .tmp 5],
  (sQ [o 2 (.box (q 0)), o 4 (.mov (.const (.int .u8 0))), o 5 (.mov (kI 0))]
  (.seq (sQ [o 6 (.load true 3 (q 2)), oM 7 1, o 8 (.call 158 [.tmp 6, .tmp 7, (kI 1)]), o 9 (.un .not (q 8))]
  (.cond (q 9)
  (sQ [o 4 (.mov (.const (.int .u8 0))), o 5 (.mov (kI 2))]
  .ret)
  .skip))
  (sQ [o 10 (.load true 3 (q 2)), oM 11 1, o 12 (.call 159 [.tmp 10, .tmp 11, (kI 1)]), o 13 (.indexAddr 1 (q 12) (kI 0)), oL 14 13, oM 4 14, o 5 (.mov (kI 0))]
  .ret)))⟩
theorem F151_ok : compF Tryz.prog 151 = some F151 := by kernel_rfl
def F152 : FC := ⟨29, [.cell 2 true 7],
  (sQ [o 1 (.box (q 0)), o 2 (.alloc zbZ)]
  (sQ [o 4 (.load true 5 (q 1)), o 5 (.build zbZ [(0, 1, (.const (.string ⟨#[97]⟩))), (2, 5, (q 4))]), o 3 (.alloc zbZ), oS 7 3 5]
  (sQ [oA 6 0 1, oL 7 6, o 8 (.bin .eql (q 7) (kI 1) tI), oM 9 8, og 10 (.fieldAddr 0 (q 1)) 9 false, og 11 (.load false 1 (q 10)) 9 false, og 12 (.bin .eql (q 11) (kI 20) tI) 9 false, og 13 (.mov (q 12)) 9 false, og 14 (.fieldAddr 4 (q 1)) 13 true, og 15 (.load false 1 (q 14)) 13 true, og 16 (.len 1 (q 15)) 13 true, og 17 (.bin .gtr (q 16) (kI 0) tI) 13 true, og 18 (.pick (q 13) (q 17) kF) 9 false, og 19 (.mov (q 18)) 9 false, og 20 (.fieldAddr 4 (q 1)) 19 true, og 21 (.load false 1 (q 20)) 19 true, og 22 (.indexAddr 7 (q 21) (kI 0)) 19 true, og 23 (.fieldAddr 1 (q 22)) 19 true, og 24 (.load false 1 (q 23)) 19 true, og 25 (.pick (q 19) (q 24) kF) 9 false, o 26 (.pick (q 9) kT (q 25)), oA 27 1 3, oS 1 27 26]
  (sQ [o 28 (.load true 7 (q 3)), oS 7 2 28]
  .ret))))⟩
theorem F152_ok : compF Tryz.prog 152 = some F152 := by kernel_rfl
def F153 : FC := ⟨25, [.tmp 2],
  (sQ [o 2 (.mov (.const (.slice none 0 0)))]
  (sQ [o 3 (.mov (.const (.slice none 0 0)))]
  (.seq (sQ [oM 6 0, o 7 (.len 1 (q 6)), o 8 (.mov (kI 0))]
  (.block 0 (.loop (sQ [o 9 (.bin .lss (q 8) (q 7) tI)]
  (.seq (.cond (q 9)
  .skip
  (.exit 0))
  (.seq (.block 1 (sQ [o 10 (.indexAddr 7 (q 6) (q 8)), o 11 (.load true 7 (q 10)), o 5 (.alloc zbZ), oS 7 5 11]
  (sQ [oA 12 2 5, oA 13 4 12, oL 14 13, o 15 (.call 153 [.tmp 14]), oA 16 2 5, oA 17 4 16, oS 1 17 15]
  (.ops [oM 18 3, o 19 (.load true 7 (q 5)), o 20 (.buildSlice 7 1 zbZ [(0, 7, (q 19))]), o 21 (.append 7 80 (q 18) (q 20)), oM 3 21]))))
  (.ops [o 22 (.bin .add (q 8) (kI 1) tI), oM 8 22])))))))
  (sQ [oM 23 3, o 24 (.call 160 [.tmp 23]), oM 2 24]
  .ret))))⟩
theorem F153_ok : compF Tryz.prog 153 = some F153 := by kernel_rfl
def F155 : FC := ⟨15, [.tmp 4],
  (sQ [o 4 (.mov kF)]
  (sQ [oM 5 0, oM 6 1, o 7 (.bin .quo (q 6) (kI 8) tI), o 8 (.indexAddr 1 (q 5) (q 7)), oL 9 8, oM 10 1, o 11 (.bin .rem (q 10) (kI 8) tI), o 12 (.bin .shr (q 9) (q 11) (some (.int .u8))), o 13 (.bin .and (q 12) (.const (.int .u8 1)) (some (.int .u8))), o 14 (.bin .eql (q 13) (.const (.int .u8 1)) (some (.int .u8))), oM 4 14]
  .ret))⟩
theorem F155_ok : compF Tryz.prog 155 = some F155 := by kernel_rfl
def F156 : FC := ⟨10, [.cell 2 true 3],
  (sQ [o 2 (.alloc [.slice none 0 0, .int .i64 0, .pointer none])]
  (sQ [oM 3 0, oM 4 0, o 5 (.len 1 (q 4)), oM 6 0, o 7 (.len 1 (q 6)), o 8 (.slice 1 (q 3) none (some (q 5)) (some (q 7))), o 9 (.build [.slice none 0 0, .int .i64 0, .pointer none] [(0, 1, (q 8))]), oS 3 2 9]
  .ret))⟩
theorem F156_ok : compF Tryz.prog 156 = some F156 := by kernel_rfl
def F157 : FC := ⟨8, [.cell 4 true 3],
  (sQ [o 2 (.box (q 0)), o 4 (.alloc [.slice none 0 0, .int .i64 0, .pointer none])]
  (sQ [oM 5 1, oA 6 2 2, oS 1 6 5]
  (sQ [o 7 (.load true 3 (q 2)), oS 3 4 7]
  .ret)))⟩
theorem F157_ok : compF Tryz.prog 157 = some F157 := by kernel_rfl
def F158 : FC := ⟨29, [.tmp 6],
  (sQ [o 3 (.box (q 0)), o 6 (.mov kF)]
  (sQ [oM 7 1, o 8 (.bin .geq (q 7) (kI 0) tI), oM 9 8, og 10 (.mov (q 2)) 9 true, og 11 (.bin .geq (q 10) (kI 0) tI) 9 true, o 12 (.pick (q 9) (q 11) kF), oM 13 12, og 14 (.mov (q 1)) 13 true, og 15 (.fieldAddr 0 (q 3)) 13 true, og 16 (.load false 1 (q 15)) 13 true, og 17 (.len 1 (q 16)) 13 true, og 18 (.bin .leq (q 14) (q 17) tI) 13 true, o 19 (.pick (q 13) (q 18) kF), oM 20 19, og 21 (.mov (q 2)) 20 true, og 22 (.fieldAddr 0 (q 3)) 20 true, og 23 (.load false 1 (q 22)) 20 true, og 24 (.len 1 (q 23)) 20 true, og 25 (.mov (q 1)) 20 true, og 26 (.bin .sub (q 24) (q 25) tI) 20 true, og 27 (.bin .leq (q 21) (q 26) tI) 20 true, o 28 (.pick (q 20) (q 27) kF), oM 6 28]
  .ret))⟩
theorem F158_ok : compF Tryz.prog 158 = some F158 := by kernel_rfl
def F159 : FC := ⟨46, [.tmp 6],
  (sQ [o 3 (.box (q 0)), o 6 (.mov (.const (.slice none 0 0)))]
  (.seq (sQ [oA 7 2 3, oL 8 7, o 9 (.bin .neq (q 8) (.const (.pointer none)) (some (.pointer 218))), oM 10 9, og 11 (.mov (q 2)) 10 true, og 12 (.bin .gtr (q 11) (kI 0) tI) 10 true, o 13 (.pick (q 10) (q 12) kF)]
  (.cond (q 13)
  (.ops [oA 14 2 3, oL 15 14, oA 16 2 3, oL 17 16, o 18 (.nilCheck (q 17)), oA 19 0 18, oL 20 19, oA 21 1 3, oL 22 21, oM 23 1, o 24 (.bin .add (q 22) (q 23) tI), oA 25 1 3, oL 26 25, oM 27 1, o 28 (.bin .add (q 26) (q 27) tI), oM 29 2, o 30 (.bin .add (q 28) (q 29) tI), o 31 (.build [.int .i64 0, .int .i64 0] [(0, 1, (q 24)), (1, 1, (q 30))]), o 32 (.buildSlice 2 1 [.int .i64 0, .int .i64 0] [(0, 2, (q 31))]), ⟨none, .again 20 false 1 (q 19), none⟩, ⟨none, .again 17 false 1 (q 16), none⟩, ⟨none, .again 15 false 1 (q 14), none⟩, o 33 (.append 2 16 (q 20) (q 32)), ⟨none, .again 15 false 1 (q 14), none⟩, o 34 (.nilCheck (q 15)), oA 35 0 34, oS 1 35 33])
  .skip))
  (sQ [oA 36 0 3, oL 37 36, oM 38 1, oM 39 1, oM 40 2, o 41 (.bin .add (q 39) (q 40) tI), oM 42 1, oM 43 2, o 44 (.bin .add (q 42) (q 43) tI), o 45 (.slice 1 (q 37) (some (q 38)) (some (q 41)) (some (q 44))), oM 6 45]
  .ret)))⟩
theorem F159_ok : compF Tryz.prog 159 = some F159 := by kernel_rfl
def F160 : FC := ⟨9, [.tmp 2],
  (sQ [o 2 (.mov (.const (.slice none 0 0)))]
  (sQ [oM 3 0, oM 4 0, o 5 (.len 1 (q 4)), oM 6 0, o 7 (.len 1 (q 6)), o 8 (.slice 7 (q 3) none (some (q 5)) (some (q 7))), oM 2 8]
  .ret))⟩
theorem F160_ok : compF Tryz.prog 160 = some F160 := by kernel_rfl
def F181 : FC := ⟨30, [.tmp 6, .tmp 7],
  (sQ [o 3 (.box (q 0)), o 6 (.mov (kI 0)), o 7 (.mov (kI 0))]
  (sQ [o 12 (.load true 3 (q 3)), oM 13 1, oM 14 2, o 15 (.call 182 [.tmp 12, .tmp 13, .tmp 14]), oM 11 15, o 16 (.extract (q 11) 0), o 17 (.extract (q 11) 1), oM 8 16, oM 9 17]
  (.seq (sQ [oM 18 9, o 19 (.bin .neq (q 18) (kI 0) tI)]
  (.cond (q 19)
  (sQ [oM 20 9, o 6 (.mov (kI 0)), oM 7 20]
  .ret)
  .skip))
  (sQ [oM 21 2, o 22 (.bin .mul (kI 8) (q 21) tI), o 23 (.bin .sub (kI 64) (q 22) tI), oM 10 23]
  (sQ [oM 24 8, oM 25 10, o 26 (.bin .shl (q 24) (q 25) (some (.int .u64))), o 27 (.conv .i64 (q 26)), oM 28 10, o 29 (.bin .shr (q 27) (q 28) tI), oM 6 29, o 7 (.mov (kI 0))]
  .ret)))))⟩
theorem F181_ok : compF Tryz.prog 181 = some F181 := by kernel_rfl
def F182 : FC := ⟨21, [.tmp 6, .tmp 7],
  (sQ [o 3 (.box (q 0)), o 6 (.mov (.const (.int .u64 0))), o 7 (.mov (kI 0))]
  (.seq (sQ [oM 8 2, o 9 (.call 183 [.tmp 8]), o 10 (.un .not (q 9))]
  (.cond (q 10)
  (sQ [o 6 (.mov (.const (.int .u64 0))), o 7 (.mov (kI 1))]
  .ret)
  .skip))
  (.seq (sQ [o 11 (.load true 3 (q 3)), oM 12 1, oM 13 2, o 14 (.call 158 [.tmp 11, .tmp 12, .tmp 13]), o 15 (.un .not (q 14))]
  (.cond (q 15)
  (sQ [o 6 (.mov (.const (.int .u64 0))), o 7 (.mov (kI 2))]
  .ret)
  .skip))
  (sQ [o 16 (.load true 3 (q 3)), oM 17 1, oM 18 2, o 19 (.call 159 [.tmp 16, .tmp 17, .tmp 18]), o 20 (.call 184 [.tmp 19]), oM 6 20, o 7 (.mov (kI 0))]
  .ret))))⟩
theorem F182_ok : compF Tryz.prog 182 = some F182 := by kernel_rfl
def F183 : FC := ⟨17, [.tmp 2],
  (sQ [o 2 (.mov kF)]
  (sQ [oM 3 0, o 4 (.bin .eql (q 3) (kI 1) tI), oM 5 4, og 6 (.mov (q 0)) 5 false, og 7 (.bin .eql (q 6) (kI 2) tI) 5 false, o 8 (.pick (q 5) kT (q 7)), oM 9 8, og 10 (.mov (q 0)) 9 false, og 11 (.bin .eql (q 10) (kI 4) tI) 9 false, o 12 (.pick (q 9) kT (q 11)), oM 13 12, og 14 (.mov (q 0)) 13 false, og 15 (.bin .eql (q 14) (kI 8) tI) 13 false, o 16 (.pick (q 13) kT (q 15)), oM 2 16]
  .ret))⟩
theorem F183_ok : compF Tryz.prog 183 = some F183 := by kernel_rfl
def F184 : FC := ⟨22, [.tmp 2],
  (sQ [o 2 (.mov (.const (.int .u64 0)))]
  (sQ [o 3 (.mov (.const (.int .u64 0)))]
  (.seq (sQ [oM 6 0, o 7 (.len 1 (q 6)), o 8 (.mov (kI 0))]
  (.block 0 (.loop (sQ [o 9 (.bin .lss (q 8) (q 7) tI)]
  (.seq (.cond (q 9)
  .skip
  (.exit 0))
  (.seq (.block 1 (sQ [oM 10 8, o 11 (.indexAddr 1 (q 6) (q 8)), oL 12 11, oM 4 10, oM 5 12]
  (.ops [oM 13 3, oM 14 5, o 15 (.conv .u64 (q 14)), oM 16 4, o 17 (.bin .mul (kI 8) (q 16) tI), o 18 (.bin .shl (q 15) (q 17) (some (.int .u64))), o 19 (.bin .or (q 13) (q 18) (some (.int .u64))), oM 3 19])))
  (.ops [o 20 (.bin .add (q 8) (kI 1) tI), oM 8 20])))))))
  (sQ [oM 21 3, oM 2 21]
  .ret))))⟩
theorem F184_ok : compF Tryz.prog 184 = some F184 := by kernel_rfl
def F191 : FC := ⟨43, [.tmp 6],
  (sQ [o 6 (.mov (kI 0))]
  (sQ [oM 12 1, o 13 (.call 149 [.tmp 12]), oM 7 13]
  (.seq (sQ [oM 14 1, o 15 (.bin .geq (q 14) (kI 3) tI), oM 16 15, og 17 (.mov (q 1)) 16 true, og 18 (.bin .leq (q 17) (kI 6) tI) 16 true, o 19 (.pick (q 16) (q 18) kF)]
  (.cond (q 19)
  (sQ [oM 21 0, o 22 (.call 150 [.tmp 21, (kI 1)]), oM 23 2, oM 24 7, o 25 (.bin .mul (q 23) (q 24) tI), oM 26 7, o 27 (.call 181 [.tmp 22, .tmp 25, .tmp 26]), oM 20 27, o 28 (.extract (q 20) 0), o 29 (.extract (q 20) 1), oM 8 28, oM 9 29]
  (sQ [oM 30 8, oM 6 30]
  .ret))
  .skip))
  (sQ [oM 32 0, o 33 (.call 150 [.tmp 32, (kI 1)]), oM 34 2, oM 35 7, o 36 (.bin .mul (q 34) (q 35) tI), oM 37 7, o 38 (.call 182 [.tmp 33, .tmp 36, .tmp 37]), oM 31 38, o 39 (.extract (q 31) 0), o 40 (.extract (q 31) 1), oM 10 39, oM 11 40]
  (sQ [oM 41 10, o 42 (.conv .i64 (q 41)), oM 6 42]
  .ret)))))⟩
theorem F191_ok : compF Tryz.prog 191 = some F191 := by kernel_rfl
def F194 : FC := ⟨67, [.cell 8 true 4],
  (sQ [o 4 (.box (q 0)), o 8 (.alloc zcZ)]
  (sQ [oM 15 1, o 16 (.nilCheck (q 15)), oA 17 0 16, oA 18 2 17, o 19 (.load true 5 (q 18)), o 9 (.alloc [.int .i64 0, .int .i64 0, .int .i64 0, .int .i64 0, .slice none 0 0]), oS 5 9 19]
  (sQ [oM 20 1, o 21 (.call 150 [.tmp 20, (kI 1)]), o 10 (.alloc [.slice none 0 0, .int .i64 0, .pointer none]), oS 3 10 21]
  (sQ [oM 22 3, o 23 (.call 140 [.tmp 22, (kI 16)])]
  (.seq (sQ [oA 24 0 9, oL 25 24]
  (.block 0 (sQ [o 27 (.bin .eql (q 25) (kI 2) tI), oM 26 27]
  (.cond (q 26)
  (sQ [o 29 (.load true 3 (q 10)), oM 30 2, o 31 (.bin .quo (q 30) (kI 8) tI), o 32 (.call 151 [.tmp 29, .tmp 31]), oM 28 32, o 33 (.extract (q 28) 0), o 34 (.extract (q 28) 1), oM 11 33, oM 12 34]
  (sQ [oM 35 11, oM 36 2, o 37 (.bin .rem (q 36) (kI 8) tI), o 38 (.bin .shr (q 35) (q 37) (some (.int .u8))), o 39 (.bin .and (q 38) (.const (.int .u8 1)) (some (.int .u8))), o 40 (.conv .i64 (q 39)), o 41 (.build zcZ [(1, 1, (q 40))]), oS 4 8 41]
  .ret))
  (sQ [o 43 (.bin .eql (q 25) (kI 14) tI), oM 42 43]
  (.cond (q 42)
  (sQ [oM 44 3, oA 45 1 9, oL 46 45, o 47 (.call 140 [.tmp 44, .tmp 46])]
  (sQ [o 49 (.load true 3 (q 10)), oM 50 2, oA 51 1 9, oL 52 51, o 53 (.bin .mul (q 50) (q 52) tI), oA 54 1 9, oL 55 54, o 56 (.call 180 [.tmp 49, .tmp 53, .tmp 55]), oM 48 56, o 57 (.extract (q 48) 0), o 58 (.extract (q 48) 1), oM 13 57, oM 14 58]
  (sQ [oM 59 13, o 60 (.build zcZ [(2, 1, (q 59))]), oS 4 8 60]
  .ret)))
  .skip))))))
  (sQ [oM 61 1, oA 62 0 9, oL 63 62, oM 64 2, o 65 (.call 191 [.tmp 61, .tmp 63, .tmp 64]), o 66 (.build zcZ [(1, 1, (q 65))]), oS 4 8 66]
  .ret))))))⟩
theorem F194_ok : compF Tryz.prog 194 = some F194 := by kernel_rfl
def D76 : DF := ⟨14, [.cell 4 true 4, .tmp 5, .cell 6 false 1],
  [(.ops [⟨(some 4), .alloc [(.bool false), (.int .i64 0), (.string ⟨#[]⟩), (.slice none 0 0)], none⟩,
    ⟨(some 5), .mov (.const (.int .i64 0)), none⟩,
    ⟨(some 6), .alloc [(.int .i64 0)], none⟩])],
  [], (.func 102), [(.tmp 6)],
  [(.seq (.ops [⟨(some 7), .alloc [(.int .i64 0)], none⟩,
    ⟨none, .store 1 (.tmp 7) (.const (.int .i64 4194304)), none⟩])
  (.seq (.ops [⟨(some 8), .mov (.tmp 0), none⟩,
    ⟨(some 9), .mov (.tmp 1), none⟩,
    ⟨(some 10), .call 103 [(.tmp 8), (.tmp 9), (.tmp 7)], none⟩,
    ⟨none, .store 4 (.tmp 4) (.tmp 10), none⟩])
  (.seq (.ops [⟨(some 11), .load true 4 (.tmp 4), none⟩,
    ⟨(some 12), .load false 1 (.tmp 7), none⟩,
    ⟨(some 13), .bin .sub (.const (.int .i64 4194304)) (.tmp 12) (some (.int .i64)), none⟩,
    ⟨none, .store 4 (.tmp 4) (.tmp 11), none⟩,
    ⟨none, .again 12 false 1 (.tmp 7), none⟩,
    ⟨(some 5), .mov (.tmp 13), none⟩,
    ⟨none, .store 1 (.tmp 6) (.const (.int .i64 0)), none⟩])
  .ret)))]⟩
theorem D76_ok : compDF Tryz.prog 76 = some D76 := by kernel_rfl
def R102 : RF := ⟨18, [], (some (some 5)),
  [⟨(some 2), .mov (.tmp 5), none⟩],
  [(.seq (.ops [⟨(some 6), .mov (.tmp 2), none⟩,
    ⟨(some 7), .bin .neq (.tmp 6) (.const .nilIface) (some (.interface #[])), none⟩])
  (.cond (.tmp 7)
  (.seq (.seq (.ops [⟨(some 9), .mov (.tmp 2), none⟩,
    ⟨(some 10), .bad, none⟩,
    ⟨(some 8), .mov (.tmp 10), none⟩,
    ⟨(some 11), .extract (.tmp 8) 0, none⟩,
    ⟨(some 12), .extract (.tmp 8) 1, none⟩,
    ⟨(some 3), .alloc [], none⟩,
    ⟨none, .store 0 (.tmp 3) (.tmp 11), none⟩,
    ⟨(some 4), .mov (.tmp 12), none⟩])
  (.seq (.ops [⟨(some 13), .mov (.tmp 4), none⟩,
    ⟨(some 14), .un .not (.tmp 13), none⟩])
  (.cond (.tmp 14)
  (.ops [⟨(some 15), .mov (.tmp 2), none⟩,
    ⟨none, .bad, none⟩])
  .skip)))
  (.ops [⟨(some 16), .mov (.tmp 0), none⟩,
    ⟨(some 17), .nilCheck (.tmp 16), none⟩,
    ⟨none, .store 1 (.tmp 17) (.const (.int .i64 7)), none⟩]))
  .skip))]⟩
theorem R102_ok : compRF Tryz.prog 102 = some R102 := by kernel_rfl
end Go.Proofs.YtecephhhjhpcjaaGreatDoor.Stats
end
section
set_option linter.unusedVariables false
namespace Go.Proofs.YtecephhhjhpcjaaGreatDoor.Stats
open Go Go.Proofs.YtecephhhjhpcjaaGreatDoor Go.Proofs.YtecephhhjhpcjaaGreatDoor.Em
def tabF : List (Nat × FC) := [(9, F9), (15, F15), (17, F17), (18, F18), (24, F24), (31, F31), (38, F38), (40, F40), (42, F42), (50, F50), (51, F51), (52, F52), (58, F58), (59, F59), (64, F64), (65, F65), (66, F66), (71, F71), (72, F72), (73, F73), (74, F74), (75, F75), (80, F80), (81, F81), (82, F82), (83, F83), (84, F84), (86, F86), (87, F87), (89, F89), (92, F92), (97, F97), (98, F98), (99, F99), (100, F100), (101, F101), (103, F103), (105, F105), (106, F106), (107, F107), (111, F111), (112, F112), (114, F114), (121, F121), (122, F122), (123, F123), (126, F126), (127, F127), (129, F129), (131, F131), (132, F132), (133, F133), (136, F136), (138, F138), (139, F139), (140, F140), (141, F141), (142, F142), (143, F143), (144, F144), (145, F145), (147, F147), (148, F148), (149, F149), (150, F150), (151, F151), (152, F152), (153, F153), (155, F155), (156, F156), (157, F157), (158, F158), (159, F159), (160, F160), (181, F181), (182, F182), (183, F183), (184, F184), (191, F191), (194, F194)]
theorem tabF_ok : tabOK (compF Tryz.prog) tabF := ⟨F9_ok, F15_ok, F17_ok, F18_ok, F24_ok, F31_ok, F38_ok, F40_ok, F42_ok, F50_ok, F51_ok, F52_ok, F58_ok, F59_ok, F64_ok, F65_ok, F66_ok, F71_ok, F72_ok, F73_ok, F74_ok, F75_ok, F80_ok, F81_ok, F82_ok, F83_ok, F84_ok, F86_ok, F87_ok, F89_ok, F92_ok, F97_ok, F98_ok, F99_ok, F100_ok, F101_ok, F103_ok, F105_ok, F106_ok, F107_ok, F111_ok, F112_ok, F114_ok, F121_ok, F122_ok, F123_ok, F126_ok, F127_ok, F129_ok, F131_ok, F132_ok, F133_ok, F136_ok, F138_ok, F139_ok, F140_ok, F141_ok, F142_ok, F143_ok, F144_ok, F145_ok, F147_ok, F148_ok, F149_ok, F150_ok, F151_ok, F152_ok, F153_ok, F155_ok, F156_ok, F157_ok, F158_ok, F159_ok, F160_ok, F181_ok, F182_ok, F183_ok, F184_ok, F191_ok, F194_ok, trivial⟩
def tabD : List (Nat × DF) := [(76, D76)]
theorem tabD_ok : tabOK (compDF Tryz.prog) tabD := ⟨D76_ok, trivial⟩
def tabR : List (Nat × RF) := [(102, R102)]
theorem tabR_ok : tabOK (compRF Tryz.prog) tabR := ⟨R102_ok, trivial⟩
def tab : Tab := ⟨findF tabF, findF tabD, findF tabR⟩
theorem tab_ok : tab.OK Tryz.prog := ⟨findF_ok tabF_ok, findF_ok tabD_ok, findF_ok tabR_ok⟩
end Go.Proofs.YtecephhhjhpcjaaGreatDoor.Stats
end
section
set_option linter.unusedVariables false
namespace Go.Proofs.YtecephhhjhpcjaaGreatDoor.Stats
open Go Go.Proofs.YtecephhhjhpcjaaGreatDoor Go.Proofs.YtecephhhjhpcjaaGreatDoor.Em
theorem hd : DrawSound Tryz.prog gs := draw_sound (by kernel_rfl)
theorem fixed_val : valX gs tab 100000 9 [] = some (.sb true) := by kernel_rfl
theorem fixed_ok (h : EH) : Tri Tryz.prog gs 9 [] h fun v h' => v = .sb true ∧ h' = h :=
  Tri.litC (φ := fun v => v = .sb true) (fun v hv => by rw [hv]; rfl) rfl ((Tri.closed hd tab_ok (valX_exec fixed_val) rfl).2.mono fun v h' hx => hx.1) h
end Go.Proofs.YtecephhhjhpcjaaGreatDoor.Stats
end
section
set_option linter.unusedVariables false
namespace Go.Proofs.YtecephhhjhpcjaaGreatDoor.Stats
open Go Go.Proofs.YtecephhhjhpcjaaGreatDoor Go.Proofs.YtecephhhjhpcjaaGreatDoor.Em
inductive Fld where
  | mk (nm : ByteArray) (nul : Bool) (kind width id idx : Int) (kids : List Fld)
mutual
def cellsF : Fld → List EV
  | .mk nm nul k w i x kids => [.lit (.string nm), .lit (.bool nul), .lit (.int .i64 k), .lit (.int .i64 w), .lit (.int .i64 i), .lit (.int .i64 x), .isl kids.length none (cellsFs kids)]
def cellsFs : List Fld → List EV
  | [] => []
  | f :: l => cellsF f ++ cellsFs l
end
def i64r (n : Int) : Prop := -9223372036854775808 ≤ n ∧ n ≤ 9223372036854775807
mutual
def okF : Fld → Prop
  | .mk nm nul k w i x kids => nm.size ≤ 140737488351232 ∧ i64r k ∧ i64r w ∧ i64r i ∧ i64r x ∧ kids.length ≤ 140737488351232 ∧ okFs kids
def okFs : List Fld → Prop
  | [] => True
  | f :: l => okF f ∧ okFs l
end
inductive Val where
  | mk (null : Bool) (num : Int) (text : ByteArray) (kids : List Val)
mutual
def cellsV : Val → List EV
  | .mk b n t l => [.lit (.bool b), .lit (.int .i64 n), .lit (.string t), .isl l.length none (cellsVs l)]
def cellsVs : List Val → List EV
  | [] => []
  | v :: l => cellsV v ++ cellsVs l
end
mutual
def okV : Val → Prop
  | .mk b n t l => i64r n ∧ t.size ≤ 140737488351232 ∧ l.length ≤ 140737488351232 ∧ okVs l
def okVs : List Val → Prop
  | [] => True
  | v :: l => okV v ∧ okVs l
end
theorem cellsF_length (f : Fld) : (cellsF f).length = 7 := by cases f; rfl
theorem pieces_of {α : Type} {n : Nat} {cells : α → List EV} {cellss : List α → List EV} {ok : α → Prop} {oks : List α → Prop} (h0 : cellss [] = []) (h1 : ∀ a l, cellss (a :: l) = cells a ++ cellss l) (o0 : oks []) (o1 : ∀ a l, ok a → oks l → oks (a :: l)) :
    ∀ (len : Nat) (c : List EV), c.length = len * n → (∀ i, i < len → ∃ a, (c.drop (i * n)).take n = cells a ∧ ok a) → ∃ l : List α, l.length = len ∧ c = cellss l ∧ oks l
  | 0, c, hl, _ => ⟨[], rfl, by rw [h0]; exact List.length_eq_zero_iff.1 (by omega), o0⟩
  | len + 1, c, hl, h => by
    obtain ⟨a, e1, e2⟩ := h 0 (by omega)
    obtain ⟨l, k1, k2, k3⟩ := pieces_of (n := n) h0 h1 o0 o1 len (c.drop n) (by rw [List.length_drop, hl, Nat.add_mul]; omega) (fun i hi => by
      obtain ⟨b, q1, q2⟩ := h (i + 1) (by omega)
      refine ⟨b, ?_, q2⟩
      rw [List.drop_drop, ← q1]
      congr 2
      rw [Nat.add_mul]; omega)
    refine ⟨a :: l, by simp [k1], ?_, o1 a l e2 k3⟩
    rw [h1, ← e1, ← k2]
    simp
def tys : List TypeId := [26, 24, 22, 29, 27, 31, 41, 40, 38, 102, 42, 5, 3, 2, 9, 4]
theorem tys_ok : okL Tryz.prog tys = true := by kernel_rfl
theorem cut1 {c : List EV} {x : EV} (h : c.take 1 = [x]) : c = x :: c.drop 1 := by
  match c, h with
  | y :: l, h => simp at h; subst h; rfl
theorem cells_bool : Tryz.prog.cellsOf 4 = 1 := by kernel_rfl
theorem cells_int : Tryz.prog.cellsOf 3 = 1 := by kernel_rfl
theorem cells_string : Tryz.prog.cellsOf 9 = 1 := by kernel_rfl
theorem cells_field : Tryz.prog.cellsOf 26 = 7 := by kernel_rfl
theorem cells_type : Tryz.prog.cellsOf 24 = 5 := by kernel_rfl
theorem cells_fields : Tryz.prog.cellsOf 22 = 1 := by kernel_rfl
theorem hasFld : ∀ (m : Nat) (c : List EV), HasT Tryz.prog m 26 c → ∃ f, c = cellsF f ∧ okF f := by
  intro m
  induction m using Nat.strongRecOn with
  | _ m ih =>
  intro c h
  obtain ⟨m1, rfl, g1⟩ := HasT.struct Tryz.underlying26 h
  obtain ⟨_, h1, g2⟩ := HasTF.cons g1 rfl cells_string
  obtain ⟨_, h2, g3⟩ := HasTF.cons g2 rfl cells_bool
  obtain ⟨_, h3, g4⟩ := HasTF.cons g3 rfl cells_type
  have h4 := HasTF.nil g4
  obtain ⟨nm, e1, q1⟩ := HasT.str Tryz.underlying9 h1
  obtain ⟨nul, e2⟩ := HasT.bool Tryz.underlying4 h2
  obtain ⟨m2, rfl, g5⟩ := HasT.struct Tryz.underlying24 h3
  obtain ⟨_, h5, g6⟩ := HasTF.cons g5 rfl cells_int
  obtain ⟨_, h6, g7⟩ := HasTF.cons g6 rfl cells_int
  obtain ⟨_, h7, g8⟩ := HasTF.cons g7 rfl cells_int
  obtain ⟨_, h8, g9⟩ := HasTF.cons g8 rfl cells_int
  obtain ⟨_, h9, g10⟩ := HasTF.cons g9 rfl cells_fields
  have h10 := HasTF.nil g10
  obtain ⟨k, e5, q5⟩ := HasT.int Tryz.underlying3 h5
  obtain ⟨w, e6, q6⟩ := HasT.int Tryz.underlying3 h6
  obtain ⟨i, e7, q7⟩ := HasT.int Tryz.underlying3 h7
  obtain ⟨x, e8, q8⟩ := HasT.int Tryz.underlying3 h8
  obtain ⟨m3, len, l, rfl, e9, q9, hl, hk⟩ := HasT.slice Tryz.underlying22 cells_field h9
  obtain ⟨kids, k1, k2, k3⟩ := pieces_of (n := 7) (cells := cellsF) (cellss := cellsFs) (ok := okF) (oks := okFs) rfl (fun _ _ => rfl) trivial (fun _ _ a b => ⟨a, b⟩) len l hl (fun i hi => ih m3 (by omega) _ (hk i hi))
  refine ⟨.mk nm nul k w i x kids, ?_, q1, q5, q6, q7, q8, by omega, k3⟩
  have d1 := cut1 e1
  have d2 := cut1 e2
  have d5 := cut1 e5
  have d6 := cut1 e6
  have d7 := cut1 e7
  have d8 := cut1 e8
  have d9 := cut1 e9
  have d10 : ((c.drop 1).drop 1) = ((c.drop 1).drop 1).take 5 ++ [] := by
    conv => lhs; rw [← List.take_append_drop 5 ((c.drop 1).drop 1), h4]
  rw [d1, d2, d10, d5, d6, d7, d8, d9, h10, ← k1, k2]
  rfl
end Go.Proofs.YtecephhhjhpcjaaGreatDoor.Stats
end
section
set_option linter.unusedVariables false
namespace Go.Proofs.YtecephhhjhpcjaaGreatDoor.Stats
open Go Go.Proofs.YtecephhhjhpcjaaGreatDoor Go.Proofs.YtecephhhjhpcjaaGreatDoor.Em
def bs (s : ByteArray) (i : Nat) : Int := stdA.bat s i
def letP (c : Int) : Prop := 97 ≤ c ∧ c ≤ 122 ∨ 65 ≤ c ∧ c ≤ 90 ∨ 48 ≤ c ∧ c ≤ 57 ∨ c = 95
def nameP (s : ByteArray) : Prop := 0 < s.size ∧ s.size ≤ 48 ∧ (∀ i, i < s.size → letP (bs s i)) ∧ ¬ (48 ≤ bs s 0 ∧ bs s 0 ≤ 57)
def Fld.nm : Fld → ByteArray | .mk a _ _ _ _ _ _ => a
def Fld.nul : Fld → Bool | .mk _ a _ _ _ _ _ => a
def Fld.kind : Fld → Int | .mk _ _ a _ _ _ _ => a
def Fld.width : Fld → Int | .mk _ _ _ a _ _ _ => a
def Fld.id : Fld → Int | .mk _ _ _ _ a _ _ => a
def Fld.idx : Fld → Int | .mk _ _ _ _ _ a _ => a
def Fld.kids : Fld → List Fld | .mk _ _ _ _ _ _ a => a
def kid0 (l : List Fld) : Bool := match l with | [] => false | f :: _ => f.nul
def fitsP (k w i x : Int) (n : Nat) : Prop :=
  1 ≤ k ∧ k ≤ 20 ∧
    if k = 14 then 1 ≤ w ∧ w ≤ 16 ∧ i = 0 ∧ x = 0 ∧ n = 0
    else if k = 15 ∨ k = 20 then w = 0 ∧ i = 0 ∧ x = 0 ∧ n = 1
    else if k = 16 then 1 ≤ w ∧ w ≤ 64 ∧ i = 0 ∧ x = 0 ∧ n = 1
    else if k = 17 then w = 0 ∧ i = 0 ∧ x = 0 ∧ n ≤ 32
    else if k = 18 then w = 0 ∧ i = 0 ∧ x = 0 ∧ 1 ≤ n ∧ n ≤ 32
    else if k = 19 then w = 0 ∧ 0 ≤ i ∧ i < 32 ∧ 3 ≤ x ∧ x ≤ 10 ∧ n = 1
    else w = 0 ∧ i = 0 ∧ x = 0 ∧ n = 0
def nullsP (nul : Bool) (k : Int) (kids : List Fld) : Prop := (k = 1 → nul = true) ∧ (k = 18 → nul = false) ∧ (k = 20 → nul = kid0 kids)
structure Pl where
  path : List Nat
  ahead : List Fld
  f : Fld
  inD : Bool
mutual
def nodesF (path : List Nat) (ahead : List Fld) (inD : Bool) : Fld → List Pl
  | .mk a b k w i x kids => ⟨path ++ [ahead.length], ahead, .mk a b k w i x kids, inD⟩ :: (if path.length < 64 then nodesFs (path ++ [ahead.length]) [] (inD || decide (k = 19)) kids else [])
def nodesFs (path : List Nat) (ahead : List Fld) (inD : Bool) : List Fld → List Pl
  | [] => []
  | f :: l => nodesF path ahead inD f ++ nodesFs path (ahead ++ [f]) inD l
end
def okN (prev : List Pl) (p : Pl) : Prop :=
  p.path.length ≤ 64 ∧ nameP p.f.nm ∧ (∀ g ∈ p.ahead, g.nm ≠ p.f.nm) ∧ fitsP p.f.kind p.f.width p.f.id p.f.idx p.f.kids.length ∧ nullsP p.f.nul p.f.kind p.f.kids ∧
  ¬ (p.inD = true ∧ (p.f.kind = 19 ∨ p.f.kind = 20)) ∧ ¬ (p.f.kind = 19 ∧ (kid0 p.f.kids = true ∨ ∃ o ∈ prev, o.f.kind = 19 ∧ o.f.id = p.f.id))
def allN (prev : List Pl) : List Pl → Prop
  | [] => True
  | p :: l => prev.length < 256 ∧ okN prev p ∧ allN (prev ++ [p]) l
theorem allN_app : ∀ (l m prev : List Pl), allN prev (l ++ m) ↔ allN prev l ∧ allN (prev ++ l) m
  | [], m, prev => by simp [allN]
  | p :: l, m, prev => by
    have := allN_app l m (prev ++ [p])
    simp only [List.cons_append, allN, this, List.append_assoc, List.nil_append, and_assoc]
end Go.Proofs.YtecephhhjhpcjaaGreatDoor.Stats
end
section
set_option linter.unusedVariables false
set_option linter.unusedSimpArgs false
namespace Go.Proofs.YtecephhhjhpcjaaGreatDoor.Stats
open Go Go.Proofs.YtecephhhjhpcjaaGreatDoor Go.Proofs.YtecephhhjhpcjaaGreatDoor.Em
set_option maxHeartbeats 1000000 in
theorem letter_ok (c : Int) (h : EH) : Tri Tryz.prog gs 105 [.lit (.int .u8 c)] h fun v h' => IsP (letP c) v ∧ h' = h := by
  refine Tri.boolC rfl (Tri_of F105_ok fun I0 ρ0 w0 Q hρ hQ => ?_) h
  obtain ⟨A, hA⟩ : ∃ A, A = stdA := ⟨_, rfl⟩
  with_reducible refine runS hA hd hQ 200 ?hk ?_
  case hk => exact trivial
  conv => arg 9; cbv
  try simp only [OK]
  repeat' first | ((with_reducible refine ⟨fun hbr => ?_, fun hbr => ?_⟩) <;> (try simp (disch := omega) only [hA, OK, s_le, s_inb, s_slb, s_room, s_mks, s_ne0, s_nn, s_eql, s_neq, s_lss, s_leq, s_gtr, s_geq, s_isz, s_bnot, s_beq, s_idx, s_addN, s_subN, s_mulN, s_tn, s_ofn, s_nmin, s_drp, s_tak, s_app, s_len, s_leB, s_add, s_sub, s_mul, s_wr64, s_wr8, bytesE_fold, bytesE_length, bytesE_drop, bytesE_take, bytesE_app, intsE_fold, intsE_length, decide_eq_true_eq, decide_eq_false_iff_not, Nat.mul_one, Nat.zero_add, Nat.add_zero, Bool.not_eq_true', List.length_take, List.length_drop, List.length_append, List.length_cons, List.length_nil, List.drop_zero, reduceCtorEq] at hbr) <;> (try (with_reducible exfalso; omega))) | ((with_reducible refine runK hA hd hQ 200 ?hk ?_); (case hk => exact trivial); (conv => arg 9; cbv); (try simp only [OK])) | ((with_reducible refine need_of ?hn ?_); (case hn => ((simp (disch := omega) only [hA, OK, s_le, s_inb, s_slb, s_room, s_mks, s_ne0, s_nn, s_eql, s_neq, s_lss, s_leq, s_gtr, s_geq, s_isz, s_bnot, s_beq, s_idx, s_addN, s_subN, s_mulN, s_tn, s_ofn, s_nmin, s_drp, s_tak, s_app, s_len, s_leB, s_add, s_sub, s_mul, s_wr64, s_wr8, bytesE_fold, bytesE_length, bytesE_drop, bytesE_take, bytesE_app, intsE_fold, intsE_length, decide_eq_true_eq, decide_eq_false_iff_not, Nat.mul_one, Nat.zero_add, Nat.add_zero, Bool.not_eq_true', List.length_take, List.length_drop, List.length_append, List.length_cons, List.length_nil, List.drop_zero]) <;> omega)))
  all_goals refine ⟨_, rfl, _, (by first | exact .inl rfl | exact .inr rfl), ?_⟩
  all_goals (try simp (disch := omega) only [hA, OK, s_le, s_inb, s_slb, s_room, s_mks, s_ne0, s_nn, s_eql, s_neq, s_lss, s_leq, s_gtr, s_geq, s_isz, s_bnot, s_beq, s_idx, s_addN, s_subN, s_mulN, s_tn, s_ofn, s_nmin, s_drp, s_tak, s_app, s_len, s_leB, s_add, s_sub, s_mul, s_wr64, s_wr8, bytesE_fold, bytesE_length, bytesE_drop, bytesE_take, bytesE_app, intsE_fold, intsE_length, decide_eq_true_eq, decide_eq_false_iff_not, Nat.mul_one, Nat.zero_add, Nat.add_zero, Bool.not_eq_true', List.length_take, List.length_drop, List.length_append, List.length_cons, List.length_nil, List.drop_zero, Bool.false_eq_true, true_iff, false_iff, eq_self, iff_true, iff_false , letP])
  all_goals first | omega | (simp <;> omega) | (simp_all <;> omega)
set_option maxHeartbeats 1000000 in
theorem letterR_ok (c : Int) (h : EH) : Tri Tryz.prog gs 104 [.lit (.int .u8 c)] h fun v h' => IsP (letP c) v ∧ h' = h := by
  refine Tri.boolC rfl (Tri_of F104_ok fun I0 ρ0 w0 Q hρ hQ => ?_) h
  obtain ⟨A, hA⟩ : ∃ A, A = stdA := ⟨_, rfl⟩
  with_reducible refine runS hA hd hQ 200 ?hk ?_
  case hk => exact trivial
  conv => arg 9; cbv
  try simp only [OK]
  repeat' first | ((with_reducible refine ⟨fun hbr => ?_, fun hbr => ?_⟩) <;> (try simp (disch := omega) only [hA, OK, s_le, s_inb, s_slb, s_room, s_mks, s_ne0, s_nn, s_eql, s_neq, s_lss, s_leq, s_gtr, s_geq, s_isz, s_bnot, s_beq, s_idx, s_addN, s_subN, s_mulN, s_tn, s_ofn, s_nmin, s_drp, s_tak, s_app, s_len, s_leB, s_add, s_sub, s_mul, s_wr64, s_wr8, bytesE_fold, bytesE_length, bytesE_drop, bytesE_take, bytesE_app, intsE_fold, intsE_length, decide_eq_true_eq, decide_eq_false_iff_not, Nat.mul_one, Nat.zero_add, Nat.add_zero, Bool.not_eq_true', List.length_take, List.length_drop, List.length_append, List.length_cons, List.length_nil, List.drop_zero, reduceCtorEq] at hbr) <;> (try (with_reducible exfalso; omega))) | ((with_reducible refine runK hA hd hQ 200 ?hk ?_); (case hk => exact trivial); (conv => arg 9; cbv); (try simp only [OK])) | ((with_reducible refine need_of ?hn ?_); (case hn => ((simp (disch := omega) only [hA, OK, s_le, s_inb, s_slb, s_room, s_mks, s_ne0, s_nn, s_eql, s_neq, s_lss, s_leq, s_gtr, s_geq, s_isz, s_bnot, s_beq, s_idx, s_addN, s_subN, s_mulN, s_tn, s_ofn, s_nmin, s_drp, s_tak, s_app, s_len, s_leB, s_add, s_sub, s_mul, s_wr64, s_wr8, bytesE_fold, bytesE_length, bytesE_drop, bytesE_take, bytesE_app, intsE_fold, intsE_length, decide_eq_true_eq, decide_eq_false_iff_not, Nat.mul_one, Nat.zero_add, Nat.add_zero, Bool.not_eq_true', List.length_take, List.length_drop, List.length_append, List.length_cons, List.length_nil, List.drop_zero]) <;> omega)))
  all_goals refine ⟨_, rfl, _, (by first | exact .inl rfl | exact .inr rfl), ?_⟩
  all_goals (try simp (disch := omega) only [hA, OK, s_le, s_inb, s_slb, s_room, s_mks, s_ne0, s_nn, s_eql, s_neq, s_lss, s_leq, s_gtr, s_geq, s_isz, s_bnot, s_beq, s_idx, s_addN, s_subN, s_mulN, s_tn, s_ofn, s_nmin, s_drp, s_tak, s_app, s_len, s_leB, s_add, s_sub, s_mul, s_wr64, s_wr8, bytesE_fold, bytesE_length, bytesE_drop, bytesE_take, bytesE_app, intsE_fold, intsE_length, decide_eq_true_eq, decide_eq_false_iff_not, Nat.mul_one, Nat.zero_add, Nat.add_zero, Bool.not_eq_true', List.length_take, List.length_drop, List.length_append, List.length_cons, List.length_nil, List.drop_zero, Bool.false_eq_true, true_iff, false_iff, eq_self, iff_true, iff_false , letP])
  all_goals first | omega | (simp <;> omega) | (simp_all <;> omega)
set_option maxHeartbeats 1000000 in
theorem known_ok (k : Int) (h : EH) : Tri Tryz.prog gs 107 [.lit (.int .i64 k)] h fun v h' => IsP (1 ≤ k ∧ k ≤ 20) v ∧ h' = h := by
  refine Tri.boolC rfl (Tri_of F107_ok fun I0 ρ0 w0 Q hρ hQ => ?_) h
  obtain ⟨A, hA⟩ : ∃ A, A = stdA := ⟨_, rfl⟩
  with_reducible refine runS hA hd hQ 200 ?hk ?_
  case hk => exact trivial
  conv => arg 9; cbv
  try simp only [OK]
  repeat' first | ((with_reducible refine ⟨fun hbr => ?_, fun hbr => ?_⟩) <;> (try simp (disch := omega) only [hA, OK, s_le, s_inb, s_slb, s_room, s_mks, s_ne0, s_nn, s_eql, s_neq, s_lss, s_leq, s_gtr, s_geq, s_isz, s_bnot, s_beq, s_idx, s_addN, s_subN, s_mulN, s_tn, s_ofn, s_nmin, s_drp, s_tak, s_app, s_len, s_leB, s_add, s_sub, s_mul, s_wr64, s_wr8, bytesE_fold, bytesE_length, bytesE_drop, bytesE_take, bytesE_app, intsE_fold, intsE_length, decide_eq_true_eq, decide_eq_false_iff_not, Nat.mul_one, Nat.zero_add, Nat.add_zero, Bool.not_eq_true', List.length_take, List.length_drop, List.length_append, List.length_cons, List.length_nil, List.drop_zero, reduceCtorEq] at hbr) <;> (try (with_reducible exfalso; omega))) | ((with_reducible refine runK hA hd hQ 200 ?hk ?_); (case hk => exact trivial); (conv => arg 9; cbv); (try simp only [OK])) | ((with_reducible refine need_of ?hn ?_); (case hn => ((simp (disch := omega) only [hA, OK, s_le, s_inb, s_slb, s_room, s_mks, s_ne0, s_nn, s_eql, s_neq, s_lss, s_leq, s_gtr, s_geq, s_isz, s_bnot, s_beq, s_idx, s_addN, s_subN, s_mulN, s_tn, s_ofn, s_nmin, s_drp, s_tak, s_app, s_len, s_leB, s_add, s_sub, s_mul, s_wr64, s_wr8, bytesE_fold, bytesE_length, bytesE_drop, bytesE_take, bytesE_app, intsE_fold, intsE_length, decide_eq_true_eq, decide_eq_false_iff_not, Nat.mul_one, Nat.zero_add, Nat.add_zero, Bool.not_eq_true', List.length_take, List.length_drop, List.length_append, List.length_cons, List.length_nil, List.drop_zero]) <;> omega)))
  all_goals refine ⟨_, rfl, _, (by first | exact .inl rfl | exact .inr rfl), ?_⟩
  all_goals (try simp (disch := omega) only [hA, OK, s_le, s_inb, s_slb, s_room, s_mks, s_ne0, s_nn, s_eql, s_neq, s_lss, s_leq, s_gtr, s_geq, s_isz, s_bnot, s_beq, s_idx, s_addN, s_subN, s_mulN, s_tn, s_ofn, s_nmin, s_drp, s_tak, s_app, s_len, s_leB, s_add, s_sub, s_mul, s_wr64, s_wr8, bytesE_fold, bytesE_length, bytesE_drop, bytesE_take, bytesE_app, intsE_fold, intsE_length, decide_eq_true_eq, decide_eq_false_iff_not, Nat.mul_one, Nat.zero_add, Nat.add_zero, Bool.not_eq_true', List.length_take, List.length_drop, List.length_append, List.length_cons, List.length_nil, List.drop_zero, Bool.false_eq_true, true_iff, false_iff, eq_self, iff_true, iff_false])
  all_goals first | omega | (simp <;> omega) | (simp_all <;> omega)
set_option maxHeartbeats 1000000 in
theorem isText_ok (k : Int) (h : EH) : Tri Tryz.prog gs 40 [.lit (.int .i64 k)] h fun v h' => IsP (12 ≤ k ∧ k ≤ 14) v ∧ h' = h := by
  refine Tri.boolC rfl (Tri_of F40_ok fun I0 ρ0 w0 Q hρ hQ => ?_) h
  obtain ⟨A, hA⟩ : ∃ A, A = stdA := ⟨_, rfl⟩
  with_reducible refine runS hA hd hQ 200 ?hk ?_
  case hk => exact trivial
  conv => arg 9; cbv
  try simp only [OK]
  repeat' first | ((with_reducible refine ⟨fun hbr => ?_, fun hbr => ?_⟩) <;> (try simp (disch := omega) only [hA, OK, s_le, s_inb, s_slb, s_room, s_mks, s_ne0, s_nn, s_eql, s_neq, s_lss, s_leq, s_gtr, s_geq, s_isz, s_bnot, s_beq, s_idx, s_addN, s_subN, s_mulN, s_tn, s_ofn, s_nmin, s_drp, s_tak, s_app, s_len, s_leB, s_add, s_sub, s_mul, s_wr64, s_wr8, bytesE_fold, bytesE_length, bytesE_drop, bytesE_take, bytesE_app, intsE_fold, intsE_length, decide_eq_true_eq, decide_eq_false_iff_not, Nat.mul_one, Nat.zero_add, Nat.add_zero, Bool.not_eq_true', List.length_take, List.length_drop, List.length_append, List.length_cons, List.length_nil, List.drop_zero, reduceCtorEq] at hbr) <;> (try (with_reducible exfalso; omega))) | ((with_reducible refine runK hA hd hQ 200 ?hk ?_); (case hk => exact trivial); (conv => arg 9; cbv); (try simp only [OK])) | ((with_reducible refine need_of ?hn ?_); (case hn => ((simp (disch := omega) only [hA, OK, s_le, s_inb, s_slb, s_room, s_mks, s_ne0, s_nn, s_eql, s_neq, s_lss, s_leq, s_gtr, s_geq, s_isz, s_bnot, s_beq, s_idx, s_addN, s_subN, s_mulN, s_tn, s_ofn, s_nmin, s_drp, s_tak, s_app, s_len, s_leB, s_add, s_sub, s_mul, s_wr64, s_wr8, bytesE_fold, bytesE_length, bytesE_drop, bytesE_take, bytesE_app, intsE_fold, intsE_length, decide_eq_true_eq, decide_eq_false_iff_not, Nat.mul_one, Nat.zero_add, Nat.add_zero, Bool.not_eq_true', List.length_take, List.length_drop, List.length_append, List.length_cons, List.length_nil, List.drop_zero]) <;> omega)))
  all_goals refine ⟨_, rfl, _, (by first | exact .inl rfl | exact .inr rfl), ?_⟩
  all_goals (try simp (disch := omega) only [hA, OK, s_le, s_inb, s_slb, s_room, s_mks, s_ne0, s_nn, s_eql, s_neq, s_lss, s_leq, s_gtr, s_geq, s_isz, s_bnot, s_beq, s_idx, s_addN, s_subN, s_mulN, s_tn, s_ofn, s_nmin, s_drp, s_tak, s_app, s_len, s_leB, s_add, s_sub, s_mul, s_wr64, s_wr8, bytesE_fold, bytesE_length, bytesE_drop, bytesE_take, bytesE_app, intsE_fold, intsE_length, decide_eq_true_eq, decide_eq_false_iff_not, Nat.mul_one, Nat.zero_add, Nat.add_zero, Bool.not_eq_true', List.length_take, List.length_drop, List.length_append, List.length_cons, List.length_nil, List.drop_zero, Bool.false_eq_true, true_iff, false_iff, eq_self, iff_true, iff_false])
  all_goals first | omega | (simp <;> omega) | (simp_all <;> omega)
set_option maxHeartbeats 1000000 in
theorem textR_ok (k : Int) (h : EH) : Tri Tryz.prog gs 57 [.lit (.int .i64 k)] h fun v h' => IsP (12 ≤ k ∧ k ≤ 14) v ∧ h' = h := by
  refine Tri.boolC rfl (Tri_of F57_ok fun I0 ρ0 w0 Q hρ hQ => ?_) h
  obtain ⟨A, hA⟩ : ∃ A, A = stdA := ⟨_, rfl⟩
  with_reducible refine runS hA hd hQ 200 ?hk ?_
  case hk => exact trivial
  conv => arg 9; cbv
  try simp only [OK]
  repeat' first | ((with_reducible refine ⟨fun hbr => ?_, fun hbr => ?_⟩) <;> (try simp (disch := omega) only [hA, OK, s_le, s_inb, s_slb, s_room, s_mks, s_ne0, s_nn, s_eql, s_neq, s_lss, s_leq, s_gtr, s_geq, s_isz, s_bnot, s_beq, s_idx, s_addN, s_subN, s_mulN, s_tn, s_ofn, s_nmin, s_drp, s_tak, s_app, s_len, s_leB, s_add, s_sub, s_mul, s_wr64, s_wr8, bytesE_fold, bytesE_length, bytesE_drop, bytesE_take, bytesE_app, intsE_fold, intsE_length, decide_eq_true_eq, decide_eq_false_iff_not, Nat.mul_one, Nat.zero_add, Nat.add_zero, Bool.not_eq_true', List.length_take, List.length_drop, List.length_append, List.length_cons, List.length_nil, List.drop_zero, reduceCtorEq] at hbr) <;> (try (with_reducible exfalso; omega))) | ((with_reducible refine runK hA hd hQ 200 ?hk ?_); (case hk => exact trivial); (conv => arg 9; cbv); (try simp only [OK])) | ((with_reducible refine need_of ?hn ?_); (case hn => ((simp (disch := omega) only [hA, OK, s_le, s_inb, s_slb, s_room, s_mks, s_ne0, s_nn, s_eql, s_neq, s_lss, s_leq, s_gtr, s_geq, s_isz, s_bnot, s_beq, s_idx, s_addN, s_subN, s_mulN, s_tn, s_ofn, s_nmin, s_drp, s_tak, s_app, s_len, s_leB, s_add, s_sub, s_mul, s_wr64, s_wr8, bytesE_fold, bytesE_length, bytesE_drop, bytesE_take, bytesE_app, intsE_fold, intsE_length, decide_eq_true_eq, decide_eq_false_iff_not, Nat.mul_one, Nat.zero_add, Nat.add_zero, Bool.not_eq_true', List.length_take, List.length_drop, List.length_append, List.length_cons, List.length_nil, List.drop_zero]) <;> omega)))
  all_goals refine ⟨_, rfl, _, (by first | exact .inl rfl | exact .inr rfl), ?_⟩
  all_goals (try simp (disch := omega) only [hA, OK, s_le, s_inb, s_slb, s_room, s_mks, s_ne0, s_nn, s_eql, s_neq, s_lss, s_leq, s_gtr, s_geq, s_isz, s_bnot, s_beq, s_idx, s_addN, s_subN, s_mulN, s_tn, s_ofn, s_nmin, s_drp, s_tak, s_app, s_len, s_leB, s_add, s_sub, s_mul, s_wr64, s_wr8, bytesE_fold, bytesE_length, bytesE_drop, bytesE_take, bytesE_app, intsE_fold, intsE_length, decide_eq_true_eq, decide_eq_false_iff_not, Nat.mul_one, Nat.zero_add, Nat.add_zero, Bool.not_eq_true', List.length_take, List.length_drop, List.length_append, List.length_cons, List.length_nil, List.drop_zero, Bool.false_eq_true, true_iff, false_iff, eq_self, iff_true, iff_false])
  all_goals first | omega | (simp <;> omega) | (simp_all <;> omega)
set_option maxHeartbeats 1000000 in
theorem hasBounds_ok (k : Int) (h : EH) : Tri Tryz.prog gs 38 [.lit (.int .i64 k)] h fun v h' => IsP (2 ≤ k ∧ k ≤ 14) v ∧ h' = h := by
  refine Tri.boolC rfl (Tri_of F38_ok fun I0 ρ0 w0 Q hρ hQ => ?_) h
  obtain ⟨A, hA⟩ : ∃ A, A = stdA := ⟨_, rfl⟩
  with_reducible refine runS hA hd hQ 200 ?hk ?_
  case hk => exact trivial
  conv => arg 9; cbv
  try simp only [OK]
  repeat' first | ((with_reducible refine ⟨fun hbr => ?_, fun hbr => ?_⟩) <;> (try simp (disch := omega) only [hA, OK, s_le, s_inb, s_slb, s_room, s_mks, s_ne0, s_nn, s_eql, s_neq, s_lss, s_leq, s_gtr, s_geq, s_isz, s_bnot, s_beq, s_idx, s_addN, s_subN, s_mulN, s_tn, s_ofn, s_nmin, s_drp, s_tak, s_app, s_len, s_leB, s_add, s_sub, s_mul, s_wr64, s_wr8, bytesE_fold, bytesE_length, bytesE_drop, bytesE_take, bytesE_app, intsE_fold, intsE_length, decide_eq_true_eq, decide_eq_false_iff_not, Nat.mul_one, Nat.zero_add, Nat.add_zero, Bool.not_eq_true', List.length_take, List.length_drop, List.length_append, List.length_cons, List.length_nil, List.drop_zero, reduceCtorEq] at hbr) <;> (try (with_reducible exfalso; omega))) | ((with_reducible refine runK hA hd hQ 200 ?hk ?_); (case hk => exact trivial); (conv => arg 9; cbv); (try simp only [OK])) | ((with_reducible refine need_of ?hn ?_); (case hn => ((simp (disch := omega) only [hA, OK, s_le, s_inb, s_slb, s_room, s_mks, s_ne0, s_nn, s_eql, s_neq, s_lss, s_leq, s_gtr, s_geq, s_isz, s_bnot, s_beq, s_idx, s_addN, s_subN, s_mulN, s_tn, s_ofn, s_nmin, s_drp, s_tak, s_app, s_len, s_leB, s_add, s_sub, s_mul, s_wr64, s_wr8, bytesE_fold, bytesE_length, bytesE_drop, bytesE_take, bytesE_app, intsE_fold, intsE_length, decide_eq_true_eq, decide_eq_false_iff_not, Nat.mul_one, Nat.zero_add, Nat.add_zero, Bool.not_eq_true', List.length_take, List.length_drop, List.length_append, List.length_cons, List.length_nil, List.drop_zero]) <;> omega)))
  all_goals refine ⟨_, rfl, _, (by first | exact .inl rfl | exact .inr rfl), ?_⟩
  all_goals (try simp (disch := omega) only [hA, OK, s_le, s_inb, s_slb, s_room, s_mks, s_ne0, s_nn, s_eql, s_neq, s_lss, s_leq, s_gtr, s_geq, s_isz, s_bnot, s_beq, s_idx, s_addN, s_subN, s_mulN, s_tn, s_ofn, s_nmin, s_drp, s_tak, s_app, s_len, s_leB, s_add, s_sub, s_mul, s_wr64, s_wr8, bytesE_fold, bytesE_length, bytesE_drop, bytesE_take, bytesE_app, intsE_fold, intsE_length, decide_eq_true_eq, decide_eq_false_iff_not, Nat.mul_one, Nat.zero_add, Nat.add_zero, Bool.not_eq_true', List.length_take, List.length_drop, List.length_append, List.length_cons, List.length_nil, List.drop_zero, Bool.false_eq_true, true_iff, false_iff, eq_self, iff_true, iff_false])
  all_goals first | omega | (simp <;> omega) | (simp_all <;> omega)
end Go.Proofs.YtecephhhjhpcjaaGreatDoor.Stats
end
section
set_option linter.unusedVariables false
set_option linter.unusedSimpArgs false
namespace Go.Proofs.YtecephhhjhpcjaaGreatDoor.Stats
open Go Go.Proofs.YtecephhhjhpcjaaGreatDoor Go.Proofs.YtecephhhjhpcjaaGreatDoor.Em
mutual
theorem clF : ∀ f : Fld, clL (cellsF f) = true
  | .mk nm nul k w i x kids => by simp [cellsF, clL, clE, clFs kids]
theorem clFs : ∀ l : List Fld, clL (cellsFs l) = true
  | [] => rfl
  | f :: l => by
    have h1 := clF f
    have h2 := clFs l
    refine clL_of fun x hx => ?_
    rw [cellsFs] at hx
    rcases List.mem_append.1 hx with hx | hx
    · obtain ⟨j, hj⟩ := List.getElem?_of_mem hx; exact clL_get h1 j x hj
    · obtain ⟨j, hj⟩ := List.getElem?_of_mem hx; exact clL_get h2 j x hj
end
set_option maxHeartbeats 1000000 in
theorem bounded_ok (k : Int) (h : EH) : Tri Tryz.prog gs 45 [.lit (.int .i64 k)] h fun v h' => IsP (2 ≤ k ∧ k ≤ 14) v ∧ h' = h := by
  refine Tri.boolC rfl (Tri_of F45_ok fun I0 ρ0 w0 Q hρ hQ => ?_) h
  obtain ⟨A, hA⟩ : ∃ A, A = stdA := ⟨_, rfl⟩
  with_reducible refine runS hA hd hQ 200 ?hk ?_
  case hk => exact trivial
  conv => arg 9; cbv
  try simp only [OK]
  repeat' first | ((with_reducible refine ⟨fun hbr => ?_, fun hbr => ?_⟩) <;> (try simp (disch := omega) only [hA, OK, s_le, s_inb, s_slb, s_room, s_mks, s_ne0, s_nn, s_eql, s_neq, s_lss, s_leq, s_gtr, s_geq, s_isz, s_bnot, s_beq, s_idx, s_addN, s_subN, s_mulN, s_tn, s_ofn, s_nmin, s_drp, s_tak, s_app, s_len, s_leB, s_add, s_sub, s_mul, s_wr64, s_wr8, bytesE_fold, bytesE_length, bytesE_drop, bytesE_take, bytesE_app, intsE_fold, intsE_length, decide_eq_true_eq, decide_eq_false_iff_not, Nat.mul_one, Nat.zero_add, Nat.add_zero, Bool.not_eq_true', List.length_take, List.length_drop, List.length_append, List.length_cons, List.length_nil, List.drop_zero, reduceCtorEq] at hbr) <;> (try (with_reducible exfalso; omega))) | ((with_reducible refine runK hA hd hQ 200 ?hk ?_); (case hk => exact trivial); (conv => arg 9; cbv); (try simp only [OK])) | ((with_reducible refine need_of ?hn ?_); (case hn => ((simp (disch := omega) only [hA, OK, s_le, s_inb, s_slb, s_room, s_mks, s_ne0, s_nn, s_eql, s_neq, s_lss, s_leq, s_gtr, s_geq, s_isz, s_bnot, s_beq, s_idx, s_addN, s_subN, s_mulN, s_tn, s_ofn, s_nmin, s_drp, s_tak, s_app, s_len, s_leB, s_add, s_sub, s_mul, s_wr64, s_wr8, bytesE_fold, bytesE_length, bytesE_drop, bytesE_take, bytesE_app, intsE_fold, intsE_length, decide_eq_true_eq, decide_eq_false_iff_not, Nat.mul_one, Nat.zero_add, Nat.add_zero, Bool.not_eq_true', List.length_take, List.length_drop, List.length_append, List.length_cons, List.length_nil, List.drop_zero]) <;> omega))) | (refine CallOK.of (goodF_of F57_ok) (Tri.mono (textR_ok _ _) fun v hh hx => ?_); (obtain ⟨⟨b, hv, hb⟩, he⟩ := hx; subst hv; subst he; cases b <;> simp (disch := omega) only [hA, OK, s_le, s_inb, s_slb, s_room, s_mks, s_ne0, s_nn, s_eql, s_neq, s_lss, s_leq, s_gtr, s_geq, s_isz, s_bnot, s_beq, s_idx, s_addN, s_subN, s_mulN, s_tn, s_ofn, s_nmin, s_drp, s_tak, s_app, s_len, s_leB, s_add, s_sub, s_mul, s_wr64, s_wr8, bytesE_fold, bytesE_length, bytesE_drop, bytesE_take, bytesE_app, intsE_fold, intsE_length, decide_eq_true_eq, decide_eq_false_iff_not, Nat.mul_one, Nat.zero_add, Nat.add_zero, Bool.not_eq_true', List.length_take, List.length_drop, List.length_append, List.length_cons, List.length_nil, List.drop_zero, Bool.false_eq_true, true_iff, false_iff, eq_self, reduceCtorEq] at hb) <;> (try (with_reducible exfalso; omega)))
  all_goals refine ⟨_, rfl, _, (by first | exact .inl rfl | exact .inr rfl), ?_⟩
  all_goals (try simp (disch := omega) only [hA, OK, s_le, s_inb, s_slb, s_room, s_mks, s_ne0, s_nn, s_eql, s_neq, s_lss, s_leq, s_gtr, s_geq, s_isz, s_bnot, s_beq, s_idx, s_addN, s_subN, s_mulN, s_tn, s_ofn, s_nmin, s_drp, s_tak, s_app, s_len, s_leB, s_add, s_sub, s_mul, s_wr64, s_wr8, bytesE_fold, bytesE_length, bytesE_drop, bytesE_take, bytesE_app, intsE_fold, intsE_length, decide_eq_true_eq, decide_eq_false_iff_not, Nat.mul_one, Nat.zero_add, Nat.add_zero, Bool.not_eq_true', List.length_take, List.length_drop, List.length_append, List.length_cons, List.length_nil, List.drop_zero, Bool.false_eq_true, true_iff, false_iff, eq_self, iff_true, iff_false])
  all_goals first | omega | (simp <;> omega) | (simp_all <;> omega)
set_option maxHeartbeats 4000000 in
theorem shaped_ok (k w i x : Int) (n : Nat) (c : List EV) (h : EH) (hn : n ≤ 140737488351232) (hc : clL c = true) :
    Tri Tryz.prog gs 78 [.agg [.lit (.int .i64 k), .lit (.int .i64 w), .lit (.int .i64 i), .lit (.int .i64 x), .isl n none c]] h fun v h' => IsP (fitsP k w i x n) v ∧ h' = h := by
  refine Tri.boolC (by simp [clL, clE, hc]) (Tri_of F78_ok fun I0 ρ0 w0 Q hρ hQ => ?_) h
  obtain ⟨A, hA⟩ : ∃ A, A = stdA := ⟨_, rfl⟩
  with_reducible refine runS hA hd hQ 300 ?hk ?_
  case hk => exact trivial
  conv => arg 9; cbv
  try simp only [OK]
  repeat' first | ((with_reducible refine ⟨fun hbr => ?_, fun hbr => ?_⟩) <;> (try simp (disch := omega) only [hA, OK, s_le, s_inb, s_slb, s_room, s_mks, s_ne0, s_nn, s_eql, s_neq, s_lss, s_leq, s_gtr, s_geq, s_isz, s_bnot, s_beq, s_idx, s_addN, s_subN, s_mulN, s_tn, s_ofn, s_nmin, s_drp, s_tak, s_app, s_len, s_leB, s_add, s_sub, s_mul, s_wr64, s_wr8, bytesE_fold, bytesE_length, bytesE_drop, bytesE_take, bytesE_app, intsE_fold, intsE_length, decide_eq_true_eq, decide_eq_false_iff_not, Nat.mul_one, Nat.zero_add, Nat.add_zero, Bool.not_eq_true', List.length_take, List.length_drop, List.length_append, List.length_cons, List.length_nil, List.drop_zero, reduceCtorEq] at hbr) <;> (try (with_reducible exfalso; omega))) | ((with_reducible refine runK hA hd hQ 300 ?hk ?_); (case hk => exact trivial); (conv => arg 9; cbv); (try simp only [OK])) | ((with_reducible refine need_of ?hn ?_); (case hn => ((simp (disch := omega) only [hA, OK, s_le, s_inb, s_slb, s_room, s_mks, s_ne0, s_nn, s_eql, s_neq, s_lss, s_leq, s_gtr, s_geq, s_isz, s_bnot, s_beq, s_idx, s_addN, s_subN, s_mulN, s_tn, s_ofn, s_nmin, s_drp, s_tak, s_app, s_len, s_leB, s_add, s_sub, s_mul, s_wr64, s_wr8, bytesE_fold, bytesE_length, bytesE_drop, bytesE_take, bytesE_app, intsE_fold, intsE_length, decide_eq_true_eq, decide_eq_false_iff_not, Nat.mul_one, Nat.zero_add, Nat.add_zero, Bool.not_eq_true', List.length_take, List.length_drop, List.length_append, List.length_cons, List.length_nil, List.drop_zero]) <;> omega)))
  all_goals refine ⟨_, rfl, _, (by first | exact .inl rfl | exact .inr rfl), ?_⟩
  all_goals (try simp (disch := omega) only [hA, OK, s_le, s_inb, s_slb, s_room, s_mks, s_ne0, s_nn, s_eql, s_neq, s_lss, s_leq, s_gtr, s_geq, s_isz, s_bnot, s_beq, s_idx, s_addN, s_subN, s_mulN, s_tn, s_ofn, s_nmin, s_drp, s_tak, s_app, s_len, s_leB, s_add, s_sub, s_mul, s_wr64, s_wr8, bytesE_fold, bytesE_length, bytesE_drop, bytesE_take, bytesE_app, intsE_fold, intsE_length, decide_eq_true_eq, decide_eq_false_iff_not, Nat.mul_one, Nat.zero_add, Nat.add_zero, Bool.not_eq_true', List.length_take, List.length_drop, List.length_append, List.length_cons, List.length_nil, List.drop_zero, Bool.false_eq_true, true_iff, false_iff, eq_self, iff_true, iff_false])
  all_goals unfold fitsP
  all_goals (repeat' split)
  all_goals omega
theorem kid_look (f : Fld) (l : List Fld) {c : List EV} (hc : c = cellsFs (f :: l)) : (c.drop 1).take 1 = [.lit (.bool f.nul)] := by
  subst hc; cases f; rfl
end Go.Proofs.YtecephhhjhpcjaaGreatDoor.Stats
end
section
set_option linter.unusedVariables false
set_option linter.unusedSimpArgs false
namespace Go.Proofs.YtecephhhjhpcjaaGreatDoor.Stats
open Go Go.Proofs.YtecephhhjhpcjaaGreatDoor Go.Proofs.YtecephhhjhpcjaaGreatDoor.Em
theorem one_of {k w i x : Int} {kids : List Fld} (hf : fitsP k w i x kids.length) (h : k = 20) : kids.length = 1 := by
  obtain ⟨_, _, hf⟩ := hf
  rw [if_neg (by omega), if_pos (.inr h)] at hf
  exact hf.2.2.2
set_option maxHeartbeats 4000000 in
theorem nullsR_ok (nm : ByteArray) (nul : Bool) (k w i x : Int) (kids : List Fld) (h : EH) (hf : fitsP k w i x kids.length) :
    Tri Tryz.prog gs 79 [.agg (cellsF (.mk nm nul k w i x kids))] h fun v h' => IsP (nullsP nul k kids) v ∧ h' = h := by
  refine Tri.boolC (by simp [clL, clE, cellsF, clFs]) (Tri_of F79_ok fun I0 ρ0 w0 Q hρ hQ => ?_) h
  obtain ⟨A, hA⟩ : ∃ A, A = stdA := ⟨_, rfl⟩
  simp only [cellsF]
  obtain ⟨n, hn⟩ : ∃ n, n = kids.length := ⟨_, rfl⟩
  obtain ⟨c, hc⟩ : ∃ c, c = cellsFs kids := ⟨_, rfl⟩
  have hn1 := (one_of hf)
  obtain ⟨b, hb⟩ : ∃ b, b = kid0 kids := ⟨_, rfl⟩
  have L : k = 20 → List.take 1 (List.drop (A.add (A.idx 0 0 7) 1) c) = [.lit (.bool b)] := fun h20 => by
    rw [hA, hc, hb]
    match kids, hn1 h20 with
    | [f], _ => exact kid_look f [] rfl
  have hp : nullsP nul k kids ↔ ((k = 1 → nul = true) ∧ (k = 18 → nul = false) ∧ (k = 20 → nul = b)) := by rw [hb]; exact Iff.rfl
  simp only [hp] at hQ
  rw [← hn] at hn1
  rw [← hn, ← hc]
  clear hp hb hc hn hf
  cases nul <;> cases b
  all_goals
    with_reducible refine runS hA hd hQ 300 ?hk ?_
    case hk => exact trivial
    conv => arg 9; cbv
    try simp only [OK]
    repeat' first | ((with_reducible refine ⟨fun hbr => ?_, fun hbr => ?_⟩) <;> (try simp (disch := omega) only [hA, OK, s_le, s_inb, s_slb, s_room, s_mks, s_ne0, s_nn, s_eql, s_neq, s_lss, s_leq, s_gtr, s_geq, s_isz, s_bnot, s_beq, s_idx, s_addN, s_subN, s_mulN, s_tn, s_ofn, s_nmin, s_drp, s_tak, s_app, s_len, s_leB, s_add, s_sub, s_mul, s_wr64, s_wr8, bytesE_fold, bytesE_length, bytesE_drop, bytesE_take, bytesE_app, intsE_fold, intsE_length, decide_eq_true_eq, decide_eq_false_iff_not, Nat.mul_one, Nat.zero_add, Nat.add_zero, Bool.not_eq_true', List.length_take, List.length_drop, List.length_append, List.length_cons, List.length_nil, List.drop_zero, reduceCtorEq] at hbr) <;> (try (with_reducible exfalso; omega))) | ((with_reducible refine runK hA hd hQ 300 ?hk ?_); (case hk => exact trivial); (conv => arg 9; cbv); (try simp only [OK])) | ((with_reducible refine need_of ?hn ?_); (case hn => ((simp (disch := omega) only [hA, OK, s_le, s_inb, s_slb, s_room, s_mks, s_ne0, s_nn, s_eql, s_neq, s_lss, s_leq, s_gtr, s_geq, s_isz, s_bnot, s_beq, s_idx, s_addN, s_subN, s_mulN, s_tn, s_ofn, s_nmin, s_drp, s_tak, s_app, s_len, s_leB, s_add, s_sub, s_mul, s_wr64, s_wr8, bytesE_fold, bytesE_length, bytesE_drop, bytesE_take, bytesE_app, intsE_fold, intsE_length, decide_eq_true_eq, decide_eq_false_iff_not, Nat.mul_one, Nat.zero_add, Nat.add_zero, Bool.not_eq_true', List.length_take, List.length_drop, List.length_append, List.length_cons, List.length_nil, List.drop_zero]) <;> omega))) | ((refine ⟨_, _, ?l1, (L hbr), rfl, ?_⟩); (case l1 => exact rfl))
  all_goals refine ⟨_, rfl, _, (by first | exact .inl rfl | exact .inr rfl), ?_⟩
  all_goals (try simp (disch := omega) only [hA, OK, s_le, s_inb, s_slb, s_room, s_mks, s_ne0, s_nn, s_eql, s_neq, s_lss, s_leq, s_gtr, s_geq, s_isz, s_bnot, s_beq, s_idx, s_addN, s_subN, s_mulN, s_tn, s_ofn, s_nmin, s_drp, s_tak, s_app, s_len, s_leB, s_add, s_sub, s_mul, s_wr64, s_wr8, bytesE_fold, bytesE_length, bytesE_drop, bytesE_take, bytesE_app, intsE_fold, intsE_length, decide_eq_true_eq, decide_eq_false_iff_not, Nat.mul_one, Nat.zero_add, Nat.add_zero, Bool.not_eq_true', List.length_take, List.length_drop, List.length_append, List.length_cons, List.length_nil, List.drop_zero, Bool.false_eq_true, true_iff, false_iff, eq_self, iff_true, iff_false , reduceCtorEq, imp_false])
  all_goals first | omega | (simp <;> omega) | (simp_all <;> omega)
set_option maxHeartbeats 4000000 in
theorem nulls_ok (nm : ByteArray) (nul : Bool) (k w i x : Int) (kids : List Fld) (h : EH) (hf : fitsP k w i x kids.length) :
    Tri Tryz.prog gs 87 [.agg (cellsF (.mk nm nul k w i x kids))] h fun v h' => IsP (nullsP nul k kids) v ∧ h' = h := by
  refine Tri.boolC (by simp [clL, clE, cellsF, clFs]) (Tri_of F87_ok fun I0 ρ0 w0 Q hρ hQ => ?_) h
  obtain ⟨A, hA⟩ : ∃ A, A = stdA := ⟨_, rfl⟩
  simp only [cellsF]
  obtain ⟨n, hn⟩ : ∃ n, n = kids.length := ⟨_, rfl⟩
  obtain ⟨c, hc⟩ : ∃ c, c = cellsFs kids := ⟨_, rfl⟩
  have hn1 := (one_of hf)
  obtain ⟨b, hb⟩ : ∃ b, b = kid0 kids := ⟨_, rfl⟩
  have L : k = 20 → List.take 1 (List.drop (A.add (A.idx 0 0 7) 1) c) = [.lit (.bool b)] := fun h20 => by
    rw [hA, hc, hb]
    match kids, hn1 h20 with
    | [f], _ => exact kid_look f [] rfl
  have hp : nullsP nul k kids ↔ ((k = 1 → nul = true) ∧ (k = 18 → nul = false) ∧ (k = 20 → nul = b)) := by rw [hb]; exact Iff.rfl
  simp only [hp] at hQ
  rw [← hn] at hn1
  rw [← hn, ← hc]
  clear hp hb hc hn hf
  cases nul <;> cases b
  all_goals
    with_reducible refine runS hA hd hQ 300 ?hk ?_
    case hk => exact trivial
    conv => arg 9; cbv
    try simp only [OK]
    repeat' first | ((with_reducible refine ⟨fun hbr => ?_, fun hbr => ?_⟩) <;> (try simp (disch := omega) only [hA, OK, s_le, s_inb, s_slb, s_room, s_mks, s_ne0, s_nn, s_eql, s_neq, s_lss, s_leq, s_gtr, s_geq, s_isz, s_bnot, s_beq, s_idx, s_addN, s_subN, s_mulN, s_tn, s_ofn, s_nmin, s_drp, s_tak, s_app, s_len, s_leB, s_add, s_sub, s_mul, s_wr64, s_wr8, bytesE_fold, bytesE_length, bytesE_drop, bytesE_take, bytesE_app, intsE_fold, intsE_length, decide_eq_true_eq, decide_eq_false_iff_not, Nat.mul_one, Nat.zero_add, Nat.add_zero, Bool.not_eq_true', List.length_take, List.length_drop, List.length_append, List.length_cons, List.length_nil, List.drop_zero, reduceCtorEq] at hbr) <;> (try (with_reducible exfalso; omega))) | ((with_reducible refine runK hA hd hQ 300 ?hk ?_); (case hk => exact trivial); (conv => arg 9; cbv); (try simp only [OK])) | ((with_reducible refine need_of ?hn ?_); (case hn => ((simp (disch := omega) only [hA, OK, s_le, s_inb, s_slb, s_room, s_mks, s_ne0, s_nn, s_eql, s_neq, s_lss, s_leq, s_gtr, s_geq, s_isz, s_bnot, s_beq, s_idx, s_addN, s_subN, s_mulN, s_tn, s_ofn, s_nmin, s_drp, s_tak, s_app, s_len, s_leB, s_add, s_sub, s_mul, s_wr64, s_wr8, bytesE_fold, bytesE_length, bytesE_drop, bytesE_take, bytesE_app, intsE_fold, intsE_length, decide_eq_true_eq, decide_eq_false_iff_not, Nat.mul_one, Nat.zero_add, Nat.add_zero, Bool.not_eq_true', List.length_take, List.length_drop, List.length_append, List.length_cons, List.length_nil, List.drop_zero]) <;> omega))) | ((refine ⟨_, _, ?l1, (L hbr), rfl, ?_⟩); (case l1 => exact rfl))
  all_goals refine ⟨_, rfl, _, (by first | exact .inl rfl | exact .inr rfl), ?_⟩
  all_goals (try simp (disch := omega) only [hA, OK, s_le, s_inb, s_slb, s_room, s_mks, s_ne0, s_nn, s_eql, s_neq, s_lss, s_leq, s_gtr, s_geq, s_isz, s_bnot, s_beq, s_idx, s_addN, s_subN, s_mulN, s_tn, s_ofn, s_nmin, s_drp, s_tak, s_app, s_len, s_leB, s_add, s_sub, s_mul, s_wr64, s_wr8, bytesE_fold, bytesE_length, bytesE_drop, bytesE_take, bytesE_app, intsE_fold, intsE_length, decide_eq_true_eq, decide_eq_false_iff_not, Nat.mul_one, Nat.zero_add, Nat.add_zero, Bool.not_eq_true', List.length_take, List.length_drop, List.length_append, List.length_cons, List.length_nil, List.drop_zero, Bool.false_eq_true, true_iff, false_iff, eq_self, iff_true, iff_false , reduceCtorEq, imp_false])
  all_goals first | omega | (simp <;> omega) | (simp_all <;> omega)
end Go.Proofs.YtecephhhjhpcjaaGreatDoor.Stats
end
section
set_option linter.unusedVariables false
set_option linter.unusedSimpArgs false
-- emaX: s_bat
namespace Go.Proofs.YtecephhhjhpcjaaGreatDoor.Stats
open Go Go.Proofs.YtecephhhjhpcjaaGreatDoor Go.Proofs.YtecephhhjhpcjaaGreatDoor.Em
theorem s_bat (s : ByteArray) (i : Nat) : stdA.bat s i = bs s i := rfl
theorem nameP_letter {s : ByteArray} {i : Nat} (hi : i < s.size) (h : ¬ letP (bs s i)) : ¬ nameP s := fun hn => h (hn.2.2.1 i hi)
theorem allP_step {p : Nat → Prop} {i : Int} (hi : 0 ≤ i) (h : ∀ j, j < i.toNat → p j) (h1 : p i.toNat) : ∀ j, j < (i + 1).toNat → p j := fun j hj => by
  by_cases e : j = i.toNat
  · subst e; exact h1
  · exact h j (by omega)
theorem emp_iff (s : ByteArray) : s = ⟨#[]⟩ ↔ s.size = 0 := by
  constructor
  · intro h; subst h; rfl
  · intro h
    apply ByteArray.ext
    apply Array.eq_empty_of_size_eq_zero
    exact h
set_option maxHeartbeats 2000000 in
theorem isNameR_ok (s : ByteArray) (hs : s.size ≤ 140737488351232) (h : EH) : Tri Tryz.prog gs 77 [.lit (.string s)] h fun v h' => IsP (nameP s) v ∧ h' = h := by
  refine Tri.boolC rfl (Tri_of F77_ok fun I0 ρ0 w0 Q hρ hQ => ?_) h
  obtain ⟨A, hA⟩ : ∃ A, A = stdA := ⟨_, rfl⟩
  with_reducible refine runS hA hd hQ 200 ?hk ?_
  case hk => exact trivial
  conv => arg 9; cbv
  try simp only [OK]
  repeat' first | (with_reducible refine OKK.loop ?_) | (with_reducible refine OKK.again ?_) | ((with_reducible refine ⟨fun hbr => ?_, fun hbr => ?_⟩) <;> (try simp (disch := omega) only [hA, OK, emaU, Int.reduceToNat, s_bat, reduceCtorEq] at hbr) <;> (try (with_reducible exfalso; omega))) | ((with_reducible refine runK hA hd hQ 200 ?hk ?_); (case hk => exact trivial); (conv => arg 9; cbv); (try simp only [OK])) | ((with_reducible refine need_of ?hn ?_); (case hn => ((simp (disch := omega) only [hA, OK, emaU, Int.reduceToNat, s_bat]) <;> omega)))
  all_goals (try (with_reducible refine FinR.self ?_; first | refine FinR.bl rfl ?_ | refine FinR.bs rfl ?_ | refine FinR.blh rfl ?_ rfl | refine FinR.bsh rfl ?_ rfl))
  all_goals (try simp (disch := omega) only [hA, OK, emaU, Int.reduceToNat, s_bat, Bool.false_eq_true, true_iff, false_iff, eq_self, iff_true, iff_false])
  all_goals try (clear hQ; unfold nameP; omega)
  all_goals
    refine OKs.mask (msk 33 [0, 3]) ?_
    refine OKs.loopN (fun n st => ∃ i : Int, st = ⟨mkT 33 [(0, .lit (.string s)), (3, .lit (.int .i64 i))], []⟩ ∧ n = (s.size - i).toNat ∧ 0 ≤ i ∧ i ≤ s.size ∧ ∀ j, j < i.toNat → letP (bs s j)) (fun n st hs' ih => ?_) ⟨0, rfl, rfl, by omega, by omega, fun j hj => absurd hj (by simp)⟩
    obtain ⟨i, rfl, hn, hi1, hi2, hi3⟩ := hs'
    with_reducible refine runS hA hd hQ 200 ?hk ?_
    case hk => exact trivial
    conv => arg 9; cbv
    try simp only [OK]
    repeat' first | (with_reducible refine OKK.loop ?_) | (with_reducible refine OKK.again ?_) | ((with_reducible refine ⟨fun hbr => ?_, fun hbr => ?_⟩) <;> (try simp (disch := omega) only [hA, OK, emaU, Int.reduceToNat, s_bat, reduceCtorEq] at hbr) <;> (try (with_reducible exfalso; omega))) | ((with_reducible refine runK hA hd hQ 200 ?hk ?_); (case hk => exact trivial); (conv => arg 9; cbv); (try simp only [OK])) | ((with_reducible refine need_of ?hn ?_); (case hn => ((simp (disch := omega) only [hA, OK, emaU, Int.reduceToNat, s_bat]) <;> omega))) | (refine CallOK.of (goodF_of F104_ok) (Tri.mono (letterR_ok _ _) fun v hh hx => ?_); (obtain ⟨⟨b, hv, hb⟩, he⟩ := hx; subst hv; subst he; cases b <;> simp (disch := omega) only [hA, OK, emaU, Int.reduceToNat, s_bat, Bool.false_eq_true, true_iff, false_iff, eq_self, reduceCtorEq] at hb) <;> (try (with_reducible exfalso; omega)))
  all_goals try (refine OKs.mask (msk 33 [0, 3]) (ih _ _ ⟨_, rfl, rfl, ?_, ?_, ?_⟩ ?_))
  all_goals (try (with_reducible refine FinR.self ?_; first | refine FinR.bl rfl ?_ | refine FinR.bs rfl ?_ | refine FinR.blh rfl ?_ rfl | refine FinR.bsh rfl ?_ rfl))
  all_goals (try simp (disch := omega) only [hA, OK, emaU, Int.reduceToNat, s_bat, Bool.false_eq_true, true_iff, false_iff, eq_self, iff_true, iff_false])
  all_goals first
    | omega
    | exact nameP_letter (by omega) hb
    | exact allP_step hi1 hi3 hb
    | exact ⟨by omega, by omega, fun j hj => hi3 j (by omega), by omega⟩
set_option maxHeartbeats 2000000 in
theorem named_ok (s : ByteArray) (hs : s.size ≤ 140737488351232) (h : EH) : Tri Tryz.prog gs 83 [.lit (.string s)] h fun v h' => IsP (nameP s) v ∧ h' = h := by
  refine Tri.boolC rfl (Tri_of F83_ok fun I0 ρ0 w0 Q hρ hQ => ?_) h
  obtain ⟨A, hA⟩ : ∃ A, A = stdA := ⟨_, rfl⟩
  with_reducible refine runS hA hd hQ 200 ?hk ?_
  case hk => exact trivial
  conv => arg 9; cbv
  try simp only [OK]
  repeat' first | (with_reducible refine OKK.loop ?_) | (with_reducible refine OKK.again ?_) | ((with_reducible refine ⟨fun hbr => ?_, fun hbr => ?_⟩) <;> (try simp (disch := omega) only [hA, OK, emaU, Int.reduceToNat, s_bat, reduceCtorEq] at hbr) <;> (try (with_reducible exfalso; omega))) | ((with_reducible refine runK hA hd hQ 200 ?hk ?_); (case hk => exact trivial); (conv => arg 9; cbv); (try simp only [OK])) | ((with_reducible refine need_of ?hn ?_); (case hn => ((simp (disch := omega) only [hA, OK, emaU, Int.reduceToNat, s_bat]) <;> omega)))
  refine OKs.mask (msk 36 [0, 6, 7]) ?_
  refine OKs.loopN (fun n st => ∃ i : Int, st = ⟨mkT 36 [(0, .lit (.string s)), (6, .lit (.int .i64 (A.ofn (A.bsz s)))), (7, .lit (.int .i64 i))], []⟩ ∧ n = (s.size - i).toNat ∧ 0 ≤ i ∧ i ≤ s.size ∧ (∀ j, j < i.toNat → letP (bs s j)) ∧ (0 < i → ¬ (48 ≤ bs s 0 ∧ bs s 0 ≤ 57))) (fun n st hs' ih => ?_) ⟨0, rfl, rfl, by omega, by omega, fun j hj => absurd hj (by simp), by omega⟩
  obtain ⟨i, rfl, hn, hi1, hi2, hi3, hi4⟩ := hs'
  with_reducible refine runS hA hd hQ 200 ?hk ?_
  case hk => exact trivial
  conv => arg 9; cbv
  try simp only [OK]
  repeat' first | (with_reducible refine OKK.loop ?_) | (with_reducible refine OKK.again ?_) | ((with_reducible refine ⟨fun hbr => ?_, fun hbr => ?_⟩) <;> (try simp (disch := omega) only [hA, OK, emaU, Int.reduceToNat, s_bat, reduceCtorEq] at hbr) <;> (try (with_reducible exfalso; omega))) | ((with_reducible refine runK hA hd hQ 200 ?hk ?_); (case hk => exact trivial); (conv => arg 9; cbv); (try simp only [OK])) | ((with_reducible refine need_of ?hn ?_); (case hn => ((simp (disch := omega) only [hA, OK, emaU, Int.reduceToNat, s_bat]) <;> omega))) | (refine CallOK.of (goodF_of F105_ok) (Tri.mono (letter_ok _ _) fun v hh hx => ?_); (obtain ⟨⟨b, hv, hb⟩, he⟩ := hx; subst hv; subst he; cases b <;> simp (disch := omega) only [hA, OK, emaU, Int.reduceToNat, s_bat, Bool.false_eq_true, true_iff, false_iff, eq_self, reduceCtorEq] at hb) <;> (try (with_reducible exfalso; omega)))
  all_goals try (refine OKs.mask (msk 36 [0, 6, 7]) (ih _ _ ⟨_, rfl, rfl, ?_, ?_, ?_, ?_⟩ ?_))
  all_goals (try (with_reducible refine FinR.self ?_; first | refine FinR.bl rfl ?_ | refine FinR.bs rfl ?_ | refine FinR.blh rfl ?_ rfl | refine FinR.bsh rfl ?_ rfl))
  all_goals (try simp (disch := omega) only [hA, OK, emaU, Int.reduceToNat, s_bat, Bool.false_eq_true, true_iff, false_iff, eq_self, iff_true, iff_false])
  all_goals first
    | omega
    | exact nameP_letter (by omega) hb
    | exact allP_step hi1 hi3 hb
    | (have e0 : i = 0 := by assumption
       subst e0; simp only [Int.reduceToNat] at *
       first | exact fun hnp => hnp.2.2.2 ⟨by omega, by omega⟩ | omega)
    | (have h0 : s.size ≠ 0 := fun e => hbr ((emp_iff s).2 e)
       exact ⟨fun h1 => ⟨by omega, by omega, fun j hj => hi3 j (by omega), hi4 (by omega)⟩, fun hnp => by have := hnp.2.1; omega⟩)
    | (have h0 : s.size = 0 := (emp_iff s).1 (Classical.byContradiction hbr)
       exact fun hnp : nameP s => by have := hnp.1; omega)
theorem say_look (x : Int) (h : 1 ≤ x ∧ x ≤ 20) : ((gs.getD 1 []).drop (x.toNat * 4 + 3)).take 1 = [.lit (.bool (decide (3 ≤ x ∧ x ≤ 10)))] := by
  have : x = 1 ∨ x = 2 ∨ x = 3 ∨ x = 4 ∨ x = 5 ∨ x = 6 ∨ x = 7 ∨ x = 8 ∨ x = 9 ∨ x = 10 ∨ x = 11 ∨ x = 12 ∨ x = 13 ∨ x = 14 ∨ x = 15 ∨ x = 16 ∨ x = 17 ∨ x = 18 ∨ x = 19 ∨ x = 20 := by omega
  rcases this with rfl | rfl | rfl | rfl | rfl | rfl | rfl | rfl | rfl | rfl | rfl | rfl | rfl | rfl | rfl | rfl | rfl | rfl | rfl | rfl <;> rfl
set_option maxHeartbeats 4000000 in
theorem fits_ok (k w i x : Int) (n : Nat) (c : List EV) (h : EH) (hn : n ≤ 140737488351232) (hc : clL c = true) :
    Tri Tryz.prog gs 86 [.agg [.lit (.int .i64 k), .lit (.int .i64 w), .lit (.int .i64 i), .lit (.int .i64 x), .isl n none c]] h fun v h' => IsP (fitsP k w i x n) v ∧ h' = h := by
  refine Tri.boolC (by simp [clL, clE, hc]) (Tri_of F86_ok fun I0 ρ0 w0 Q hρ hQ => ?_) h
  obtain ⟨A, hA⟩ : ∃ A, A = stdA := ⟨_, rfl⟩
  obtain ⟨b, hb0⟩ : ∃ b, b = decide (3 ≤ x ∧ x ≤ 10) := ⟨_, rfl⟩
  have L : 1 ≤ x ∧ x ≤ 20 → ((gs.getD 1 []).drop (A.add (A.idx 0 x 4) 3)).take 1 = [.lit (.bool b)] := fun hx => by
    rw [hA, hb0, ← say_look x hx]; simp only [s_addN, s_idx, Nat.zero_add]
  cases b
  all_goals
    with_reducible refine runS hA hd hQ 300 ?hk ?_
    case hk => exact trivial
    conv => arg 9; cbv
    try simp only [OK]
    repeat' first | ((with_reducible refine ⟨fun hbr => ?_, fun hbr => ?_⟩) <;> (try simp (disch := omega) only [hA, OK, emaU, Int.reduceToNat, s_bat, reduceCtorEq] at hbr) <;> (try (with_reducible exfalso; omega))) | ((with_reducible refine runK hA hd hQ 300 ?hk ?_); (case hk => exact trivial); (conv => arg 9; cbv); (try simp only [OK])) | ((with_reducible refine need_of ?hn ?_); (case hn => ((simp (disch := omega) only [hA, OK, emaU, Int.reduceToNat, s_bat]) <;> omega))) | ((refine ⟨_, _, ?l1, (L (by omega)), rfl, ?_⟩); (case l1 => exact rfl)) | (refine CallOK.of (goodF_of F107_ok) (Tri.mono (known_ok _ _) fun v hh hx => ?_); (obtain ⟨⟨b, hv, hb⟩, he⟩ := hx; subst hv; subst he; cases b <;> simp (disch := omega) only [hA, OK, emaU, Int.reduceToNat, s_bat, Bool.false_eq_true, true_iff, false_iff, eq_self, reduceCtorEq] at hb) <;> (try (with_reducible exfalso; omega)))
  all_goals (try (with_reducible refine FinR.self ?_; first | refine FinR.bl rfl ?_ | refine FinR.bs rfl ?_ | refine FinR.blh rfl ?_ rfl | refine FinR.bsh rfl ?_ rfl))
  all_goals (try simp (disch := omega) only [hA, OK, emaU, Int.reduceToNat, s_bat, Bool.false_eq_true, true_iff, false_iff, eq_self, iff_true, iff_false])
  all_goals simp only [Bool.false_eq, Bool.true_eq, decide_eq_false_iff_not, decide_eq_true_eq, eq_comm (a := false), eq_comm (a := true)] at hb0
  all_goals unfold fitsP
  all_goals (repeat' split)
  all_goals omega
end Go.Proofs.YtecephhhjhpcjaaGreatDoor.Stats
end
section
set_option linter.unusedVariables false
set_option linter.unusedSimpArgs false
-- emaX: s_bat
namespace Go.Proofs.YtecephhhjhpcjaaGreatDoor.Stats
open Go Go.Proofs.YtecephhhjhpcjaaGreatDoor Go.Proofs.YtecephhhjhpcjaaGreatDoor.Em
def fld0 : Fld := .mk ⟨#[]⟩ false 0 0 0 0 []
theorem fs_get : ∀ (l : List Fld) (i : Nat), i < l.length → ((cellsFs l).drop (i * 7)).take 7 = cellsF (l.getD i fld0)
  | [], i, h => by simp at h
  | f :: l, 0, _ => by
    simp only [cellsFs, Nat.zero_mul, List.drop_zero, List.getD_cons_zero]
    rw [List.take_append_of_le_length (by rw [cellsF_length]; omega), List.take_of_length_le (by rw [cellsF_length]; omega)]
  | f :: l, i + 1, h => by
    have ih := fs_get l i (by simpa using h)
    rw [cellsFs, List.drop_append, List.drop_eq_nil_of_le (by rw [cellsF_length]; omega), cellsF_length, List.nil_append, show (i + 1) * 7 - 7 = i * 7 by omega, ih]
    rfl
theorem fs_get1 {l m : List Fld} {c : List EV} (hc : c = cellsFs (l ++ m)) (i : Nat) (h : i < l.length) : (c.drop (i * 7)).take 7 = cellsF (l.getD i fld0) := by
  subst hc
  rw [fs_get _ _ (by simp; omega)]
  simp [List.getD_eq_getElem?_getD, List.getElem?_append_left h]
theorem cellsF_eq (f : Fld) : cellsF f = [.lit (.string f.nm), .lit (.bool f.nul), .lit (.int .i64 f.kind), .lit (.int .i64 f.width), .lit (.int .i64 f.id), .lit (.int .i64 f.idx), .isl f.kids.length none (cellsFs f.kids)] := by cases f; rfl
set_option maxHeartbeats 1000000 in
theorem wrong1_ok (g : Fld) (pe ae : EV) (nm : ByteArray) (b : EV) (k w i x : EV) (kids d : EV) (h : EH) :
    Tri Tryz.prog gs 85 [.agg (cellsF g), .iptr [pe, ae, .lit (.string nm), b, k, w, i, x, kids, d] 0] h fun v h' => IsP (g.nm = nm) v ∧ h' = h := by
  rw [cellsF_eq]
  generalize cellsFs g.kids = kc, g.kids.length = kn, g.nm = gn, g.nul = gb, g.kind = gk, g.width = gw, g.id = gi, g.idx = gx
  refine Tri.boolC (by simp [clL, clE]) (Tri_of F85_ok fun I0 ρ0 w0 Q hρ hQ => ?_) h
  obtain ⟨A, hA⟩ : ∃ A, A = stdA := ⟨_, rfl⟩
  have L : List.take 1 (List.drop (A.add (A.add 0 2) 0) [pe, ae, .lit (.string nm), b, k, w, i, x, kids, d]) = [.lit (.string nm)] := by rw [hA]; rfl
  with_reducible refine runS hA hd hQ 200 ?hk ?_
  case hk => exact trivial
  conv => arg 9; cbv
  try simp only [OK]
  repeat' first | ((with_reducible refine ⟨fun hbr => ?_, fun hbr => ?_⟩) <;> (try simp (disch := omega) only [hA, OK, emaU, Int.reduceToNat, s_bat, reduceCtorEq] at hbr) <;> (try (with_reducible exfalso; omega))) | ((with_reducible refine runK hA hd hQ 200 ?hk ?_); (case hk => exact trivial); (conv => arg 9; cbv); (try simp only [OK])) | ((with_reducible refine need_of ?hn ?_); (case hn => ((simp (disch := omega) only [hA, OK, emaU, Int.reduceToNat, s_bat]) <;> omega))) | ((refine ⟨_, _, ?l1, L, rfl, ?_⟩); (case l1 => exact rfl))
  all_goals (try (with_reducible refine FinR.self ?_; first | refine FinR.bl rfl ?_ | refine FinR.bs rfl ?_ | refine FinR.blh rfl ?_ rfl | refine FinR.bsh rfl ?_ rfl))
  all_goals (try simp (disch := omega) only [hA, OK, emaU, Int.reduceToNat, s_bat, Bool.false_eq_true, true_iff, false_iff, eq_self, iff_true, iff_false])
set_option maxHeartbeats 2000000 in
theorem indexFunc_ok (l m : List Fld) (hl : l.length ≤ 140737488351232) (pe ae : EV) (nm : ByteArray) (b : EV) (k w i x : EV) (kids d : EV) (h : EH) :
    Tri Tryz.prog gs 106 [.isl l.length none (cellsFs (l ++ m)), .fn (.func 85) [] [.iptr [pe, ae, .lit (.string nm), b, k, w, i, x, kids, d] 0]] h
      fun v h' => IsN .i64 (fun n => 0 ≤ n ↔ ∃ g, g ∈ l ∧ g.nm = nm) v ∧ h' = h := by
  refine Tri.intC (by simp [clL, clE]) (Tri_of F106_ok fun I0 ρ0 w0 Q hρ hQ => ?_) h
  obtain ⟨A, hA⟩ : ∃ A, A = stdA := ⟨_, rfl⟩
  obtain ⟨n0, hn0⟩ : ∃ n, n = l.length := ⟨_, rfl⟩
  obtain ⟨c, hc⟩ : ∃ c, c = cellsFs (l ++ m) := ⟨_, rfl⟩
  rw [← hn0, ← hc]
  obtain ⟨F, hF⟩ : ∃ F, F = EV.fn (.func 85) [] [.iptr [pe, ae, .lit (.string nm), b, k, w, i, x, kids, d] 0] := ⟨_, rfl⟩
  rw [← hF]
  with_reducible refine runS hA hd hQ 200 ?hk ?_
  case hk => exact trivial
  conv => arg 9; cbv
  try simp only [OK]
  repeat' first | (with_reducible refine OKK.loop ?_) | (with_reducible refine OKK.again ?_) | ((with_reducible refine ⟨fun hbr => ?_, fun hbr => ?_⟩) <;> (try simp (disch := omega) only [hA, OK, emaU, Int.reduceToNat, s_bat, reduceCtorEq] at hbr) <;> (try (with_reducible exfalso; omega))) | ((with_reducible refine runK hA hd hQ 200 ?hk ?_); (case hk => exact trivial); (conv => arg 9; cbv); (try simp only [OK])) | ((with_reducible refine need_of ?hn ?_); (case hn => ((simp (disch := omega) only [hA, OK, emaU, Int.reduceToNat, s_bat]) <;> omega)))
  refine OKs.mask (msk 19 [0, 1, 7, 8]) ?_
  refine OKs.loopN (fun n st => ∃ z : Int, st = ⟨mkT 19 [(0, .isl n0 none c), (1, F), (7, .lit (.int .i64 (A.ofn n0))), (8, .lit (.int .i64 z))], []⟩ ∧ n = (n0 - z).toNat ∧ 0 ≤ z ∧ z ≤ n0 ∧ ∀ j, j < z.toNat → (l.getD j fld0).nm ≠ nm) (fun n st hs' ih => ?_) ⟨0, rfl, rfl, by omega, by omega, fun j hj => absurd hj (by simp)⟩
  obtain ⟨z, rfl, hn, hz1, hz2, hz3⟩ := hs'
  subst hF
  obtain ⟨g, hg⟩ : ∃ g, g = l.getD z.toNat fld0 := ⟨_, rfl⟩
  have hw := wrong1_ok g pe ae nm b k w i x kids d
  have L : z < n0 → List.take 7 (List.drop (A.idx 0 z 7) c) = cellsF g := fun hz => by
    rw [hA, hg, ← fs_get1 hc _ (by omega)]; simp only [s_idx, Nat.zero_add]
  rw [cellsF_eq] at L hw
  have hmem : z < n0 → g ∈ l := fun hz => by rw [hg, List.getD_eq_getElem?_getD, List.getElem?_eq_getElem (by omega)]; exact List.getElem_mem _
  generalize cellsFs g.kids = kc, g.kids.length = kn, g.nul = gb, g.kind = gk, g.width = gw, g.id = gi, g.idx = gx at L hw
  obtain ⟨gn, hgn⟩ : ∃ gn, gn = g.nm := ⟨_, rfl⟩
  rw [← hgn] at L hw
  with_reducible refine runS hA hd hQ 200 ?hk ?_
  case hk => exact trivial
  conv => arg 9; cbv
  try simp only [OK]
  repeat' first | (with_reducible refine OKK.loop ?_) | (with_reducible refine OKK.again ?_) | ((with_reducible refine ⟨fun hbr => ?_, fun hbr => ?_⟩) <;> (try simp (disch := omega) only [hA, OK, emaU, Int.reduceToNat, s_bat, reduceCtorEq] at hbr) <;> (try (with_reducible exfalso; omega))) | ((with_reducible refine runK hA hd hQ 200 ?hk ?_); (case hk => exact trivial); (conv => arg 9; cbv); (try simp only [OK])) | ((with_reducible refine need_of ?hn ?_); (case hn => ((simp (disch := omega) only [hA, OK, emaU, Int.reduceToNat, s_bat]) <;> omega))) | ((refine ⟨_, _, ?l1, (L (by omega)), rfl, ?_⟩); (case l1 => exact rfl)) | (refine CallOK.of (goodF_of F85_ok) (Tri.mono (hw _) fun v hh hx => ?_); (obtain ⟨⟨b, hv, hb⟩, he⟩ := hx; subst hv; subst he; cases b <;> simp (disch := omega) only [hA, OK, emaU, Int.reduceToNat, s_bat, Bool.false_eq_true, true_iff, false_iff, eq_self, reduceCtorEq] at hb) <;> (try (with_reducible exfalso; omega)))
  all_goals try (refine OKs.mask (msk 19 [0, 1, 7, 8]) (ih _ _ ⟨_, rfl, rfl, ?_, ?_, ?_⟩ ?_))
  all_goals (try (with_reducible refine FinR.self ?_; first | refine FinR.n rfl ?_ | refine FinR.nh rfl ?_ rfl))
  all_goals (try simp (disch := omega) only [hA, OK, emaU, Int.reduceToNat, s_bat, Bool.false_eq_true, true_iff, false_iff, eq_self, iff_true, iff_false])
  all_goals first
    | omega
    | exact allP_step hz1 hz3 (by rw [← hg, ← hgn]; exact hb)
    | exact ⟨fun _ => ⟨g, hmem (by assumption), by rw [← hgn]; exact hb⟩, fun _ => hz1⟩
    | exact ⟨fun h => by omega, fun ⟨f, hf, e⟩ => by
        obtain ⟨j, hj, rfl⟩ := List.getElem_of_mem hf
        exact absurd e (by have := hz3 j (by omega); rwa [List.getD_eq_getElem?_getD, List.getElem?_eq_getElem hj] at this)⟩
set_option maxHeartbeats 2000000 in
theorem containsFunc_ok (l m : List Fld) (hl : l.length ≤ 140737488351232) (pe ae : EV) (nm : ByteArray) (b : EV) (k w i x : EV) (kids d : EV) (h : EH) :
    Tri Tryz.prog gs 84 [.isl l.length none (cellsFs (l ++ m)), .fn (.func 85) [] [.iptr [pe, ae, .lit (.string nm), b, k, w, i, x, kids, d] 0]] h
      fun v h' => IsP (∃ g, g ∈ l ∧ g.nm = nm) v ∧ h' = h := by
  refine Tri.boolC (by simp [clL, clE]) (Tri_of F84_ok fun I0 ρ0 w0 Q hρ hQ => ?_) h
  obtain ⟨A, hA⟩ : ∃ A, A = stdA := ⟨_, rfl⟩
  have hw := indexFunc_ok l m hl pe ae nm b k w i x kids d
  generalize cellsFs (l ++ m) = c, l.length = n0 at hw
  with_reducible refine runS hA hd hQ 200 ?hk ?_
  case hk => exact trivial
  conv => arg 9; cbv
  try simp only [OK]
  repeat' first | ((with_reducible refine ⟨fun hbr => ?_, fun hbr => ?_⟩) <;> (try simp (disch := omega) only [hA, OK, emaU, Int.reduceToNat, s_bat, reduceCtorEq] at hbr) <;> (try (with_reducible exfalso; omega))) | ((with_reducible refine runK hA hd hQ 200 ?hk ?_); (case hk => exact trivial); (conv => arg 9; cbv); (try simp only [OK])) | ((with_reducible refine need_of ?hn ?_); (case hn => ((simp (disch := omega) only [hA, OK, emaU, Int.reduceToNat, s_bat]) <;> omega))) | (refine CallOK.of (goodF_of F106_ok) (Tri.mono (hw _) fun v hh hx => ?_); (obtain ⟨⟨z, hv, hz⟩, he⟩ := hx; subst hv; subst he))
  all_goals (try (with_reducible refine FinR.self ?_; first | refine FinR.bl rfl ?_ | refine FinR.bs rfl ?_ | refine FinR.blh rfl ?_ rfl | refine FinR.bsh rfl ?_ rfl))
  all_goals (try simp (disch := omega) only [hA, OK, emaU, Int.reduceToNat, s_bat, Bool.false_eq_true, true_iff, false_iff, eq_self, iff_true, iff_false])
  all_goals exact hz
end Go.Proofs.YtecephhhjhpcjaaGreatDoor.Stats
end
section
set_option linter.unusedVariables false
set_option linter.unusedSimpArgs false
-- emaX: s_bat
namespace Go.Proofs.YtecephhhjhpcjaaGreatDoor.Stats
open Go Go.Proofs.YtecephhhjhpcjaaGreatDoor Go.Proofs.YtecephhhjhpcjaaGreatDoor.Em
def cellsP (pc : List EV) (rest : List Fld) (p : Pl) : List EV :=
  [.isl p.path.length none pc, .isl p.ahead.length none (cellsFs (p.ahead ++ rest)), .lit (.string p.f.nm), .lit (.bool p.f.nul), .lit (.int .i64 p.f.kind), .lit (.int .i64 p.f.width), .lit (.int .i64 p.f.id), .lit (.int .i64 p.f.idx),
    .isl p.f.kids.length none (cellsFs p.f.kids), .sb p.inD]
def IdsOf (idm : List (Int × Int)) (prev : List Pl) : Prop := ∀ a, (∃ q, q ∈ idm ∧ q.1 = a) ↔ ∃ o, o ∈ prev ∧ o.f.kind = 19 ∧ o.f.id = a
theorem some_none {α : Type} {o : Option α} {x : α} (h : o = some x) (k : o = none) : False := by rw [h] at k; cases k
theorem nm_mk (nm nul k w i x kids) : (Fld.mk nm nul k w i x kids).nm = nm := rfl
theorem nul_mk (nm nul k w i x kids) : (Fld.mk nm nul k w i x kids).nul = nul := rfl
theorem kind_mk (nm nul k w i x kids) : (Fld.mk nm nul k w i x kids).kind = k := rfl
theorem width_mk (nm nul k w i x kids) : (Fld.mk nm nul k w i x kids).width = w := rfl
theorem id_mk (nm nul k w i x kids) : (Fld.mk nm nul k w i x kids).id = i := rfl
theorem idx_mk (nm nul k w i x kids) : (Fld.mk nm nul k w i x kids).idx = x := rfl
theorem kids_mk (nm nul k w i x kids) : (Fld.mk nm nul k w i x kids).kids = kids := rfl
theorem kid0_look (l : List Fld) (h : 0 < l.length) : ((cellsFs l).drop 1).take 1 = [.lit (.bool (kid0 l))] := by
  match l, h with
  | f :: l, _ => exact kid_look f l rfl
set_option maxRecDepth 100000 in
set_option maxHeartbeats 8000000 in
theorem wrong_ok (p : Pl) (pc : List EV) (rest : List Fld) (prev : List Pl) (idm : List (Int × Int)) (hpc : clL pc = true) (hpl : p.path.length ≤ 65) (hal : p.ahead.length ≤ 140737488351232) (hok : okF p.f) (hprev : prev.length ≤ 256) (hids : IdsOf idm prev) :
    Tri Tryz.prog gs 59 [.agg (cellsP pc rest p), .lit (.int .i64 prev.length), .mp 0] [.emap (imE idm)] fun v h' => IsN .i64 (fun n => n = 0 ↔ prev.length < 256 ∧ okN prev p) v ∧ h' = [.emap (imE idm)] := by
  refine Tri.trimN (fun l => by simp [mvH, sizeH, mvO, mvM_im, getH, inL, List.range, List.range.loop]) ?_
  refine Tri_of F59_ok fun I0 ρ0 w0 Q hρ hQ => ?_
  obtain ⟨A, hA⟩ : ∃ A, A = stdA := ⟨_, rfl⟩
  obtain ⟨path, ahead, f, inD⟩ := p
  obtain ⟨nm, nul, k, w, i, x, kids⟩ := f
  simp only [okN, cellsP, nm_mk, nul_mk, kind_mk, width_mk, id_mk, idx_mk, kids_mk, okF] at *
  have hn := named_ok nm hok.1
  have hc := fun pe kc => containsFunc_ok ahead rest hal pe (.isl ahead.length none (cellsFs (ahead ++ rest))) nm (.lit (.bool nul)) (.lit (.int .i64 k)) (.lit (.int .i64 w)) (.lit (.int .i64 i)) (.lit (.int .i64 x)) kc (.sb inD)
  have hf := fits_ok k w i x kids.length (cellsFs kids)
  have hu := fun hf h => nulls_ok nm nul k w i x kids h hf
  have hkn : kids.length ≤ 140737488351232 := hok.2.2.2.2.2.1
  have hkk := kid0_look kids
  obtain ⟨kb, hkb⟩ : ∃ b, b = kid0 kids := ⟨_, rfl⟩
  have hfx : fitsP k w i x kids.length → k = 19 → 0 < kids.length := fun h h19 => by
    obtain ⟨_, _, h⟩ := h
    subst h19
    simp at h
    omega
  simp only [cellsF] at hu
  have hkcl := clFs kids
  rw [← hkb] at hkk
  have hid : ∀ a, (∃ q, q ∈ idm ∧ q.1 = a) ↔ ∃ o, o ∈ prev ∧ o.f.kind = 19 ∧ o.f.id = a := hids
  generalize cellsFs kids = kc at *
  generalize hkn0 : kids.length = kn at *
  generalize cellsFs (ahead ++ rest) = ac at *
  generalize ahead.length = an at *
  generalize hpn : path.length = pn at *
  obtain ⟨cnt, hcnt⟩ : ∃ n : Int, n = prev.length := ⟨_, rfl⟩
  rw [← hcnt]
  have hkey : stdA.keyed 0 (imE idm) (.lit (.int .i64 i)) = true := im_keyed _ _
  have hno : stdA.find (imE idm) (.lit (.int .i64 i)) = none ↔ ¬ ∃ o, o ∈ prev ∧ o.f.kind = 19 ∧ o.f.id = i := by rw [im_none, hid]
  obtain ⟨ie, hie⟩ : ∃ e, e = imE idm := ⟨_, rfl⟩
  rw [← hie] at hkey hno hQ ⊢
  have hL : fitsP k w i x kn → k = 19 → List.take 1 (List.drop (A.add (A.idx 0 0 7) 1) kc) = [.lit (.bool kb)] := fun h1 h2 => by rw [hA]; exact hkk (hfx h1 h2)
  cases kb
  all_goals
    with_reducible refine runS hA hd hQ 300 ?hk ?_
    case hk => exact trivial
    conv => arg 9; cbv
    try simp only [OK]
    repeat' first | ((with_reducible refine opt_of (fun hop => ?_) (fun xop hop => ?_)) <;> (try simp (disch := omega) only [hA, OK, emaU, Int.reduceToNat, s_bat , hkey, hno, reduceCtorEq] at hop)) | ((with_reducible refine ⟨fun hbr => ?_, fun hbr => ?_⟩) <;> (try simp (disch := omega) only [hA, OK, emaU, Int.reduceToNat, s_bat, reduceCtorEq , hkey, hno, reduceCtorEq] at hbr) <;> (try (with_reducible exfalso; omega))) | ((with_reducible refine runK hA hd hQ 300 ?hk ?_); (case hk => exact trivial); (conv => arg 9; cbv); (try simp only [OK])) | ((with_reducible refine need_of ?hn ?_); (case hn => ((simp (disch := omega) only [hA, OK, emaU, Int.reduceToNat, s_bat , hkey, hno, reduceCtorEq]) <;> omega))) | ((refine ⟨_, _, ?l1, (hL (by assumption) (by assumption)), rfl, ?_⟩); (case l1 => exact rfl)) | ((with_reducible refine need_of ?hn ?_); (case hn => (have hneed := hfx (by assumption) (by assumption); (simp (disch := omega) only [hA, OK, emaU, Int.reduceToNat, s_bat , hkey, hno, reduceCtorEq]) <;> omega))) | (refine CallOK.of (goodF_of F83_ok) (Tri.mono (hn _) fun v hh hx => ?_); (obtain ⟨⟨b, hv, hb⟩, he⟩ := hx; subst hv; subst he; cases b <;> simp (disch := omega) only [hA, OK, emaU, Int.reduceToNat, s_bat, Bool.false_eq_true, true_iff, false_iff, eq_self, reduceCtorEq , hkey, hno, reduceCtorEq] at hb) <;> (try (with_reducible exfalso; omega))) | (refine CallOK.of (goodF_of F84_ok) (Tri.mono (Tri.lendB [1] (fun id hid => by simp at hid; subst hid; exact ⟨_, rfl, by simp [clL, clE]⟩) rfl (hc _ _ [])) fun v hh hx => ?_); (obtain ⟨⟨b, hv, hb⟩, he⟩ := hx; subst hv; subst he; cases b <;> simp (disch := omega) only [hA, OK, emaU, Int.reduceToNat, s_bat, Bool.false_eq_true, true_iff, false_iff, eq_self, reduceCtorEq , hkey, hno, reduceCtorEq] at hb) <;> (try (with_reducible exfalso; omega))) | (refine CallOK.of (goodF_of F86_ok) (Tri.mono (hf _ hkn hkcl) fun v hh hx => ?_); (obtain ⟨⟨b, hv, hb⟩, he⟩ := hx; subst hv; subst he; cases b <;> simp (disch := omega) only [hA, OK, emaU, Int.reduceToNat, s_bat, Bool.false_eq_true, true_iff, false_iff, eq_self, reduceCtorEq , hkey, hno, reduceCtorEq] at hb) <;> (try (with_reducible exfalso; omega))) | (refine CallOK.of (goodF_of F87_ok) (Tri.mono (hu (by assumption) _) fun v hh hx => ?_); (obtain ⟨⟨b, hv, hb⟩, he⟩ := hx; subst hv; subst he; cases b <;> simp (disch := omega) only [hA, OK, emaU, Int.reduceToNat, s_bat, Bool.false_eq_true, true_iff, false_iff, eq_self, reduceCtorEq , hkey, hno, reduceCtorEq] at hb) <;> (try (with_reducible exfalso; omega)))
  all_goals (try (with_reducible refine FinR.self ?_; first | refine FinR.n rfl ?_ | refine FinR.nh rfl ?_ rfl))
  all_goals (try simp (disch := omega) only [hA, OK, emaU, Int.reduceToNat, s_bat, Bool.false_eq_true, true_iff, false_iff, eq_self, iff_true, iff_false])
  all_goals try (have hex : ∃ o, o ∈ prev ∧ o.f.kind = 19 ∧ o.f.id = i := Classical.not_not.1 fun hn' => some_none hop (hno.2 hn'))
  all_goals first
    | exact ⟨fun h => absurd h (by decide), fun ⟨h1, h2, h3, h4, h5, h6, h7, h8⟩ => by
        exfalso
        first
          | omega
          | contradiction
          | exact (by assumption : ∃ g, g ∈ ahead ∧ g.nm = nm).elim fun g hg => h4 g hg.1 hg.2
          | exact h7 ⟨by assumption, by omega⟩
          | exact h8 ⟨by assumption, .inl hkb.symm⟩
          | exact h8 ⟨by assumption, .inr hex⟩⟩
    | (refine ⟨by omega, by omega, by assumption, fun g hg e => (by assumption : ¬ ∃ g, g ∈ ahead ∧ g.nm = nm) ⟨g, hg, e⟩, by assumption, by assumption, ?_, ?_⟩ <;>
        first
          | exact fun h => Bool.noConfusion (h.1.symm.trans (by assumption))
          | exact fun h => by omega
          | exact fun h => h.2.elim (fun e => nomatch hkb.trans e) (by assumption)
          | omega)
end Go.Proofs.YtecephhhjhpcjaaGreatDoor.Stats
end
