/- YtecephhhjhpcjaaGreatDoorMb: the texts Scc, Scd, Sc1, Sce, Sc2, brought together. No conditions. -/
import Derived.Test.YtecephhhjhpcjaaGreatDoorMa
import Derived.Test.YtecephhhjhpcjaaGreatDoorX22
import Derived.Test.YtecephhhjhpcjaaGreatDoorX32
import Derived.Test.YtecephhhjhpcjaaGreatDoorX35
import Derived.Test.YtecephhhjhpcjaaGreatDoorProg
import Derived.KernelRfl
section
set_option linter.unusedVariables false
namespace Go.Proofs.YtecephhhjhpcjaaGreatDoor.Stats
open Go Go.Proofs.YtecephhhjhpcjaaGreatDoor Go.Proofs.YtecephhhjhpcjaaGreatDoor.Em
/-- (*colonnade/value.fitter).fits -/
def F89 : FC := ⟨219, [.tmp 6],
  (sQ [o 4 (.box (q 1)), o 5 (.box (q 2)), o 6 (.mov kF)]
  (sQ [oM 8 0, o 9 (.nilCheck (q 8)), oA 10 0 9, oL 11 10, o 12 (.bin .sub (q 11) (kI 16) tI), o 13 (.nilCheck (q 8)), oA 14 0 13, oS 1 14 12]
  (.seq (sQ [oM 15 0, o 16 (.nilCheck (q 15)), oA 17 0 16, oL 18 17, o 19 (.bin .lss (q 18) (kI 0) tI), oM 20 19, og 21 (.fieldAddr 2 (q 5)) 20 false, og 22 (.load false 1 (q 21)) 20 false, og 23 (.len 0 (q 22)) 20 false, og 24 (.mov (q 0)) 20 false, og 25 (.nilCheck (q 24)) 20 false, og 26 (.fieldAddr 0 (q 25)) 20 false, og 27 (.load false 1 (q 26)) 20 false, og 28 (.bin .gtr (q 23) (q 27) tI) 20 false, o 29 (.pick (q 20) kT (q 28)), oM 30 29, og 31 (.fieldAddr 3 (q 5)) 30 false, og 32 (.load false 1 (q 31)) 30 false, og 33 (.len 1 (q 32)) 30 false, og 34 (.bin .gtr (q 33) (kI 4096) tI) 30 false, o 35 (.pick (q 30) kT (q 34))]
  (.cond (q 35)
  (sQ [o 6 (.mov kF)]
  .ret)
  .skip))
  (sQ [oM 36 0, o 37 (.nilCheck (q 36)), oA 38 0 37, oL 39 38, oA 40 2 5, oL 41 40, o 42 (.len 0 (q 41)), o 43 (.bin .sub (q 39) (q 42) tI), o 44 (.nilCheck (q 36)), oA 45 0 44, oS 1 45 43]
  (.seq (sQ [oA 46 0 5, oL 47 46]
  (.cond (q 47)
  (sQ [oA 48 1 5, oL 49 48, o 50 (.bin .eql (q 49) (kI 0) tI), oM 51 50, og 52 (.fieldAddr 2 (q 5)) 51 true, og 53 (.load false 1 (q 52)) 51 true, ⟨some 54, .bin .eql (q 53) (.const (.string ⟨#[]⟩)) (some .string), some (51, true)⟩, o 55 (.pick (q 51) (q 54) kF), oM 56 55, og 57 (.fieldAddr 3 (q 5)) 56 true, og 58 (.load false 1 (q 57)) 56 true, og 59 (.len 1 (q 58)) 56 true, og 60 (.bin .eql (q 59) (kI 0) tI) 56 true, o 61 (.pick (q 56) (q 60) kF), oM 62 61, og 63 (.load true 7 (q 4)) 62 true, og 64 (.call 108 [.tmp 63]) 62 true, o 65 (.pick (q 62) (q 64) kF), oM 6 65]
  .ret)
  .skip))
  (sQ [oA 66 2 4, o 67 (.load true 5 (q 66)), o 7 (.alloc [.int .i64 0, .int .i64 0, .int .i64 0, .int .i64 0, .slice none 0 0]), oS 5 7 67]
  (.seq (sQ [oA 68 0 7, oL 69 68]
  (.block 0 (.seq (sQ [o 71 (.bin .eql (q 69) (kI 19) tI), oM 70 71]
  (.cond (q 70)
  .skip
  (.ops [o 72 (.bin .eql (q 69) (kI 20) tI), oM 70 72])))
  (.cond (q 70)
  (sQ [oM 73 0, o 74 (.nilCheck (q 73)), oA 75 0 74, oL 76 75, oA 77 2 5, oL 78 77, o 79 (.len 0 (q 78)), o 80 (.bin .add (kI 16) (q 79) tI), o 81 (.bin .add (q 76) (q 80) tI), o 82 (.nilCheck (q 73)), oA 83 0 82, oS 1 83 81]
  (sQ [oM 84 0, oA 85 4 7, oL 86 85, o 87 (.indexAddr 7 (q 86) (kI 0)), o 88 (.load true 7 (q 87)), o 89 (.load true 4 (q 5)), o 90 (.call 89 [.tmp 84, .tmp 88, .tmp 89]), oM 6 90]
  .ret))
  (sQ [o 92 (.bin .eql (q 69) (kI 18) tI), oM 91 92]
  (.cond (q 91)
  (sQ [oA 93 2 5, oL 94 93, o 95 (.bin .eql (q 94) (.const (.string ⟨#[]⟩)) (some .string)), oM 96 95, og 97 (.fieldAddr 1 (q 5)) 96 true, og 98 (.load false 1 (q 97)) 96 true, og 99 (.bin .geq (q 98) (kI 0) tI) 96 true, o 100 (.pick (q 96) (q 99) kF), oM 101 100, og 102 (.fieldAddr 1 (q 5)) 101 true, og 103 (.load false 1 (q 102)) 101 true, og 104 (.fieldAddr 4 (q 7)) 101 true, og 105 (.load false 1 (q 104)) 101 true, og 106 (.len 1 (q 105)) 101 true, og 107 (.bin .lss (q 103) (q 106) tI) 101 true, o 108 (.pick (q 101) (q 107) kF), oM 109 108, og 110 (.fieldAddr 3 (q 5)) 109 true, og 111 (.load false 1 (q 110)) 109 true, og 112 (.len 1 (q 111)) 109 true, og 113 (.bin .eql (q 112) (kI 1) tI) 109 true, o 114 (.pick (q 109) (q 113) kF), oM 115 114, og 116 (.mov (q 0)) 115 true, og 117 (.fieldAddr 4 (q 7)) 115 true, og 118 (.load false 1 (q 117)) 115 true, og 119 (.fieldAddr 1 (q 5)) 115 true, og 120 (.load false 1 (q 119)) 115 true, og 121 (.indexAddr 7 (q 118) (q 120)) 115 true, og 122 (.load true 7 (q 121)) 115 true, og 123 (.fieldAddr 3 (q 5)) 115 true, og 124 (.load false 1 (q 123)) 115 true, og 125 (.indexAddr 4 (q 124) (kI 0)) 115 true, og 126 (.load true 4 (q 125)) 115 true, og 127 (.call 89 [.tmp 116, .tmp 122, .tmp 126]) 115 true, o 128 (.pick (q 115) (q 127) kF), oM 6 128]
  .ret)
  (.seq (sQ [o 130 (.bin .eql (q 69) (kI 15) tI), oM 129 130]
  (.cond (q 129)
  .skip
  (sQ [o 131 (.bin .eql (q 69) (kI 16) tI), oM 129 131]
  (.cond (q 129)
  .skip
  (.ops [o 132 (.bin .eql (q 69) (kI 17) tI), oM 129 132])))))
  (.cond (q 129)
  (sQ [oA 133 1 5, oL 134 133, o 135 (.bin .eql (q 134) (kI 0) tI), oM 136 135, og 137 (.fieldAddr 2 (q 5)) 136 true, og 138 (.load false 1 (q 137)) 136 true, ⟨some 139, .bin .eql (q 138) (.const (.string ⟨#[]⟩)) (some .string), some (136, true)⟩, o 140 (.pick (q 136) (q 139) kF), oM 141 140, og 142 (.mov (q 0)) 141 true, og 143 (.load true 5 (q 7)) 141 true, og 144 (.fieldAddr 3 (q 5)) 141 true, og 145 (.load false 1 (q 144)) 141 true, og 146 (.call 109 [.tmp 142, .tmp 143, .tmp 145]) 141 true, o 147 (.pick (q 141) (q 146) kF), oM 6 147]
  .ret)
  (.seq (sQ [o 149 (.bin .eql (q 69) (kI 12) tI), oM 148 149]
  (.cond (q 148)
  .skip
  (sQ [o 150 (.bin .eql (q 69) (kI 13) tI), oM 148 150]
  (.cond (q 148)
  .skip
  (.ops [o 151 (.bin .eql (q 69) (kI 14) tI), oM 148 151])))))
  (.cond (q 148)
  (sQ [oA 152 1 5, oL 153 152, o 154 (.bin .eql (q 153) (kI 0) tI), oM 155 154, og 156 (.fieldAddr 3 (q 5)) 155 true, og 157 (.load false 1 (q 156)) 155 true, og 158 (.len 1 (q 157)) 155 true, og 159 (.bin .eql (q 158) (kI 0) tI) 155 true, o 160 (.pick (q 155) (q 159) kF), oM 161 160, og 162 (.fieldAddr 0 (q 7)) 161 true, og 163 (.load false 1 (q 162)) 161 true, og 164 (.bin .neq (q 163) (kI 12) tI) 161 true, og 165 (.mov (q 164)) 161 true, og 166 (.fieldAddr 2 (q 5)) 165 false, og 167 (.load false 1 (q 166)) 165 false, og 168 (.call 110 [.tmp 167]) 165 false, og 169 (.pick (q 165) kT (q 168)) 161 true, o 170 (.pick (q 161) (q 169) kF), oM 171 170, og 172 (.fieldAddr 0 (q 7)) 171 true, og 173 (.load false 1 (q 172)) 171 true, og 174 (.bin .neq (q 173) (kI 14) tI) 171 true, og 175 (.mov (q 174)) 171 true, og 176 (.fieldAddr 2 (q 5)) 175 false, og 177 (.load false 1 (q 176)) 175 false, og 178 (.len 0 (q 177)) 175 false, og 179 (.fieldAddr 1 (q 7)) 175 false, og 180 (.load false 1 (q 179)) 175 false, og 181 (.bin .eql (q 178) (q 180) tI) 175 false, og 182 (.pick (q 175) kT (q 181)) 171 true, o 183 (.pick (q 171) (q 182) kF), oM 6 183]
  .ret)
  .skip))))))))))
  (.seq (sQ [oA 184 2 5, oL 185 184, o 186 (.bin .neq (q 185) (.const (.string ⟨#[]⟩)) (some .string)), oM 187 186, og 188 (.fieldAddr 3 (q 5)) 187 false, og 189 (.load false 1 (q 188)) 187 false, og 190 (.len 1 (q 189)) 187 false, og 191 (.bin .gtr (q 190) (kI 0) tI) 187 false, o 192 (.pick (q 187) kT (q 191))]
  (.cond (q 192)
  (sQ [o 6 (.mov kF)]
  .ret)
  .skip))
  (.seq (.block 1 (sQ [oA 194 0 7, oL 195 194, o 196 (.bin .eql (q 195) (kI 2) tI), oM 193 196]
  (.cond (q 193)
  (sQ [oA 197 1 5, oL 198 197, o 199 (.bin .eql (q 198) (kI 0) tI), oM 200 199, og 201 (.fieldAddr 1 (q 5)) 200 false, og 202 (.load false 1 (q 201)) 200 false, og 203 (.bin .eql (q 202) (kI 1) tI) 200 false, o 204 (.pick (q 200) kT (q 203)), oM 6 204]
  .ret)
  (sQ [oA 206 0 7, oL 207 206, o 208 (.bin .eql (q 207) (kI 11) tI), oM 205 208]
  (.cond (q 205)
  (sQ [o 6 (.mov kT)]
  .ret)
  .skip)))))
  (sQ [oA 209 0 7, oL 210 209, o 211 (.call 111 [.tmp 210]), oM 212 211, og 213 (.fieldAddr 0 (q 7)) 212 true, og 214 (.load false 1 (q 213)) 212 true, og 215 (.fieldAddr 1 (q 5)) 212 true, og 216 (.load false 1 (q 215)) 212 true, og 217 (.call 112 [.tmp 214, .tmp 216]) 212 true, o 218 (.pick (q 212) (q 217) kF), oM 6 218]
  .ret))))))))))⟩
theorem F89_ok : compF Tryz.prog 89 = some F89 := by kernel_rfl
/-- cmp.Compare[uint64] -/
def F90 : FC := ⟨20, [.tmp 4],
  (sQ [o 4 (.mov (kI 0))]
  (sQ [oM 7 0, o 8 (.call 113 [.tmp 7]), oM 5 8]
  (sQ [oM 9 1, o 10 (.call 113 [.tmp 9]), oM 6 10]
  (.seq (sQ [oM 11 5]
  (.cond (q 11)
  (.seq (sQ [oM 12 6]
  (.cond (q 12)
  (sQ [o 4 (.mov (kI 0))]
  .ret)
  .skip))
  (sQ [o 4 (.mov (kI (-1)))]
  .ret))
  .skip))
  (.seq (sQ [oM 13 6]
  (.cond (q 13)
  (sQ [o 4 (.mov (kI 1))]
  .ret)
  .skip))
  (.seq (sQ [oM 14 0, oM 15 1, o 16 (.bin .lss (q 14) (q 15) (some (.int .u64)))]
  (.cond (q 16)
  (sQ [o 4 (.mov (kI (-1)))]
  .ret)
  .skip))
  (.seq (sQ [oM 17 0, oM 18 1, o 19 (.bin .gtr (q 17) (q 18) (some (.int .u64)))]
  (.cond (q 19)
  (sQ [o 4 (.mov (kI 1))]
  .ret)
  .skip))
  (sQ [o 4 (.mov (kI 0))]
  .ret))))))))⟩
theorem F90_ok : compF Tryz.prog 90 = some F90 := by kernel_rfl
/-- colonnade/value.total -/
def F91 : FC := ⟨11, [.tmp 2],
  (sQ [o 2 (.mov (.const (.int .u64 0)))]
  (.seq (sQ [oM 3 0, o 4 (.bin .lss (q 3) (kI 0) tI)]
  (.cond (q 4)
  (sQ [oM 5 0, o 6 (.conv .u64 (q 5)), o 7 (.un .xor (q 6)), oM 2 7]
  .ret)
  .skip))
  (sQ [oM 8 0, o 9 (.conv .u64 (q 8)), o 10 (.bin .or (q 9) (.const (.int .u64 9223372036854775808)) (some (.int .u64))), oM 2 10]
  .ret)))⟩
theorem F91_ok : compF Tryz.prog 91 = some F91 := by kernel_rfl
/-- cmp.Compare[int64] -/
def F92 : FC := ⟨20, [.tmp 4],
  (sQ [o 4 (.mov (kI 0))]
  (sQ [oM 7 0, o 8 (.call 114 [.tmp 7]), oM 5 8]
  (sQ [oM 9 1, o 10 (.call 114 [.tmp 9]), oM 6 10]
  (.seq (sQ [oM 11 5]
  (.cond (q 11)
  (.seq (sQ [oM 12 6]
  (.cond (q 12)
  (sQ [o 4 (.mov (kI 0))]
  .ret)
  .skip))
  (sQ [o 4 (.mov (kI (-1)))]
  .ret))
  .skip))
  (.seq (sQ [oM 13 6]
  (.cond (q 13)
  (sQ [o 4 (.mov (kI 1))]
  .ret)
  .skip))
  (.seq (sQ [oM 14 0, oM 15 1, o 16 (.bin .lss (q 14) (q 15) tI)]
  (.cond (q 16)
  (sQ [o 4 (.mov (kI (-1)))]
  .ret)
  .skip))
  (.seq (sQ [oM 17 0, oM 18 1, o 19 (.bin .gtr (q 17) (q 18) tI)]
  (.cond (q 19)
  (sQ [o 4 (.mov (kI 1))]
  .ret)
  .skip))
  (sQ [o 4 (.mov (kI 0))]
  .ret))))))))⟩
theorem F92_ok : compF Tryz.prog 92 = some F92 := by kernel_rfl
/-- cmp.Compare[int] -/
def F93 : FC := ⟨20, [.tmp 4],
  (sQ [o 4 (.mov (kI 0))]
  (sQ [oM 7 0, o 8 (.call 115 [.tmp 7]), oM 5 8]
  (sQ [oM 9 1, o 10 (.call 115 [.tmp 9]), oM 6 10]
  (.seq (sQ [oM 11 5]
  (.cond (q 11)
  (.seq (sQ [oM 12 6]
  (.cond (q 12)
  (sQ [o 4 (.mov (kI 0))]
  .ret)
  .skip))
  (sQ [o 4 (.mov (kI (-1)))]
  .ret))
  .skip))
  (.seq (sQ [oM 13 6]
  (.cond (q 13)
  (sQ [o 4 (.mov (kI 1))]
  .ret)
  .skip))
  (.seq (sQ [oM 14 0, oM 15 1, o 16 (.bin .lss (q 14) (q 15) tI)]
  (.cond (q 16)
  (sQ [o 4 (.mov (kI (-1)))]
  .ret)
  .skip))
  (.seq (sQ [oM 17 0, oM 18 1, o 19 (.bin .gtr (q 17) (q 18) tI)]
  (.cond (q 19)
  (sQ [o 4 (.mov (kI 1))]
  .ret)
  .skip))
  (sQ [o 4 (.mov (kI 0))]
  .ret))))))))⟩
theorem F93_ok : compF Tryz.prog 93 = some F93 := by kernel_rfl
/-- colonnade/colonnaderef04.Weight -/
def F94 : FC := ⟨52, [.tmp 4],
  (sQ [o 2 (.box (q 0)), o 4 (.mov (kI 0))]
  (sQ [o 5 (.mov (kI 16))]
  (.seq (sQ [oA 8 2 2, oL 9 8, o 10 (.len 0 (q 9)), oM 11 1, oM 12 5, o 13 (.bin .sub (q 11) (q 12) tI), o 14 (.bin .gtr (q 10) (q 13) tI)]
  (.cond (q 14)
  (sQ [oM 15 1, o 16 (.bin .add (q 15) (kI 1) tI), oM 4 16]
  .ret)
  .skip))
  (sQ [oM 17 5, oA 18 2 2, oL 19 18, o 20 (.len 0 (q 19)), o 21 (.bin .add (q 17) (q 20) tI), oM 5 21]
  (.seq (sQ [o 6 (.mov (kI 0))]
  (.block 0 (.loop (.seq (sQ [oM 22 6, oA 23 3 2, oL 24 23, o 25 (.len 1 (q 24)), o 26 (.bin .lss (q 22) (q 25) tI)]
  (.cond (q 26)
  .skip
  (.exit 0)))
  (.seq (.block 1 (.seq (sQ [oM 29 5, oM 30 1, o 31 (.bin .gtr (q 29) (q 30) tI)]
  (.cond (q 31)
  (sQ [oM 32 1, o 33 (.bin .add (q 32) (kI 1) tI), oM 4 33]
  .ret)
  .skip))
  (sQ [oA 34 3 2, oL 35 34, oM 36 6, o 37 (.indexAddr 4 (q 35) (q 36)), o 38 (.load true 4 (q 37)), oM 39 1, oM 40 5, o 41 (.bin .sub (q 39) (q 40) tI), o 42 (.call 94 [.tmp 38, .tmp 41]), oM 7 42]
  (.ops [oM 43 5, oM 44 7, o 45 (.bin .add (q 43) (q 44) tI), oM 5 45]))))
  (.ops [oM 27 6, o 28 (.bin .add (q 27) (kI 1) tI), oM 6 28]))))))
  (.seq (sQ [oM 46 5, oM 47 1, o 48 (.bin .gtr (q 46) (q 47) tI)]
  (.cond (q 48)
  (sQ [oM 49 1, o 50 (.bin .add (q 49) (kI 1) tI), oM 4 50]
  .ret)
  .skip))
  (sQ [oM 51 5, oM 4 51]
  .ret)))))))⟩
theorem F94_ok : compF Tryz.prog 94 = some F94 := by kernel_rfl
/-- colonnade/colonnaderef04.fits -/
def F95 : FC := ⟨127, [.tmp 4],
  (sQ [o 2 (.box (q 0)), o 3 (.box (q 1)), o 4 (.mov kF)]
  (sQ [oA 9 2 2, o 10 (.load true 5 (q 9)), o 5 (.alloc [.int .i64 0, .int .i64 0, .int .i64 0, .int .i64 0, .slice none 0 0]), oS 5 5 10]
  (.seq (sQ [oA 11 0 3, oL 12 11]
  (.cond (q 12)
  (sQ [o 13 (.load true 7 (q 2)), o 14 (.call 116 [.tmp 13]), oM 6 14]
  (sQ [oM 15 6, oM 16 15, og 17 (.fieldAddr 1 (q 3)) 16 true, og 18 (.load false 1 (q 17)) 16 true, og 19 (.bin .eql (q 18) (kI 0) tI) 16 true, o 20 (.pick (q 16) (q 19) kF), oM 21 20, og 22 (.fieldAddr 2 (q 3)) 21 true, og 23 (.load false 1 (q 22)) 21 true, ⟨some 24, .bin .eql (q 23) (.const (.string ⟨#[]⟩)) (some .string), some (21, true)⟩, o 25 (.pick (q 21) (q 24) kF), oM 26 25, og 27 (.fieldAddr 3 (q 3)) 26 true, og 28 (.load false 1 (q 27)) 26 true, og 29 (.len 1 (q 28)) 26 true, og 30 (.bin .eql (q 29) (kI 0) tI) 26 true, o 31 (.pick (q 26) (q 30) kF), oM 4 31]
  .ret))
  .skip))
  (sQ [oA 32 0 5, oL 33 32, o 34 (.call 117 [.tmp 33]), oM 7 34]
  (.seq (.block 0 (sQ [oM 36 7, oM 35 36]
  (.cond (q 35)
  (sQ [oA 37 0 5, oL 38 37, oA 39 1 3, oL 40 39, o 41 (.call 118 [.tmp 38, .tmp 40]), oM 42 41, og 43 (.fieldAddr 2 (q 3)) 42 true, og 44 (.load false 1 (q 43)) 42 true, ⟨some 45, .bin .eql (q 44) (.const (.string ⟨#[]⟩)) (some .string), some (42, true)⟩, o 46 (.pick (q 42) (q 45) kF), oM 47 46, og 48 (.fieldAddr 3 (q 3)) 47 true, og 49 (.load false 1 (q 48)) 47 true, og 50 (.len 1 (q 49)) 47 true, og 51 (.bin .eql (q 50) (kI 0) tI) 47 true, o 52 (.pick (q 47) (q 51) kF), oM 4 52]
  .ret)
  (sQ [oA 54 0 5, oL 55 54, o 56 (.bin .eql (q 55) (kI 12) tI), oM 53 56]
  (.cond (q 53)
  (sQ [oA 57 2 3, oL 58 57, o 59 (.call 119 [.tmp 58]), oM 8 59]
  (sQ [oM 60 8, oM 61 60, og 62 (.fieldAddr 1 (q 3)) 61 true, og 63 (.load false 1 (q 62)) 61 true, og 64 (.bin .eql (q 63) (kI 0) tI) 61 true, o 65 (.pick (q 61) (q 64) kF), oM 66 65, og 67 (.fieldAddr 3 (q 3)) 66 true, og 68 (.load false 1 (q 67)) 66 true, og 69 (.len 1 (q 68)) 66 true, og 70 (.bin .eql (q 69) (kI 0) tI) 66 true, o 71 (.pick (q 66) (q 70) kF), oM 4 71]
  .ret))
  (sQ [oA 73 0 5, oL 74 73, o 75 (.bin .eql (q 74) (kI 13) tI), oM 72 75]
  (.cond (q 72)
  (sQ [oA 76 1 3, oL 77 76, o 78 (.bin .eql (q 77) (kI 0) tI), oM 79 78, og 80 (.fieldAddr 3 (q 3)) 79 true, og 81 (.load false 1 (q 80)) 79 true, og 82 (.len 1 (q 81)) 79 true, og 83 (.bin .eql (q 82) (kI 0) tI) 79 true, o 84 (.pick (q 79) (q 83) kF), oM 4 84]
  .ret)
  (sQ [oA 86 0 5, oL 87 86, o 88 (.bin .eql (q 87) (kI 14) tI), oM 85 88]
  (.cond (q 85)
  (sQ [oA 89 1 3, oL 90 89, o 91 (.bin .eql (q 90) (kI 0) tI), oM 92 91, og 93 (.fieldAddr 3 (q 3)) 92 true, og 94 (.load false 1 (q 93)) 92 true, og 95 (.len 1 (q 94)) 92 true, og 96 (.bin .eql (q 95) (kI 0) tI) 92 true, o 97 (.pick (q 92) (q 96) kF), oM 98 97, og 99 (.fieldAddr 2 (q 3)) 98 true, og 100 (.load false 1 (q 99)) 98 true, og 101 (.len 0 (q 100)) 98 true, og 102 (.fieldAddr 1 (q 5)) 98 true, og 103 (.load false 1 (q 102)) 98 true, og 104 (.bin .eql (q 101) (q 103) tI) 98 true, o 105 (.pick (q 98) (q 104) kF), oM 4 105]
  .ret)
  (.seq (sQ [oA 107 0 5, oL 108 107, o 109 (.bin .eql (q 108) (kI 19) tI), oM 106 109]
  (.cond (q 106)
  .skip
  (.ops [oA 110 0 5, oL 111 110, o 112 (.bin .eql (q 111) (kI 20) tI), oM 106 112])))
  (.cond (q 106)
  (sQ [oA 113 4 5, oL 114 113, o 115 (.indexAddr 7 (q 114) (kI 0)), o 116 (.load true 7 (q 115)), o 117 (.load true 4 (q 3)), o 118 (.call 95 [.tmp 116, .tmp 117]), oM 4 118]
  .ret)
  .skip)))))))))))
  (sQ [oA 119 2 3, oL 120 119, o 121 (.bin .eql (q 120) (.const (.string ⟨#[]⟩)) (some .string)), oM 122 121, og 123 (.load true 5 (q 5)) 122 true, og 124 (.load true 4 (q 3)) 122 true, og 125 (.call 120 [.tmp 123, .tmp 124]) 122 true, o 126 (.pick (q 122) (q 125) kF), oM 4 126]
  .ret))))))⟩
theorem F95_ok : compF Tryz.prog 95 = some F95 := by kernel_rfl
/-- colonnade/array.check -/
def F97 : FC := ⟨92, [.cell 4 true 3, .tmp 5],
  (sQ [o 2 (.box (q 0)), o 3 (.box (q 1)), o 4 (.alloc [.int .i64 0, .slice none 0 0, .int .i64 0]), o 5 (.mov (.const (.slice none 0 0)))]
  (.seq (sQ [o 18 (.load true 7 (q 2)), o 19 (.load true 6 (q 3)), o 20 (.call 121 [.tmp 18, .tmp 19]), o 6 (.alloc [.int .i64 0, .slice none 0 0, .int .i64 0]), oS 3 6 20]
  (sQ [oA 21 0 6, oL 22 21, o 23 (.bin .neq (q 22) (kI 0) tI)]
  (.cond (q 23)
  (sQ [o 24 (.load true 3 (q 6)), oS 3 4 24, o 5 (.mov (.const (.slice none 0 0)))]
  .ret)
  .skip)))
  (.seq (sQ [o 25 (.load true 7 (q 2)), o 26 (.load true 6 (q 3)), o 27 (.call 122 [.tmp 25, .tmp 26]), o 7 (.alloc [.int .i64 0, .slice none 0 0, .int .i64 0]), oS 3 7 27]
  (sQ [oA 28 0 7, oL 29 28, o 30 (.bin .neq (q 29) (kI 0) tI)]
  (.cond (q 30)
  (sQ [o 31 (.load true 3 (q 7)), oS 3 4 31, o 5 (.mov (.const (.slice none 0 0)))]
  .ret)
  .skip)))
  (sQ [o 8 (.mov (.const (.slice none 0 0)))]
  (.seq (sQ [o 32 (.load true 6 (q 3)), o 33 (.call 123 [.tmp 32]), o 34 (.len 1 (q 33)), o 35 (.mov (kI 0))]
  (.block 0 (.loop (sQ [o 36 (.bin .lss (q 35) (q 34) tI)]
  (.seq (.cond (q 36)
  .skip
  (.exit 0))
  (.seq (.block 1 (sQ [oM 37 35, o 38 (.indexAddr 6 (q 33) (q 35)), o 39 (.load true 6 (q 38)), o 10 (.alloc [.int .i64 0, .int .i64 0, .int .i64 0, .slice none 0 0, .slice none 0 0, .slice none 0 0]), oM 9 37, oS 6 10 39]
  (sQ [o 41 (.load true 7 (q 2)), oM 42 9, o 44 (.load true 6 (q 10)), o 43 (.call 124 [.tmp 41, .tmp 42]), ⟨none, .again 44 true 6 (q 10), none⟩, o 45 (.call 97 [.tmp 43, .tmp 44]), oM 40 45, o 46 (.extract (q 40) 0), o 47 (.extract (q 40) 1), o 11 (.alloc [.int .i64 0, .slice none 0 0, .int .i64 0]), oS 3 11 46, oM 12 47]
  (.seq (sQ [oA 48 0 11, oL 49 48, o 50 (.bin .neq (q 49) (kI 0) tI)]
  (.cond (q 50)
  (sQ [oM 51 9, o 52 (.buildSlice 1 1 [.int .i64 0] [(0, 1, (q 51))]), oA 53 1 11, oL 54 53, o 55 (.append 1 8 (q 52) (q 54)), oA 56 1 11, oS 1 56 55]
  (sQ [o 57 (.load true 3 (q 11)), oS 3 4 57, o 5 (.mov (.const (.slice none 0 0)))]
  .ret))
  .skip))
  (.ops [oM 58 8, oM 59 12, o 60 (.buildSlice 1 1 [.slice none 0 0] [(0, 1, (q 59))]), o 61 (.append 1 24 (q 58) (q 60)), oM 8 61])))))
  (.ops [o 62 (.bin .add (q 35) (kI 1) tI), oM 35 62])))))))
  (.seq (sQ [oA 63 2 2, oA 64 0 63, oL 65 64, o 66 (.bin .eql (q 65) (kI 20) tI)]
  (.cond (q 66)
  (sQ [o 67 (.load true 6 (q 3)), o 68 (.call 125 [.tmp 67]), o 13 (.alloc [.int .i64 0, .slice none 0 0, .int .i64 0]), oS 3 13 68]
  (sQ [oA 69 0 13, oL 70 69, o 71 (.bin .neq (q 70) (kI 0) tI)]
  (.cond (q 71)
  (sQ [o 72 (.load true 3 (q 13)), oS 3 4 72, o 5 (.mov (.const (.slice none 0 0)))]
  .ret)
  .skip)))
  .skip))
  (sQ [o 73 (.load true 7 (q 2)), o 74 (.load true 6 (q 3)), oM 75 8, o 76 (.call 126 [.tmp 73, .tmp 74, .tmp 75]), oM 14 76]
  (sQ [o 15 (.mov (kI 0))]
  (.seq (sQ [oM 77 14, o 78 (.len 1 (q 77)), o 79 (.mov (kI 0))]
  (.block 2 (.loop (sQ [o 80 (.bin .lss (q 79) (q 78) tI)]
  (.seq (.cond (q 80)
  .skip
  (.exit 2))
  (.seq (.block 3 (sQ [o 81 (.indexAddr 1 (q 77) (q 79)), oL 82 81, oM 17 82]
  (.ops [oM 83 15, oM 84 17, o 85 (.bin .add (q 83) (q 84) tI), oM 15 85])))
  (.ops [o 86 (.bin .add (q 79) (kI 1) tI), oM 79 86])))))))
  (.seq (sQ [oM 87 15, o 88 (.bin .gtr (q 87) (kI 4194304) tI)]
  (.cond (q 88)
  (sQ [o 89 (.call 96 [(kI 3), (kI 1)]), oS 3 4 89, o 5 (.mov (.const (.slice none 0 0)))]
  .ret)
  .skip))
  (sQ [o 90 (.build [.int .i64 0, .slice none 0 0, .int .i64 0] []), oM 91 14, oS 3 4 90, oM 5 91]
  .ret)))))))))))⟩
theorem F97_ok : compF Tryz.prog 97 = some F97 := by kernel_rfl
/-- colonnade/array.familyOf -/
def F98 : FC := ⟨32, [.tmp 2],
  (sQ [o 2 (.mov (.const .nilIface))]
  (.seq (sQ [oM 3 0]
  (.block 0 (.seq (sQ [o 5 (.bin .eql (q 3) (kI 12) tI), oM 4 5]
  (.cond (q 4)
  .skip
  (.ops [o 6 (.bin .eql (q 3) (kI 13) tI), oM 4 6])))
  (.cond (q 4)
  (sQ [o 7 (.build [] []), o 8 (.mkIface 171 (q 7)), oM 2 8]
  .ret)
  (.seq (sQ [o 10 (.bin .eql (q 3) (kI 15) tI), oM 9 10]
  (.cond (q 9)
  .skip
  (.ops [o 11 (.bin .eql (q 3) (kI 16) tI), oM 9 11])))
  (.cond (q 9)
  (sQ [o 12 (.build [] []), o 13 (.mkIface 172 (q 12)), oM 2 13]
  .ret)
  (sQ [o 15 (.bin .eql (q 3) (kI 17) tI), oM 14 15]
  (.cond (q 14)
  (sQ [o 16 (.build [] []), o 17 (.mkIface 173 (q 16)), oM 2 17]
  .ret)
  (sQ [o 19 (.bin .eql (q 3) (kI 18) tI), oM 18 19]
  (.cond (q 18)
  (sQ [o 20 (.build [] []), o 21 (.mkIface 174 (q 20)), oM 2 21]
  .ret)
  (sQ [o 23 (.bin .eql (q 3) (kI 19) tI), oM 22 23]
  (.cond (q 22)
  (sQ [o 24 (.build [] []), o 25 (.mkIface 175 (q 24)), oM 2 25]
  .ret)
  (sQ [o 27 (.bin .eql (q 3) (kI 20) tI), oM 26 27]
  (.cond (q 26)
  (sQ [o 28 (.build [] []), o 29 (.mkIface 176 (q 28)), oM 2 29]
  .ret)
  .skip))))))))))))))
  (sQ [o 30 (.build [] []), o 31 (.mkIface 177 (q 30)), oM 2 31]
  .ret)))⟩
theorem F98_ok : compF Tryz.prog 98 = some F98 := by kernel_rfl
/-- slices.Clone[[]colonnade/api.Field,colonnade/api.Field] -/
def F99 : FC := ⟨8, [.tmp 2],
  (sQ [o 2 (.mov (.const (.slice none 0 0)))]
  (.seq (sQ [oM 3 0, o 4 (.bin .eql (q 3) (.const (.slice none 0 0)) (some (.slice 26)))]
  (.cond (q 4)
  (sQ [o 2 (.mov (.const (.slice none 0 0)))]
  .ret)
  .skip))
  (sQ [o 5 (.buildSlice 7 0 [] []), oM 6 0, o 7 (.append 7 80 (q 5) (q 6)), oM 2 7]
  .ret)))⟩
theorem F99_ok : compF Tryz.prog 99 = some F99 := by kernel_rfl
/-- slices.Clone[[][]byte,[]byte] -/
def F100 : FC := ⟨8, [.tmp 2],
  (sQ [o 2 (.mov (.const (.slice none 0 0)))]
  (.seq (sQ [oM 3 0, o 4 (.bin .eql (q 3) (.const (.slice none 0 0)) (some (.slice 42)))]
  (.cond (q 4)
  (sQ [o 2 (.mov (.const (.slice none 0 0)))]
  .ret)
  .skip))
  (sQ [o 5 (.buildSlice 1 0 [] []), oM 6 0, o 7 (.append 1 24 (q 5) (q 6)), oM 2 7]
  .ret)))⟩
theorem F100_ok : compF Tryz.prog 100 = some F100 := by kernel_rfl
/-- colonnade/array.copiedList -/
def F101 : FC := ⟨19, [.tmp 2],
  (sQ [o 2 (.mov (.const (.slice none 0 0)))]
  (sQ [o 3 (.mov (.const (.slice none 0 0)))]
  (.seq (sQ [oM 6 0, o 7 (.len 1 (q 6)), o 8 (.mov (kI 0))]
  (.block 0 (.loop (sQ [o 9 (.bin .lss (q 8) (q 7) tI)]
  (.seq (.cond (q 9)
  .skip
  (.exit 0))
  (.seq (.block 1 (sQ [o 10 (.indexAddr 6 (q 6) (q 8)), o 11 (.load true 6 (q 10)), o 5 (.alloc [.int .i64 0, .int .i64 0, .int .i64 0, .slice none 0 0, .slice none 0 0, .slice none 0 0]), oS 6 5 11]
  (.ops [oM 12 3, o 13 (.load true 6 (q 5)), o 14 (.call 74 [.tmp 13]), o 15 (.buildSlice 6 1 [.int .i64 0, .int .i64 0, .int .i64 0, .slice none 0 0, .slice none 0 0, .slice none 0 0] [(0, 6, (q 14))]), o 16 (.append 6 96 (q 12) (q 15)), oM 3 16])))
  (.ops [o 17 (.bin .add (q 8) (kI 1) tI), oM 8 17])))))))
  (sQ [oM 18 3, oM 2 18]
  .ret))))⟩
theorem F101_ok : compF Tryz.prog 101 = some F101 := by kernel_rfl
/-- (*colonnade/array.Array).own -/
def F103 : FC := ⟨16, [.cell 6 true 4],
  (sQ [o 6 (.alloc zcZ)]
  (sQ [oM 7 0, oM 8 0, o 9 (.nilCheck (q 8)), oA 10 13 9, oL 11 10, oM 12 1, o 13 (.bin .add (q 11) (q 12) tI), oM 14 2, o 15 (.call 127 [.tmp 7, .tmp 13, .tmp 14]), oS 4 6 15]
  .ret))⟩
theorem F103_ok : compF Tryz.prog 103 = some F103 := by kernel_rfl
/-- colonnade/colonnaderef03.letter -/
def F104 : FC := ⟨29, [.tmp 2],
  (sQ [o 2 (.mov kF)]
  (sQ [oM 3 0, o 4 (.bin .geq (q 3) (.const (.int .u8 97)) (some (.int .u8))), oM 5 4, og 6 (.mov (q 0)) 5 true, og 7 (.bin .leq (q 6) (.const (.int .u8 122)) (some (.int .u8))) 5 true, o 8 (.pick (q 5) (q 7) kF), oM 9 8, og 10 (.mov (q 0)) 9 false, og 11 (.bin .geq (q 10) (.const (.int .u8 65)) (some (.int .u8))) 9 false, og 12 (.mov (q 11)) 9 false, og 13 (.mov (q 0)) 12 true, og 14 (.bin .leq (q 13) (.const (.int .u8 90)) (some (.int .u8))) 12 true, og 15 (.pick (q 12) (q 14) kF) 9 false, o 16 (.pick (q 9) kT (q 15)), oM 17 16, og 18 (.mov (q 0)) 17 false, og 19 (.bin .geq (q 18) (.const (.int .u8 48)) (some (.int .u8))) 17 false, og 20 (.mov (q 19)) 17 false, og 21 (.mov (q 0)) 20 true, og 22 (.bin .leq (q 21) (.const (.int .u8 57)) (some (.int .u8))) 20 true, og 23 (.pick (q 20) (q 22) kF) 17 false, o 24 (.pick (q 17) kT (q 23)), oM 25 24, og 26 (.mov (q 0)) 25 false, og 27 (.bin .eql (q 26) (.const (.int .u8 95)) (some (.int .u8))) 25 false, o 28 (.pick (q 25) kT (q 27)), oM 2 28]
  .ret))⟩
theorem F104_ok : compF Tryz.prog 104 = some F104 := by kernel_rfl
/-- colonnade/kind.letter -/
def F105 : FC := ⟨29, [.tmp 2],
  (sQ [o 2 (.mov kF)]
  (sQ [oM 3 0, o 4 (.bin .geq (q 3) (.const (.int .u8 97)) (some (.int .u8))), oM 5 4, og 6 (.mov (q 0)) 5 true, og 7 (.bin .leq (q 6) (.const (.int .u8 122)) (some (.int .u8))) 5 true, o 8 (.pick (q 5) (q 7) kF), oM 9 8, og 10 (.mov (q 0)) 9 false, og 11 (.bin .geq (q 10) (.const (.int .u8 65)) (some (.int .u8))) 9 false, og 12 (.mov (q 11)) 9 false, og 13 (.mov (q 0)) 12 true, og 14 (.bin .leq (q 13) (.const (.int .u8 90)) (some (.int .u8))) 12 true, og 15 (.pick (q 12) (q 14) kF) 9 false, o 16 (.pick (q 9) kT (q 15)), oM 17 16, og 18 (.mov (q 0)) 17 false, og 19 (.bin .geq (q 18) (.const (.int .u8 48)) (some (.int .u8))) 17 false, og 20 (.mov (q 19)) 17 false, og 21 (.mov (q 0)) 20 true, og 22 (.bin .leq (q 21) (.const (.int .u8 57)) (some (.int .u8))) 20 true, og 23 (.pick (q 20) (q 22) kF) 17 false, o 24 (.pick (q 17) kT (q 23)), oM 25 24, og 26 (.mov (q 0)) 25 false, og 27 (.bin .eql (q 26) (.const (.int .u8 95)) (some (.int .u8))) 25 false, o 28 (.pick (q 25) kT (q 27)), oM 2 28]
  .ret))⟩
theorem F105_ok : compF Tryz.prog 105 = some F105 := by kernel_rfl
/-- slices.IndexFunc[[]colonnade/api.Field,colonnade/api.Field] -/
def F106 : FC := ⟨19, [.tmp 4],
  (sQ [o 4 (.mov (kI 0))]
  (.seq (sQ [oM 6 0, o 7 (.len 1 (q 6)), o 8 (.mov (kI 0))]
  (.block 0 (.loop (sQ [o 9 (.bin .lss (q 8) (q 7) tI)]
  (.seq (.cond (q 9)
  .skip
  (.exit 0))
  (.seq (.block 1 (sQ [oM 10 8, oM 5 10]
  (sQ [oM 11 1, oM 12 0, oM 13 5, o 14 (.indexAddr 7 (q 12) (q 13)), o 15 (.load true 7 (q 14)), o 16 (.callv (q 11) [.tmp 15])]
  (.cond (q 16)
  (sQ [oM 17 5, oM 4 17]
  .ret)
  .skip))))
  (.ops [o 18 (.bin .add (q 8) (kI 1) tI), oM 8 18])))))))
  (sQ [o 4 (.mov (kI (-1)))]
  .ret)))⟩
theorem F106_ok : compF Tryz.prog 106 = some F106 := by kernel_rfl
/-- colonnade/kind.known -/
def F107 : FC := ⟨9, [.tmp 2],
  (sQ [o 2 (.mov kF)]
  (sQ [oM 3 0, o 4 (.bin .geq (q 3) (kI 1) tI), oM 5 4, og 6 (.mov (q 0)) 5 true, og 7 (.bin .leq (q 6) (kI 20) tI) 5 true, o 8 (.pick (q 5) (q 7) kF), oM 2 8]
  .ret))⟩
theorem F107_ok : compF Tryz.prog 107 = some F107 := by kernel_rfl
/-- colonnade/value.lets -/
def F108 : FC := ⟨27, [.tmp 2],
  (sQ [o 1 (.box (q 0)), o 2 (.mov kF)]
  (.seq (.block 0 (.loop (.seq (sQ [oA 3 2 1, oA 4 0 3, oL 5 4, o 6 (.bin .eql (q 5) (kI 20) tI), oM 7 6, og 8 (.fieldAddr 2 (q 1)) 7 true, og 9 (.fieldAddr 4 (q 8)) 7 true, og 10 (.load false 1 (q 9)) 7 true, og 11 (.len 1 (q 10)) 7 true, og 12 (.bin .eql (q 11) (kI 1) tI) 7 true, o 13 (.pick (q 7) (q 12) kF)]
  (.cond (q 13)
  .skip
  (.exit 0)))
  (.block 1 (.ops [oA 14 2 1, oA 15 4 14, oL 16 15, o 17 (.indexAddr 7 (q 16) (kI 0)), o 18 (.load true 7 (q 17)), oS 7 1 18])))))
  (sQ [oA 19 1 1, oL 20 19, oM 21 20, og 22 (.fieldAddr 2 (q 1)) 21 true, og 23 (.fieldAddr 0 (q 22)) 21 true, og 24 (.load false 1 (q 23)) 21 true, og 25 (.bin .neq (q 24) (kI 18) tI) 21 true, o 26 (.pick (q 21) (q 25) kF), oM 2 26]
  .ret)))⟩
theorem F108_ok : compF Tryz.prog 108 = some F108 := by kernel_rfl
/-- colonnade/value.whole -/
def F111 : FC := ⟨9, [.tmp 2],
  (sQ [o 2 (.mov kF)]
  (sQ [oM 3 0, o 4 (.bin .geq (q 3) (kI 3) tI), oM 5 4, og 6 (.mov (q 0)) 5 true, og 7 (.bin .leq (q 6) (kI 10) tI) 5 true, o 8 (.pick (q 5) (q 7) kF), oM 2 8]
  .ret))⟩
theorem F111_ok : compF Tryz.prog 111 = some F111 := by kernel_rfl
/-- colonnade/value.ranged -/
def F112 : FC := ⟨37, [.tmp 4],
  (sQ [o 4 (.mov kF)]
  (sQ [oM 8 0, o 9 (.call 129 [.tmp 8]), oM 7 9, o 10 (.extract (q 7) 0), o 11 (.extract (q 7) 1), oM 5 10, oM 6 11]
  (.seq (.block 0 (sQ [oM 13 5, o 14 (.bin .eql (q 13) (kI 64) tI), oM 12 14]
  (.cond (q 12)
  (sQ [o 4 (.mov kT)]
  .ret)
  (sQ [oM 16 6, oM 15 16]
  (.cond (q 15)
  (sQ [oM 17 1, oM 18 5, o 19 (.bin .sub (q 18) (kI 1) tI), o 20 (.bin .shl (kI (-1)) (q 19) tI), o 21 (.bin .geq (q 17) (q 20) tI), oM 22 21, og 23 (.mov (q 1)) 22 true, og 24 (.mov (q 5)) 22 true, og 25 (.bin .sub (q 24) (kI 1) tI) 22 true, og 26 (.bin .shl (kI 1) (q 25) tI) 22 true, og 27 (.bin .lss (q 23) (q 26) tI) 22 true, o 28 (.pick (q 22) (q 27) kF), oM 4 28]
  .ret)
  .skip)))))
  (sQ [oM 29 1, o 30 (.bin .geq (q 29) (kI 0) tI), oM 31 30, og 32 (.mov (q 1)) 31 true, og 33 (.mov (q 5)) 31 true, og 34 (.bin .shl (kI 1) (q 33) tI) 31 true, og 35 (.bin .lss (q 32) (q 34) tI) 31 true, o 36 (.pick (q 31) (q 35) kF), oM 4 36]
  .ret))))⟩
theorem F112_ok : compF Tryz.prog 112 = some F112 := by kernel_rfl
/-- cmp.isNaN[uint64] -/
def F113 : FC := ⟨6, [.tmp 2],
  (sQ [o 2 (.mov kF)]
  (sQ [oM 3 0, oM 4 0, o 5 (.bin .neq (q 3) (q 4) (some (.int .u64))), oM 2 5]
  .ret))⟩
theorem F113_ok : compF Tryz.prog 113 = some F113 := by kernel_rfl
/-- cmp.isNaN[int64] -/
def F114 : FC := ⟨6, [.tmp 2],
  (sQ [o 2 (.mov kF)]
  (sQ [oM 3 0, oM 4 0, o 5 (.bin .neq (q 3) (q 4) tI), oM 2 5]
  .ret))⟩
theorem F114_ok : compF Tryz.prog 114 = some F114 := by kernel_rfl
/-- cmp.isNaN[int] -/
def F115 : FC := ⟨6, [.tmp 2],
  (sQ [o 2 (.mov kF)]
  (sQ [oM 3 0, oM 4 0, o 5 (.bin .neq (q 3) (q 4) tI), oM 2 5]
  .ret))⟩
theorem F115_ok : compF Tryz.prog 115 = some F115 := by kernel_rfl
/-- colonnade/colonnaderef04.nullable -/
def F116 : FC := ⟨21, [.tmp 2],
  (sQ [o 1 (.box (q 0)), o 2 (.mov kF)]
  (.seq (sQ [oA 3 2 1, oA 4 0 3, oL 5 4, o 6 (.bin .eql (q 5) (kI 20) tI)]
  (.cond (q 6)
  (sQ [oA 7 2 1, oA 8 4 7, oL 9 8, o 10 (.indexAddr 7 (q 9) (kI 0)), o 11 (.load true 7 (q 10)), o 12 (.call 116 [.tmp 11]), oM 2 12]
  .ret)
  .skip))
  (sQ [oA 13 1 1, oL 14 13, oM 15 14, og 16 (.fieldAddr 2 (q 1)) 15 true, og 17 (.fieldAddr 0 (q 16)) 15 true, og 18 (.load false 1 (q 17)) 15 true, og 19 (.bin .neq (q 18) (kI 18) tI) 15 true, o 20 (.pick (q 15) (q 19) kF), oM 2 20]
  .ret)))⟩
theorem F116_ok : compF Tryz.prog 116 = some F116 := by kernel_rfl
/-- colonnade/colonnaderef04.Number -/
def F117 : FC := ⟨9, [.tmp 2],
  (sQ [o 2 (.mov kF)]
  (sQ [oM 3 0, o 4 (.bin .geq (q 3) (kI 2) tI), oM 5 4, og 6 (.mov (q 0)) 5 true, og 7 (.bin .leq (q 6) (kI 11) tI) 5 true, o 8 (.pick (q 5) (q 7) kF), oM 2 8]
  .ret))⟩
theorem F117_ok : compF Tryz.prog 117 = some F117 := by kernel_rfl
/-- colonnade/colonnaderef04.ranged -/
def F118 : FC := ⟨62, [.tmp 4],
  (sQ [o 4 (.mov kF)]
  (.seq (sQ [oM 5 0]
  (.block 0 (sQ [o 7 (.bin .eql (q 5) (kI 2) tI), oM 6 7]
  (.cond (q 6)
  (sQ [oM 8 1, o 9 (.bin .eql (q 8) (kI 0) tI), oM 10 9, og 11 (.mov (q 1)) 10 false, og 12 (.bin .eql (q 11) (kI 1) tI) 10 false, o 13 (.pick (q 10) kT (q 12)), oM 4 13]
  .ret)
  (sQ [o 15 (.bin .eql (q 5) (kI 3) tI), oM 14 15]
  (.cond (q 14)
  (sQ [oM 16 1, o 17 (.bin .geq (q 16) (kI (-128)) tI), oM 18 17, og 19 (.mov (q 1)) 18 true, og 20 (.bin .leq (q 19) (kI 127) tI) 18 true, o 21 (.pick (q 18) (q 20) kF), oM 4 21]
  .ret)
  (sQ [o 23 (.bin .eql (q 5) (kI 4) tI), oM 22 23]
  (.cond (q 22)
  (sQ [oM 24 1, o 25 (.bin .geq (q 24) (kI (-32768)) tI), oM 26 25, og 27 (.mov (q 1)) 26 true, og 28 (.bin .leq (q 27) (kI 32767) tI) 26 true, o 29 (.pick (q 26) (q 28) kF), oM 4 29]
  .ret)
  (sQ [o 31 (.bin .eql (q 5) (kI 5) tI), oM 30 31]
  (.cond (q 30)
  (sQ [oM 32 1, o 33 (.bin .geq (q 32) (kI (-2147483648)) tI), oM 34 33, og 35 (.mov (q 1)) 34 true, og 36 (.bin .leq (q 35) (kI 2147483647) tI) 34 true, o 37 (.pick (q 34) (q 36) kF), oM 4 37]
  .ret)
  (sQ [o 39 (.bin .eql (q 5) (kI 7) tI), oM 38 39]
  (.cond (q 38)
  (sQ [oM 40 1, o 41 (.bin .geq (q 40) (kI 0) tI), oM 42 41, og 43 (.mov (q 1)) 42 true, og 44 (.bin .leq (q 43) (kI 255) tI) 42 true, o 45 (.pick (q 42) (q 44) kF), oM 4 45]
  .ret)
  (sQ [o 47 (.bin .eql (q 5) (kI 8) tI), oM 46 47]
  (.cond (q 46)
  (sQ [oM 48 1, o 49 (.bin .geq (q 48) (kI 0) tI), oM 50 49, og 51 (.mov (q 1)) 50 true, og 52 (.bin .leq (q 51) (kI 65535) tI) 50 true, o 53 (.pick (q 50) (q 52) kF), oM 4 53]
  .ret)
  (sQ [o 55 (.bin .eql (q 5) (kI 9) tI), oM 54 55]
  (.cond (q 54)
  (sQ [oM 56 1, o 57 (.bin .geq (q 56) (kI 0) tI), oM 58 57, og 59 (.mov (q 1)) 58 true, og 60 (.bin .leq (q 59) (kI 4294967295) tI) 58 true, o 61 (.pick (q 58) (q 60) kF), oM 4 61]
  .ret)
  .skip))))))))))))))))
  (sQ [o 4 (.mov kT)]
  .ret)))⟩
theorem F118_ok : compF Tryz.prog 118 = some F118 := by kernel_rfl
/-- colonnade/colonnaderef04.Letters -/
def F119 : FC := ⟨17, [.tmp 2],
  (sQ [o 2 (.mov kF)]
  (.seq (sQ [o 3 (.mov (kI 0))]
  (.block 0 (.loop (.seq (sQ [oM 5 3, oM 6 0, o 7 (.len 0 (q 6)), o 8 (.bin .lss (q 5) (q 7) tI)]
  (.cond (q 8)
  .skip
  (.exit 0)))
  (.block 1 (sQ [oM 9 0, oM 10 3, o 11 (.call 130 [.tmp 9, .tmp 10]), oM 4 11]
  (.seq (sQ [oM 12 4, o 13 (.bin .eql (q 12) (kI 0) tI)]
  (.cond (q 13)
  (sQ [o 2 (.mov kF)]
  .ret)
  .skip))
  (.ops [oM 14 3, oM 15 4, o 16 (.bin .add (q 14) (q 15) tI), oM 3 16]))))))))
  (sQ [o 2 (.mov kT)]
  .ret)))⟩
theorem F119_ok : compF Tryz.prog 119 = some F119 := by kernel_rfl
/-- colonnade/colonnaderef04.listed -/
def F120 : FC := ⟨98, [.tmp 4],
  (sQ [o 2 (.box (q 0)), o 3 (.box (q 1)), o 4 (.mov kF)]
  (sQ [oA 9 3 3, oL 10 9, o 11 (.len 1 (q 10)), oM 5 11]
  (.seq (sQ [oA 12 0 2, oL 13 12]
  (.block 0 (sQ [o 15 (.bin .eql (q 13) (kI 15) tI), oM 14 15]
  (.cond (q 14)
  (sQ [oM 16 5, o 17 (.bin .gtr (q 16) (kI 4096) tI), oM 18 17, og 19 (.fieldAddr 1 (q 3)) 18 false, og 20 (.load false 1 (q 19)) 18 false, og 21 (.bin .neq (q 20) (kI 0) tI) 18 false, o 22 (.pick (q 18) kT (q 21))]
  (.cond (q 22)
  (sQ [o 4 (.mov kF)]
  .ret)
  .skip))
  (sQ [o 24 (.bin .eql (q 13) (kI 16) tI), oM 23 24]
  (.cond (q 23)
  (sQ [oM 25 5, oA 26 1 2, oL 27 26, o 28 (.bin .neq (q 25) (q 27) tI), oM 29 28, og 30 (.fieldAddr 1 (q 3)) 29 false, og 31 (.load false 1 (q 30)) 29 false, og 32 (.bin .neq (q 31) (kI 0) tI) 29 false, o 33 (.pick (q 29) kT (q 32))]
  (.cond (q 33)
  (sQ [o 4 (.mov kF)]
  .ret)
  .skip))
  (sQ [o 35 (.bin .eql (q 13) (kI 17) tI), oM 34 35]
  (.cond (q 34)
  (sQ [oM 36 5, oA 37 4 2, oL 38 37, o 39 (.len 1 (q 38)), o 40 (.bin .neq (q 36) (q 39) tI), oM 41 40, og 42 (.fieldAddr 1 (q 3)) 41 false, og 43 (.load false 1 (q 42)) 41 false, og 44 (.bin .neq (q 43) (kI 0) tI) 41 false, o 45 (.pick (q 41) kT (q 44))]
  (.cond (q 45)
  (sQ [o 4 (.mov kF)]
  .ret)
  .skip))
  (sQ [o 47 (.bin .eql (q 13) (kI 18) tI), oM 46 47]
  (.cond (q 46)
  (sQ [oM 48 5, o 49 (.bin .eql (q 48) (kI 1) tI), oM 50 49, og 51 (.fieldAddr 1 (q 3)) 50 true, og 52 (.load false 1 (q 51)) 50 true, og 53 (.bin .geq (q 52) (kI 0) tI) 50 true, o 54 (.pick (q 50) (q 53) kF), oM 55 54, og 56 (.fieldAddr 1 (q 3)) 55 true, og 57 (.load false 1 (q 56)) 55 true, og 58 (.fieldAddr 4 (q 2)) 55 true, og 59 (.load false 1 (q 58)) 55 true, og 60 (.len 1 (q 59)) 55 true, og 61 (.bin .lss (q 57) (q 60) tI) 55 true, o 62 (.pick (q 55) (q 61) kF), oM 63 62, og 64 (.fieldAddr 4 (q 2)) 63 true, og 65 (.load false 1 (q 64)) 63 true, og 66 (.fieldAddr 1 (q 3)) 63 true, og 67 (.load false 1 (q 66)) 63 true, og 68 (.indexAddr 7 (q 65) (q 67)) 63 true, og 69 (.load true 7 (q 68)) 63 true, og 70 (.fieldAddr 3 (q 3)) 63 true, og 71 (.load false 1 (q 70)) 63 true, og 72 (.indexAddr 4 (q 71) (kI 0)) 63 true, og 73 (.load true 4 (q 72)) 63 true, og 74 (.call 95 [.tmp 69, .tmp 73]) 63 true, o 75 (.pick (q 63) (q 74) kF), oM 4 75]
  .ret)
  (sQ [o 4 (.mov kF)]
  .ret)))))))))))
  (.seq (sQ [o 6 (.mov (kI 0))]
  (.block 1 (.loop (.seq (sQ [oM 76 6, oM 77 5, o 78 (.bin .lss (q 76) (q 77) tI)]
  (.cond (q 78)
  .skip
  (.exit 1)))
  (.seq (.block 2 (sQ [o 7 (.mov (kI 0))]
  (.seq (sQ [oA 81 0 2, oL 82 81, o 83 (.bin .eql (q 82) (kI 17) tI)]
  (.cond (q 83)
  (.ops [oM 84 6, oM 7 84])
  .skip))
  (sQ [oA 85 4 2, oL 86 85, oM 87 7, o 88 (.indexAddr 7 (q 86) (q 87)), o 89 (.load true 7 (q 88)), oA 90 3 3, oL 91 90, oM 92 6, o 93 (.indexAddr 4 (q 91) (q 92)), o 94 (.load true 4 (q 93)), o 95 (.call 95 [.tmp 89, .tmp 94]), oM 8 95]
  (sQ [oM 96 8, o 97 (.un .not (q 96))]
  (.cond (q 97)
  (sQ [o 4 (.mov kF)]
  .ret)
  .skip))))))
  (.ops [oM 79 6, o 80 (.bin .add (q 79) (kI 1) tI), oM 6 80]))))))
  (sQ [o 4 (.mov kT)]
  .ret)))))⟩
theorem F120_ok : compF Tryz.prog 120 = some F120 := by kernel_rfl
/-- colonnade/array.sizes -/
def F121 : FC := ⟨161, [.cell 4 true 3],
  (sQ [o 2 (.box (q 0)), o 3 (.box (q 1)), o 4 (.alloc [.int .i64 0, .slice none 0 0, .int .i64 0])]
  (sQ [oA 16 2 2, o 17 (.load true 5 (q 16)), o 18 (.call 131 [.tmp 17]), oM 15 18, o 19 (.extract (q 15) 0), o 20 (.extract (q 15) 1), o 21 (.extract (q 15) 2), oM 5 19, oM 6 20, oM 7 21]
  (sQ [oA 22 1 3, oL 23 22, oA 24 0 3, oL 25 24, o 26 (.bin .add (q 23) (q 25) tI), oM 8 26]
  (.seq (.block 0 (sQ [oA 28 3 3, oL 29 28, o 30 (.len 1 (q 29)), oM 31 5, o 32 (.bin .neq (q 30) (q 31) tI), oM 33 32, og 34 (.fieldAddr 4 (q 3)) 33 false, og 35 (.load false 1 (q 34)) 33 false, og 36 (.len 1 (q 35)) 33 false, og 37 (.mov (q 6)) 33 false, og 38 (.bin .neq (q 36) (q 37) tI) 33 false, o 39 (.pick (q 33) kT (q 38)), oM 40 39, og 41 (.fieldAddr 5 (q 3)) 40 false, og 42 (.load false 1 (q 41)) 40 false, og 43 (.len 1 (q 42)) 40 false, og 44 (.mov (q 7)) 40 false, og 45 (.bin .neq (q 43) (q 44) tI) 40 false, o 46 (.pick (q 40) kT (q 45)), oM 27 46]
  (.cond (q 27)
  (sQ [o 47 (.call 96 [(kI 80), (kI 0)]), oS 3 4 47]
  .ret)
  (sQ [oA 49 0 3, oL 50 49, o 51 (.bin .lss (q 50) (kI 0) tI), oM 52 51, og 53 (.fieldAddr 1 (q 3)) 52 false, og 54 (.load false 1 (q 53)) 52 false, og 55 (.bin .lss (q 54) (kI 0) tI) 52 false, o 56 (.pick (q 52) kT (q 55)), oM 57 56, og 58 (.fieldAddr 2 (q 3)) 57 false, og 59 (.load false 1 (q 58)) 57 false, og 60 (.bin .lss (q 59) (kI 0) tI) 57 false, o 61 (.pick (q 57) kT (q 60)), oM 62 61, og 63 (.fieldAddr 2 (q 3)) 62 false, og 64 (.load false 1 (q 63)) 62 false, og 65 (.fieldAddr 0 (q 3)) 62 false, og 66 (.load false 1 (q 65)) 62 false, og 67 (.bin .gtr (q 64) (q 66) tI) 62 false, o 68 (.pick (q 62) kT (q 67)), oM 48 68]
  (.cond (q 48)
  (sQ [o 69 (.call 96 [(kI 81), (kI 0)]), oS 3 4 69]
  .ret)
  (sQ [oA 71 0 3, oL 72 71, o 73 (.bin .gtr (q 72) (kI 4096) tI), oM 74 73, og 75 (.fieldAddr 1 (q 3)) 74 false, og 76 (.load false 1 (q 75)) 74 false, og 77 (.bin .gtr (q 76) (kI 4096) tI) 74 false, o 78 (.pick (q 74) kT (q 77)), oM 79 78, og 80 (.mov (q 8)) 79 false, og 81 (.bin .gtr (q 80) (kI 4096) tI) 79 false, o 82 (.pick (q 79) kT (q 81)), oM 70 82]
  (.cond (q 70)
  (sQ [o 83 (.call 96 [(kI 3), (kI 0)]), oS 3 4 83]
  .ret)
  .skip)))))))
  (.seq (sQ [oA 84 3 3, oL 85 84, o 86 (.len 1 (q 85)), o 87 (.mov (kI 0))]
  (.block 1 (.loop (sQ [o 88 (.bin .lss (q 87) (q 86) tI)]
  (.seq (.cond (q 88)
  .skip
  (.exit 1))
  (.seq (.block 2 (sQ [oM 89 87, o 90 (.indexAddr 1 (q 85) (q 87)), oL 91 90, oM 9 89, oM 10 91]
  (sQ [oM 92 10, o 93 (.len 1 (q 92)), o 94 (.bin .gtr (q 93) (kI 65536) tI)]
  (.cond (q 94)
  (sQ [oM 95 9, o 96 (.call 96 [(kI 4), .tmp 95]), oS 3 4 96]
  .ret)
  .skip))))
  (.ops [o 97 (.bin .add (q 87) (kI 1) tI), oM 87 97])))))))
  (.seq (sQ [oA 98 3 3, oL 99 98, o 100 (.len 1 (q 99)), o 101 (.mov (kI 0))]
  (.block 3 (.loop (sQ [o 102 (.bin .lss (q 101) (q 100) tI)]
  (.seq (.cond (q 102)
  .skip
  (.exit 3))
  (.seq (.block 4 (sQ [oM 103 101, o 104 (.indexAddr 1 (q 99) (q 101)), oL 105 104, oM 11 103, oM 12 105]
  (sQ [oM 106 12, o 107 (.len 1 (q 106)), oA 108 2 2, o 109 (.load true 5 (q 108)), oM 110 11, oM 111 8, oM 112 12, o 113 (.len 1 (q 112)), o 114 (.call 132 [.tmp 109, .tmp 110, .tmp 111, .tmp 113]), o 115 (.bin .lss (q 107) (q 114) tI)]
  (.cond (q 115)
  (sQ [oM 116 11, o 117 (.call 96 [(kI 82), .tmp 116]), oS 3 4 117]
  .ret)
  .skip))))
  (.ops [o 118 (.bin .add (q 101) (kI 1) tI), oM 101 118])))))))
  (.seq (sQ [oA 119 4 3, oL 120 119, o 121 (.len 1 (q 120)), o 122 (.mov (kI 0))]
  (.block 5 (.loop (sQ [o 123 (.bin .lss (q 122) (q 121) tI)]
  (.seq (.cond (q 123)
  .skip
  (.exit 5))
  (.seq (.block 6 (sQ [oM 124 122, o 125 (.indexAddr 6 (q 120) (q 122)), o 126 (.load true 6 (q 125)), o 14 (.alloc [.int .i64 0, .int .i64 0, .int .i64 0, .slice none 0 0, .slice none 0 0, .slice none 0 0]), oM 13 124, oS 6 14 126]
  (sQ [oA 127 2 2, oA 128 0 127, oL 129 128, o 130 (.bin .eql (q 129) (kI 16) tI), oM 131 130, og 132 (.fieldAddr 0 (q 14)) 131 true, og 133 (.load false 1 (q 132)) 131 true, og 134 (.mov (q 8)) 131 true, og 135 (.fieldAddr 2 (q 2)) 131 true, og 136 (.fieldAddr 1 (q 135)) 131 true, og 137 (.load false 1 (q 136)) 131 true, og 138 (.bin .mul (q 134) (q 137) tI) 131 true, og 139 (.bin .lss (q 133) (q 138) tI) 131 true, o 140 (.pick (q 131) (q 139) kF), oM 141 140, og 142 (.fieldAddr 2 (q 2)) 141 false, og 143 (.fieldAddr 0 (q 142)) 141 false, og 144 (.load false 1 (q 143)) 141 false, og 145 (.bin .eql (q 144) (kI 17) tI) 141 false, og 146 (.mov (q 145)) 141 false, og 147 (.fieldAddr 0 (q 14)) 146 true, og 148 (.load false 1 (q 147)) 146 true, og 149 (.mov (q 8)) 146 true, og 150 (.bin .lss (q 148) (q 149) tI) 146 true, og 151 (.pick (q 146) (q 150) kF) 141 false, o 152 (.pick (q 141) kT (q 151))]
  (.cond (q 152)
  (sQ [oM 153 5, oM 154 13, o 155 (.bin .add (q 153) (q 154) tI), o 156 (.call 96 [(kI 82), .tmp 155]), oS 3 4 156]
  .ret)
  .skip))))
  (.ops [o 157 (.bin .add (q 122) (kI 1) tI), oM 122 157])))))))
  (sQ [o 158 (.load true 7 (q 2)), o 159 (.load true 6 (q 3)), o 160 (.call 133 [.tmp 158, .tmp 159]), oS 3 4 160]
  .ret))))))))⟩
theorem F121_ok : compF Tryz.prog 121 = some F121 := by kernel_rfl
/-- colonnade/array.rows -/
def F122 : FC := ⟨95, [.cell 4 true 3],
  (sQ [o 2 (.box (q 0)), o 3 (.box (q 1)), o 4 (.alloc [.int .i64 0, .slice none 0 0, .int .i64 0])]
  (.seq (sQ [oA 11 2 2, oA 12 0 11, oL 13 12]
  (.block 0 (.seq (sQ [o 15 (.bin .eql (q 13) (kI 12) tI), oM 14 15]
  (.cond (q 14)
  .skip
  (sQ [o 16 (.bin .eql (q 13) (kI 13) tI), oM 14 16]
  (.cond (q 14)
  .skip
  (.ops [o 17 (.bin .eql (q 13) (kI 15) tI), oM 14 17])))))
  (.cond (q 14)
  (sQ [o 18 (.load true 7 (q 2)), o 19 (.load true 6 (q 3)), o 20 (.call 134 [.tmp 18, .tmp 19]), oS 3 4 20]
  .ret)
  (sQ [o 22 (.bin .eql (q 13) (kI 18) tI), oM 21 22]
  (.cond (q 21)
  (sQ [oA 23 0 3, oL 24 23, o 25 (.mov (kI 0))]
  (.block 1 (.loop (sQ [o 26 (.bin .lss (q 25) (q 24) tI)]
  (.seq (.cond (q 26)
  .skip
  (.exit 1))
  (.seq (.block 2 (sQ [oM 27 25, oM 5 27]
  (sQ [oA 28 1 3, oL 29 28, oM 30 5, o 31 (.bin .add (q 29) (q 30) tI), oM 6 31]
  (sQ [oA 32 3 3, oL 33 32, o 34 (.indexAddr 1 (q 33) (kI 0)), oL 35 34, oM 36 6, o 37 (.indexAddr 1 (q 35) (q 36)), oL 38 37, o 39 (.conv .i64 (q 38)), oM 7 39]
  (.seq (sQ [oM 40 7, oA 41 4 3, oL 42 41, o 43 (.len 1 (q 42)), o 44 (.bin .geq (q 40) (q 43) tI)]
  (.cond (q 44)
  (sQ [oM 45 5, o 46 (.call 96 [(kI 85), .tmp 45]), oS 3 4 46]
  .ret)
  .skip))
  (sQ [oA 47 3 3, oL 48 47, o 49 (.indexAddr 1 (q 48) (kI 1)), oL 50 49, oM 51 6, o 52 (.call 135 [.tmp 50, .tmp 51]), oM 8 52]
  (sQ [oM 53 8, o 54 (.bin .lss (q 53) (kI 0) tI), oM 55 54, og 56 (.mov (q 8)) 55 false, og 57 (.fieldAddr 4 (q 3)) 55 false, og 58 (.load false 1 (q 57)) 55 false, og 59 (.mov (q 7)) 55 false, og 60 (.indexAddr 6 (q 58) (q 59)) 55 false, og 61 (.fieldAddr 0 (q 60)) 55 false, og 62 (.load false 1 (q 61)) 55 false, og 63 (.bin .geq (q 56) (q 62) tI) 55 false, o 64 (.pick (q 55) kT (q 63))]
  (.cond (q 64)
  (sQ [oM 65 5, o 66 (.call 96 [(kI 83), .tmp 65]), oS 3 4 66]
  .ret)
  .skip))))))))
  (.ops [o 67 (.bin .add (q 25) (kI 1) tI), oM 25 67])))))))
  (sQ [o 69 (.bin .eql (q 13) (kI 19) tI), oM 68 69]
  (.cond (q 68)
  (sQ [oA 70 0 3, oL 71 70, o 72 (.mov (kI 0))]
  (.block 3 (.loop (sQ [o 73 (.bin .lss (q 72) (q 71) tI)]
  (.seq (.cond (q 73)
  .skip
  (.exit 3))
  (.seq (.block 4 (sQ [oM 74 72, oM 9 74]
  (sQ [oA 75 1 3, oL 76 75, oM 77 9, o 78 (.bin .add (q 76) (q 77) tI), oM 10 78]
  (sQ [o 79 (.load true 7 (q 2)), o 80 (.load true 6 (q 3)), oM 81 10, o 82 (.call 136 [.tmp 79, .tmp 80, .tmp 81]), o 83 (.un .not (q 82)), oM 84 83, og 85 (.load true 7 (q 2)) 84 true, og 86 (.load true 6 (q 3)) 84 true, og 87 (.mov (q 10)) 84 true, og 88 (.call 137 [.tmp 85, .tmp 86, .tmp 87]) 84 true, og 89 (.bin .lss (q 88) (kI 0) tI) 84 true, o 90 (.pick (q 84) (q 89) kF)]
  (.cond (q 90)
  (sQ [oM 91 9, o 92 (.call 96 [(kI 86), .tmp 91]), oS 3 4 92]
  .ret)
  .skip)))))
  (.ops [o 93 (.bin .add (q 72) (kI 1) tI), oM 72 93])))))))
  .skip))))))))
  (sQ [o 94 (.build [.int .i64 0, .slice none 0 0, .int .i64 0] []), oS 3 4 94]
  .ret)))⟩
theorem F122_ok : compF Tryz.prog 122 = some F122 := by kernel_rfl
end Go.Proofs.YtecephhhjhpcjaaGreatDoor.Stats
end
section
set_option linter.unusedVariables false
namespace Go.Proofs.YtecephhhjhpcjaaGreatDoor.Stats
open Go Go.Proofs.YtecephhhjhpcjaaGreatDoor Go.Proofs.YtecephhhjhpcjaaGreatDoor.Em
/-- colonnade/array.parts -/
def F123 : FC := ⟨11, [.tmp 2],
  (sQ [o 1 (.box (q 0)), o 2 (.mov (.const (.slice none 0 0)))]
  (.seq (sQ [oA 3 5 1, oL 4 3, o 5 (.len 1 (q 4)), o 6 (.bin .gtr (q 5) (kI 0) tI)]
  (.cond (q 6)
  (sQ [oA 7 5 1, oL 8 7, oM 2 8]
  .ret)
  .skip))
  (sQ [oA 9 4 1, oL 10 9, oM 2 10]
  .ret)))⟩
theorem F123_ok : compF Tryz.prog 123 = some F123 := by kernel_rfl
/-- colonnade/array.weights -/
def F126 : FC := ⟨207, [.tmp 6],
  (sQ [o 3 (.box (q 0)), o 4 (.box (q 1)), o 6 (.mov (.const (.slice none 0 0)))]
  (sQ [oA 19 2 3, o 20 (.load true 5 (q 19)), o 7 (.alloc [.int .i64 0, .int .i64 0, .int .i64 0, .int .i64 0, .slice none 0 0]), oS 5 7 20]
  (sQ [oA 21 0 4, oL 22 21, o 23 (.mkSlice 1 8 [.int .i64 0] (q 22) (q 22)), oM 8 23]
  (sQ [o 9 (.mov (kI 0))]
  (.seq (sQ [oM 24 8, o 25 (.len 1 (q 24)), o 26 (.mov (kI 0))]
  (.block 0 (.loop (sQ [o 27 (.bin .lss (q 26) (q 25) tI)]
  (.seq (.cond (q 27)
  .skip
  (.exit 0))
  (.seq (.block 1 (sQ [oM 28 26, oM 10 28]
  (sQ [oA 29 1 4, oL 30 29, oM 31 10, o 32 (.bin .add (q 30) (q 31) tI), oM 11 32]
  (sQ [oM 33 8, oM 34 10, o 35 (.indexAddr 1 (q 33) (q 34)), ⟨none, .store 1 (q 35) (kI 16), none⟩]
  (.seq (sQ [o 36 (.load true 7 (q 3)), o 37 (.load true 6 (q 4)), oM 38 11, o 39 (.call 136 [.tmp 36, .tmp 37, .tmp 38])]
  (.cond (q 39)
  (.exit 1)
  .skip))
  (sQ [o 12 (.mov (kI 0)), o 13 (.mov (kI 0))]
  (.seq (sQ [oA 40 0 7, oL 41 40]
  (.block 2 (sQ [o 43 (.bin .eql (q 41) (kI 14) tI), oM 42 43]
  (.cond (q 42)
  (.ops [oM 44 8, oM 45 10, o 46 (.indexAddr 1 (q 44) (q 45)), oL 47 46, oA 48 1 7, oL 49 48, o 50 (.bin .add (q 47) (q 49) tI), o 51 (.indexAddr 1 (q 44) (q 45)), oS 1 51 50])
  (.seq (sQ [o 53 (.bin .eql (q 41) (kI 12) tI), oM 52 53]
  (.cond (q 52)
  .skip
  (.ops [o 54 (.bin .eql (q 41) (kI 13) tI), oM 52 54])))
  (.cond (q 52)
  (.ops [oM 55 8, oM 56 10, o 57 (.indexAddr 1 (q 55) (q 56)), oL 58 57, oA 59 3 4, oL 60 59, o 61 (.indexAddr 1 (q 60) (kI 1)), oL 62 61, oM 63 11, o 64 (.bin .add (q 63) (kI 1) tI), oA 66 3 4, oL 67 66, o 68 (.indexAddr 1 (q 67) (kI 1)), oL 69 68, oM 70 11, o 65 (.call 135 [.tmp 62, .tmp 64]), ⟨none, .again 69 false 1 (q 68), none⟩, ⟨none, .again 67 false 1 (q 66), none⟩, ⟨none, .again 58 false 1 (q 57), none⟩, o 71 (.call 135 [.tmp 69, .tmp 70]), ⟨none, .again 58 false 1 (q 57), none⟩, o 72 (.bin .sub (q 65) (q 71) tI), o 73 (.bin .add (q 58) (q 72) tI), o 74 (.indexAddr 1 (q 55) (q 56)), oS 1 74 73])
  (sQ [o 76 (.bin .eql (q 41) (kI 15) tI), oM 75 76]
  (.cond (q 75)
  (.ops [oA 77 3 4, oL 78 77, o 79 (.indexAddr 1 (q 78) (kI 1)), oL 80 79, oM 81 11, oA 83 3 4, oL 84 83, o 85 (.indexAddr 1 (q 84) (kI 1)), oL 86 85, oM 87 11, o 88 (.bin .add (q 87) (kI 1) tI), o 82 (.call 135 [.tmp 80, .tmp 81]), ⟨none, .again 86 false 1 (q 85), none⟩, ⟨none, .again 84 false 1 (q 83), none⟩, o 89 (.call 135 [.tmp 86, .tmp 88]), oM 12 82, oM 13 89])
  (sQ [o 91 (.bin .eql (q 41) (kI 16) tI), oM 90 91]
  (.cond (q 90)
  (.ops [oM 92 11, oA 93 1 7, oL 94 93, o 95 (.bin .mul (q 92) (q 94) tI), oM 96 11, o 97 (.bin .add (q 96) (kI 1) tI), oA 98 1 7, oL 99 98, o 100 (.bin .mul (q 97) (q 99) tI), oM 12 95, oM 13 100])
  (sQ [o 102 (.bin .eql (q 41) (kI 17) tI), oM 101 102]
  (.cond (q 101)
  (sQ [oM 103 2, o 104 (.len 1 (q 103)), o 105 (.mov (kI 0))]
  (.block 3 (.loop (sQ [o 106 (.bin .lss (q 105) (q 104) tI)]
  (.seq (.cond (q 106)
  .skip
  (.exit 3))
  (.seq (.block 4 (sQ [o 107 (.indexAddr 1 (q 103) (q 105)), oL 108 107, oM 15 108]
  (.ops [oM 109 8, oM 110 10, o 111 (.indexAddr 1 (q 109) (q 110)), oL 112 111, oM 113 15, oM 114 11, o 115 (.indexAddr 1 (q 113) (q 114)), oL 116 115, o 117 (.bin .add (q 112) (q 116) tI), o 118 (.indexAddr 1 (q 109) (q 110)), oS 1 118 117])))
  (.ops [o 119 (.bin .add (q 105) (kI 1) tI), oM 105 119])))))))
  (sQ [o 121 (.bin .eql (q 41) (kI 18) tI), oM 120 121]
  (.cond (q 120)
  (.ops [oM 122 8, oM 123 10, o 124 (.indexAddr 1 (q 122) (q 123)), oL 125 124, oM 126 2, oA 127 3 4, oL 128 127, o 129 (.indexAddr 1 (q 128) (kI 0)), oL 130 129, oM 131 11, o 132 (.indexAddr 1 (q 130) (q 131)), oL 133 132, o 134 (.indexAddr 1 (q 126) (q 133)), oL 135 134, oA 136 3 4, oL 137 136, o 138 (.indexAddr 1 (q 137) (kI 1)), oL 139 138, oM 140 11, o 141 (.call 135 [.tmp 139, .tmp 140]), ⟨none, .again 135 false 1 (q 134), none⟩, ⟨none, .again 133 false 1 (q 132), none⟩, ⟨none, .again 130 false 1 (q 129), none⟩, ⟨none, .again 128 false 1 (q 127), none⟩, ⟨none, .again 125 false 1 (q 124), none⟩, o 142 (.indexAddr 1 (q 135) (q 141)), oL 143 142, o 144 (.bin .add (q 125) (q 143) tI), o 145 (.indexAddr 1 (q 122) (q 123)), oS 1 145 144])
  (sQ [o 147 (.bin .eql (q 41) (kI 19) tI), oM 146 147]
  (.cond (q 146)
  (.ops [oM 148 8, oM 149 10, oM 150 2, o 151 (.indexAddr 1 (q 150) (kI 0)), oL 152 151, o 153 (.load true 7 (q 3)), o 154 (.load true 6 (q 4)), oM 155 11, o 156 (.call 137 [.tmp 153, .tmp 154, .tmp 155]), ⟨none, .again 152 false 1 (q 151), none⟩, o 157 (.indexAddr 1 (q 152) (q 156)), oL 158 157, o 159 (.indexAddr 1 (q 148) (q 149)), oS 1 159 158])
  (sQ [o 161 (.bin .eql (q 41) (kI 20) tI), oM 160 161]
  (.cond (q 160)
  (sQ [oA 162 4 4, oL 163 162, o 164 (.indexAddr 6 (q 163) (kI 0)), o 165 (.load true 6 (q 164)), o 16 (.alloc [.int .i64 0, .int .i64 0, .int .i64 0, .slice none 0 0, .slice none 0 0, .slice none 0 0]), oS 6 16 165]
  (.seq (.block 5 (.loop (.seq (sQ [oA 166 3 16, oL 167 166, o 168 (.indexAddr 1 (q 167) (kI 1)), oL 169 168, oA 170 1 16, oL 171 170, oM 172 9, o 173 (.bin .add (q 171) (q 172) tI), oM 175 11, o 174 (.call 135 [.tmp 169, .tmp 173]), o 176 (.bin .leq (q 174) (q 175) tI)]
  (.cond (q 176)
  .skip
  (.exit 5)))
  (.block 6 (.ops [oM 177 9, o 178 (.bin .add (q 177) (kI 1) tI), oM 9 178])))))
  (.ops [oM 179 8, oM 180 10, oM 181 2, o 182 (.indexAddr 1 (q 181) (kI 1)), oL 183 182, oM 184 9, o 185 (.indexAddr 1 (q 183) (q 184)), oL 186 185, o 187 (.indexAddr 1 (q 179) (q 180)), oS 1 187 186])))
  .skip))))))))))))))))))
  (sQ [oM 188 2, oM 189 12, oM 190 13, o 191 (.call 138 [.tmp 188, .tmp 189, .tmp 190]), o 192 (.len 1 (q 191)), o 193 (.mov (kI 0))]
  (.block 7 (.loop (sQ [o 194 (.bin .lss (q 193) (q 192) tI)]
  (.seq (.cond (q 194)
  .skip
  (.exit 7))
  (.seq (.block 8 (sQ [o 195 (.indexAddr 1 (q 191) (q 193)), oL 196 195, oM 18 196]
  (.ops [oM 197 8, oM 198 10, o 199 (.indexAddr 1 (q 197) (q 198)), oL 200 199, oM 201 18, o 202 (.bin .add (q 200) (q 201) tI), o 203 (.indexAddr 1 (q 197) (q 198)), oS 1 203 202])))
  (.ops [o 204 (.bin .add (q 193) (kI 1) tI), oM 193 204]))))))))))))))
  (.ops [o 205 (.bin .add (q 26) (kI 1) tI), oM 26 205])))))))
  (sQ [oM 206 8, oM 6 206]
  .ret))))))⟩
theorem F126_ok : compF Tryz.prog 126 = some F126 := by kernel_rfl
/-- (*colonnade/array.Array).value -/
def F127 : FC := ⟨21, [.cell 6 true 4],
  (sQ [o 6 (.alloc zcZ)]
  (.seq (sQ [oM 7 0, oM 8 1, o 9 (.call 139 [.tmp 7, .tmp 8])]
  (.cond (q 9)
  (sQ [oM 10 2, o 11 (.call 140 [.tmp 10, (kI 16)])]
  (sQ [o 12 (.build zcZ [(0, 1, kT)]), oS 4 6 12]
  .ret))
  .skip))
  (sQ [oM 13 0, o 14 (.nilCheck (q 13)), oA 15 16 14, oL 16 15, oM 17 0, oM 18 1, oM 19 2, o 20 (.invoke (q 16) "colonnade/array.read" [(171, 178), (172, 185), (173, 188), (174, 189), (175, 190), (176, 192), (177, 194)] [.tmp 17, .tmp 18, .tmp 19]), oS 4 6 20]
  .ret)))⟩
theorem F127_ok : compF Tryz.prog 127 = some F127 := by kernel_rfl
/-- colonnade/value.sized -/
def F129 : FC := ⟨16, [.tmp 2, .tmp 3],
  (sQ [o 2 (.mov (kI 0)), o 3 (.mov kF)]
  (.seq (sQ [oM 4 0, o 5 (.bin .geq (q 4) (kI 3) tI), oM 6 5, og 7 (.mov (q 0)) 6 true, og 8 (.bin .leq (q 7) (kI 6) tI) 6 true, o 9 (.pick (q 6) (q 8) kF)]
  (.cond (q 9)
  (sQ [oM 10 0, o 11 (.bin .sub (q 10) (kI 3) tI), o 12 (.bin .shl (kI 8) (q 11) tI), oM 2 12, o 3 (.mov kT)]
  .ret)
  .skip))
  (sQ [oM 13 0, o 14 (.bin .sub (q 13) (kI 7) tI), o 15 (.bin .shl (kI 8) (q 14) tI), oM 2 15, o 3 (.mov kF)]
  .ret)))⟩
theorem F129_ok : compF Tryz.prog 129 = some F129 := by kernel_rfl
/-- colonnade/colonnaderef04.Utf8 -/
def F130 : FC := ⟨92, [.tmp 4],
  (sQ [o 4 (.mov (kI 0))]
  (.seq (sQ [oM 10 1, oM 11 0, o 12 (.len 0 (q 11)), o 13 (.bin .geq (q 10) (q 12) tI)]
  (.cond (q 13)
  (sQ [o 4 (.mov (kI 0))]
  .ret)
  .skip))
  (sQ [oM 14 0, oM 15 1, o 16 (.indexStr (q 14) (q 15)), oM 5 16]
  (sQ [o 6 (.mov (.const (.int .u8 128)))]
  (sQ [o 7 (.mov (.const (.int .u8 191)))]
  (sQ [o 8 (.mov (kI 0))]
  (.seq (.block 0 (sQ [oM 18 5, o 19 (.bin .lss (q 18) (.const (.int .u8 128)) (some (.int .u8))), oM 17 19]
  (.cond (q 17)
  (sQ [o 4 (.mov (kI 1))]
  .ret)
  (sQ [oM 21 5, o 22 (.bin .geq (q 21) (.const (.int .u8 194)) (some (.int .u8))), oM 23 22, og 24 (.mov (q 5)) 23 true, og 25 (.bin .leq (q 24) (.const (.int .u8 223)) (some (.int .u8))) 23 true, o 26 (.pick (q 23) (q 25) kF), oM 20 26]
  (.cond (q 20)
  (.ops [o 8 (.mov (kI 2))])
  (sQ [oM 28 5, o 29 (.bin .geq (q 28) (.const (.int .u8 224)) (some (.int .u8))), oM 30 29, og 31 (.mov (q 5)) 30 true, og 32 (.bin .leq (q 31) (.const (.int .u8 239)) (some (.int .u8))) 30 true, o 33 (.pick (q 30) (q 32) kF), oM 27 33]
  (.cond (q 27)
  (.ops [o 8 (.mov (kI 3))])
  (sQ [oM 35 5, o 36 (.bin .geq (q 35) (.const (.int .u8 240)) (some (.int .u8))), oM 37 36, og 38 (.mov (q 5)) 37 true, og 39 (.bin .leq (q 38) (.const (.int .u8 244)) (some (.int .u8))) 37 true, o 40 (.pick (q 37) (q 39) kF), oM 34 40]
  (.cond (q 34)
  (.ops [o 8 (.mov (kI 4))])
  (sQ [o 4 (.mov (kI 0))]
  .ret))))))))))
  (.seq (sQ [oM 41 5]
  (.block 1 (sQ [o 43 (.bin .eql (q 41) (.const (.int .u8 224)) (some (.int .u8))), oM 42 43]
  (.cond (q 42)
  (.ops [o 6 (.mov (.const (.int .u8 160)))])
  (sQ [o 45 (.bin .eql (q 41) (.const (.int .u8 237)) (some (.int .u8))), oM 44 45]
  (.cond (q 44)
  (.ops [o 7 (.mov (.const (.int .u8 159)))])
  (sQ [o 47 (.bin .eql (q 41) (.const (.int .u8 240)) (some (.int .u8))), oM 46 47]
  (.cond (q 46)
  (.ops [o 6 (.mov (.const (.int .u8 144)))])
  (sQ [o 49 (.bin .eql (q 41) (.const (.int .u8 244)) (some (.int .u8))), oM 48 49]
  (.cond (q 48)
  (.ops [o 7 (.mov (.const (.int .u8 143)))])
  .skip))))))))))
  (.seq (sQ [oM 50 1, oM 51 8, o 52 (.bin .add (q 50) (q 51) tI), oM 53 0, o 54 (.len 0 (q 53)), o 55 (.bin .gtr (q 52) (q 54) tI), oM 56 55, og 57 (.mov (q 0)) 56 false, og 58 (.mov (q 1)) 56 false, og 59 (.bin .add (q 58) (kI 1) tI) 56 false, og 60 (.indexStr (q 57) (q 59)) 56 false, og 61 (.mov (q 6)) 56 false, og 62 (.bin .lss (q 60) (q 61) (some (.int .u8))) 56 false, o 63 (.pick (q 56) kT (q 62)), oM 64 63, og 65 (.mov (q 0)) 64 false, og 66 (.mov (q 1)) 64 false, og 67 (.bin .add (q 66) (kI 1) tI) 64 false, og 68 (.indexStr (q 65) (q 67)) 64 false, og 69 (.mov (q 7)) 64 false, og 70 (.bin .gtr (q 68) (q 69) (some (.int .u8))) 64 false, o 71 (.pick (q 64) kT (q 70))]
  (.cond (q 71)
  (sQ [o 4 (.mov (kI 0))]
  .ret)
  .skip))
  (.seq (sQ [o 9 (.mov (kI 2))]
  (.block 2 (.loop (.seq (sQ [oM 72 9, oM 73 8, o 74 (.bin .lss (q 72) (q 73) tI)]
  (.cond (q 74)
  .skip
  (.exit 2)))
  (.seq (.block 3 (sQ [oM 77 0, oM 78 1, oM 79 9, o 80 (.bin .add (q 78) (q 79) tI), o 81 (.indexStr (q 77) (q 80)), o 82 (.bin .lss (q 81) (.const (.int .u8 128)) (some (.int .u8))), oM 83 82, og 84 (.mov (q 0)) 83 false, og 85 (.mov (q 1)) 83 false, og 86 (.mov (q 9)) 83 false, og 87 (.bin .add (q 85) (q 86) tI) 83 false, og 88 (.indexStr (q 84) (q 87)) 83 false, og 89 (.bin .gtr (q 88) (.const (.int .u8 191)) (some (.int .u8))) 83 false, o 90 (.pick (q 83) kT (q 89))]
  (.cond (q 90)
  (sQ [o 4 (.mov (kI 0))]
  .ret)
  .skip)))
  (.ops [oM 75 9, o 76 (.bin .add (q 75) (kI 1) tI), oM 9 76]))))))
  (sQ [oM 91 8, oM 4 91]
  .ret)))))))))))⟩
theorem F130_ok : compF Tryz.prog 130 = some F130 := by kernel_rfl
/-- colonnade/kind.Shape -/
def F131 : FC := ⟨20, [.tmp 2, .tmp 3, .tmp 4],
  (sQ [o 1 (.box (q 0)), o 2 (.mov (kI 0)), o 3 (.mov (kI 0)), o 4 (.mov (kI 0))]
  (.seq (sQ [o 5 (.load true 5 (q 1)), o 6 (.call 141 [.tmp 5]), o 7 (.un .not (q 6))]
  (.cond (q 7)
  (sQ [o 2 (.mov (kI (-1))), o 3 (.mov (kI (-1))), o 4 (.mov (kI (-1)))]
  .ret)
  .skip))
  (.seq (sQ [oA 8 0 1, oL 9 8, o 10 (.bin .eql (q 9) (kI 19) tI)]
  (.cond (q 10)
  (.ops [o 4 (.mov (kI 1))])
  .skip))
  (sQ [oA 11 0 1, oL 12 11, o 13 (.indexAddrArr 4 21 (.global 1) (q 12)), oA 14 2 13, oL 15 14, o 16 (.load true 5 (q 1)), oM 19 4, o 17 (.call 142 [.tmp 16]), ⟨none, .again 15 false 1 (q 14), none⟩, ⟨none, .again 12 false 1 (q 11), none⟩, o 18 (.len 1 (q 17)), oM 2 15, oM 3 18, oM 4 19]
  .ret))))⟩
theorem F131_ok : compF Tryz.prog 131 = some F131 := by kernel_rfl
/-- colonnade/array.needs -/
def F132 : FC := ⟨58, [.tmp 8],
  (sQ [o 4 (.box (q 0)), o 8 (.mov (kI 0))]
  (.seq (.block 0 (sQ [oA 10 0 4, oL 11 10, o 12 (.bin .eql (q 11) (kI 18) tI), oM 9 12]
  (.cond (q 9)
  (sQ [oM 13 2, oM 14 1, o 15 (.bin .mul (kI 3) (q 14) tI), o 16 (.bin .add (kI 1) (q 15) tI), o 17 (.bin .mul (q 13) (q 16) tI), oM 8 17]
  .ret)
  (.seq (sQ [oM 19 1, o 20 (.bin .eql (q 19) (kI 0) tI), oM 21 20, og 22 (.mov (q 3)) 21 true, og 23 (.bin .eql (q 22) (kI 0) tI) 21 true, o 24 (.pick (q 21) (q 23) kF), oM 18 24]
  (.cond (q 18)
  .skip
  (.ops [oM 25 1, o 26 (.bin .eql (q 25) (kI 2) tI), oM 18 26])))
  (.cond (q 18)
  (sQ [o 8 (.mov (kI 0))]
  .ret)
  (sQ [oM 28 1, o 29 (.bin .eql (q 28) (kI 0) tI), oM 30 29, og 31 (.fieldAddr 0 (q 4)) 30 false, og 32 (.load false 1 (q 31)) 30 false, og 33 (.bin .eql (q 32) (kI 2) tI) 30 false, o 34 (.pick (q 30) kT (q 33)), oM 27 34]
  (.cond (q 27)
  (sQ [oM 35 2, o 36 (.call 143 [.tmp 35]), oM 8 36]
  .ret)
  (sQ [oA 38 0 4, oL 39 38, o 40 (.bin .eql (q 39) (kI 12) tI), oM 41 40, og 42 (.fieldAddr 0 (q 4)) 41 false, og 43 (.load false 1 (q 42)) 41 false, og 44 (.bin .eql (q 43) (kI 13) tI) 41 false, o 45 (.pick (q 41) kT (q 44)), oM 46 45, og 47 (.fieldAddr 0 (q 4)) 46 false, og 48 (.load false 1 (q 47)) 46 false, og 49 (.bin .eql (q 48) (kI 15) tI) 46 false, o 50 (.pick (q 46) kT (q 49)), oM 37 50]
  (.cond (q 37)
  (sQ [oM 51 2, o 52 (.bin .add (q 51) (kI 1) tI), o 53 (.bin .mul (kI 4) (q 52) tI), oM 8 53]
  .ret)
  .skip)))))))))
  (sQ [oM 54 2, o 55 (.load true 5 (q 4)), o 56 (.call 144 [.tmp 55]), o 57 (.bin .mul (q 54) (q 56) tI), oM 8 57]
  .ret)))⟩
theorem F132_ok : compF Tryz.prog 132 = some F132 := by kernel_rfl
/-- colonnade/array.nulls -/
def F133 : FC := ⟨24, [.cell 4 true 3],
  (sQ [o 2 (.box (q 0)), o 3 (.box (q 1)), o 4 (.alloc [.int .i64 0, .slice none 0 0, .int .i64 0])]
  (.seq (sQ [o 6 (.load true 7 (q 2)), o 7 (.load true 6 (q 3)), o 8 (.call 145 [.tmp 6, .tmp 7]), oM 5 8]
  (sQ [oA 9 2 3, oL 10 9, oM 11 5, o 12 (.bin .neq (q 10) (q 11) tI), oM 13 12, og 14 (.mov (q 5)) 13 false, og 15 (.bin .gtr (q 14) (kI 0) tI) 13 false, og 16 (.mov (q 15)) 13 false, og 17 (.fieldAddr 1 (q 2)) 16 true, og 18 (.load false 1 (q 17)) 16 true, og 19 (.un .not (q 18)) 16 true, og 20 (.pick (q 16) (q 19) kF) 13 false, o 21 (.pick (q 13) kT (q 20))]
  (.cond (q 21)
  (sQ [o 22 (.call 96 [(kI 81), (kI 1)]), oS 3 4 22]
  .ret)
  .skip)))
  (sQ [o 23 (.build [.int .i64 0, .slice none 0 0, .int .i64 0] []), oS 3 4 23]
  .ret)))⟩
theorem F133_ok : compF Tryz.prog 133 = some F133 := by kernel_rfl
/-- colonnade/array.null -/
def F136 : FC := ⟨37, [.tmp 6],
  (sQ [o 3 (.box (q 0)), o 4 (.box (q 1)), o 6 (.mov kF)]
  (.seq (sQ [oA 9 2 3, oA 10 0 9, oL 11 10, o 12 (.bin .eql (q 11) (kI 1) tI)]
  (.cond (q 12)
  (sQ [o 6 (.mov kT)]
  .ret)
  .skip))
  (.seq (sQ [oA 13 2 3, oA 14 0 13, oL 15 14, o 16 (.call 147 [.tmp 15]), o 17 (.un .not (q 16)), oM 18 17, og 19 (.fieldAddr 3 (q 4)) 18 false, og 20 (.load false 1 (q 19)) 18 false, og 21 (.indexAddr 1 (q 20) (kI 0)) 18 false, og 22 (.load false 1 (q 21)) 18 false, og 23 (.len 1 (q 22)) 18 false, og 24 (.bin .eql (q 23) (kI 0) tI) 18 false, o 25 (.pick (q 18) kT (q 24))]
  (.cond (q 25)
  (sQ [o 6 (.mov kF)]
  .ret)
  .skip))
  (sQ [oA 27 3 4, oL 28 27, o 29 (.indexAddr 1 (q 28) (kI 0)), oL 30 29, oM 31 2, o 32 (.call 148 [.tmp 30, .tmp 31]), oM 26 32, o 33 (.extract (q 26) 0), o 34 (.extract (q 26) 1), oM 7 33, oM 8 34]
  (sQ [oM 35 7, o 36 (.un .not (q 35)), oM 6 36]
  .ret)))))⟩
theorem F136_ok : compF Tryz.prog 136 = some F136 := by kernel_rfl
/-- colonnade/array.slice -/
def F138 : FC := ⟨16, [.tmp 6],
  (sQ [o 6 (.mov (.const (.slice none 0 0)))]
  (.seq (sQ [oM 7 1, oM 8 2, o 9 (.bin .eql (q 7) (q 8) tI)]
  (.cond (q 9)
  (sQ [o 6 (.mov (.const (.slice none 0 0)))]
  .ret)
  .skip))
  (sQ [oM 10 0, o 11 (.indexAddr 1 (q 10) (kI 0)), oL 12 11, oM 13 1, oM 14 2, o 15 (.slice 1 (q 12) (some (q 13)) (some (q 14)) none), oM 6 15]
  .ret)))⟩
theorem F138_ok : compF Tryz.prog 138 = some F138 := by kernel_rfl
/-- (*colonnade/array.Array).nullAt -/
def F139 : FC := ⟨47, [.tmp 4],
  (sQ [o 4 (.mov kF)]
  (.seq (sQ [oM 7 0, o 8 (.nilCheck (q 7)), oA 9 0 8, oA 10 2 9, oA 11 0 10, oL 12 11, o 13 (.bin .eql (q 12) (kI 1) tI)]
  (.cond (q 13)
  (sQ [o 4 (.mov kT)]
  .ret)
  .skip))
  (.seq (sQ [oM 14 0, o 15 (.nilCheck (q 14)), oA 16 0 15, oA 17 2 16, oA 18 0 17, oL 19 18, o 20 (.call 147 [.tmp 19]), o 21 (.un .not (q 20)), oM 22 21, og 23 (.mov (q 0)) 22 false, og 24 (.nilCheck (q 23)) 22 false, og 25 (.fieldAddr 7 (q 24)) 22 false, og 26 (.fieldAddr 3 (q 25)) 22 false, og 27 (.load false 1 (q 26)) 22 false, og 28 (.indexAddr 1 (q 27) (kI 0)) 22 false, og 29 (.load false 1 (q 28)) 22 false, og 30 (.len 1 (q 29)) 22 false, og 31 (.bin .eql (q 30) (kI 0) tI) 22 false, o 32 (.pick (q 22) kT (q 31))]
  (.cond (q 32)
  (sQ [o 4 (.mov kF)]
  .ret)
  .skip))
  (sQ [oM 34 0, o 35 (.call 150 [.tmp 34, (kI 0)]), oM 36 1, o 37 (.bin .quo (q 36) (kI 8) tI), o 38 (.call 151 [.tmp 35, .tmp 37]), oM 33 38, o 39 (.extract (q 33) 0), o 40 (.extract (q 33) 1), oM 5 39, oM 6 40]
  (sQ [oM 41 5, oM 42 1, o 43 (.bin .rem (q 42) (kI 8) tI), o 44 (.bin .shr (q 41) (q 43) (some (.int .u8))), o 45 (.bin .and (q 44) (.const (.int .u8 1)) (some (.int .u8))), o 46 (.bin .eql (q 45) (.const (.int .u8 0)) (some (.int .u8))), oM 4 46]
  .ret)))))⟩
theorem F139_ok : compF Tryz.prog 139 = some F139 := by kernel_rfl
/-- colonnade/array.weigh -/
def F140 : FC := ⟨16, [],
  (sQ [oM 4 0, o 5 (.nilCheck (q 4)), oL 6 5, oM 7 1, o 8 (.bin .sub (q 6) (q 7) tI), o 9 (.nilCheck (q 4)), oS 1 9 8]
  (sQ [oM 10 0, o 11 (.nilCheck (q 10)), oL 12 11, o 13 (.bin .lss (q 12) (kI 0) tI)]
  (.cond (q 13)
  (.ops [o 14 (.build [] []), o 15 (.mkIface 178 (q 14)), ⟨none, .bad, none⟩])
  .skip)))⟩
theorem F140_ok : compF Tryz.prog 140 = some F140 := by kernel_rfl
/-- colonnade/kind.mayType -/
def F141 : FC := ⟨8, [.tmp 2],
  (sQ [o 1 (.box (q 0)), o 2 (.mov kF)]
  (sQ [o 3 (.load true 5 (q 1)), o 4 (.call 152 [.tmp 3]), o 5 (.call 15 [.tmp 4]), o 6 (.field false 0 1 (q 5)), o 7 (.bin .eql (q 6) (kI 0) tI), oM 2 7]
  .ret))⟩
theorem F141_ok : compF Tryz.prog 141 = some F141 := by kernel_rfl
/-- colonnade/kind.Parts -/
def F142 : FC := ⟨24, [.tmp 2],
  (sQ [o 1 (.box (q 0)), o 2 (.mov (.const (.slice none 0 0)))]
  (.seq (sQ [o 4 (.load true 5 (q 1)), o 5 (.call 141 [.tmp 4]), o 6 (.un .not (q 5)), oM 7 6, og 8 (.fieldAddr 0 (q 1)) 7 false, og 9 (.load false 1 (q 8)) 7 false, og 10 (.bin .eql (q 9) (kI 19) tI) 7 false, o 11 (.pick (q 7) kT (q 10))]
  (.cond (q 11)
  (sQ [o 2 (.mov (.const (.slice none 0 0)))]
  .ret)
  .skip))
  (sQ [oA 12 4 1, oL 13 12, o 14 (.call 153 [.tmp 13]), oM 3 14]
  (.seq (sQ [oA 15 0 1, oL 16 15, o 17 (.bin .eql (q 16) (kI 20) tI)]
  (.cond (q 17)
  (.ops [o 18 (.build [.int .i64 0, .int .i64 0, .int .i64 0, .int .i64 0, .slice none 0 0] [(0, 1, (kI 5))]), o 19 (.build zbZ [(0, 1, (.const (.string ⟨#[101, 110, 100, 115]⟩))), (2, 5, (q 18))]), o 20 (.buildSlice 7 1 zbZ [(0, 7, (q 19))]), oM 21 3, o 22 (.append 7 80 (q 20) (q 21)), oM 3 22])
  .skip))
  (sQ [oM 23 3, oM 2 23]
  .ret)))))⟩
theorem F142_ok : compF Tryz.prog 142 = some F142 := by kernel_rfl
/-- colonnade/bits.Need -/
def F143 : FC := ⟨9, [.tmp 2],
  (sQ [o 2 (.mov (kI 0))]
  (.seq (sQ [oM 3 0, o 4 (.bin .leq (q 3) (kI 0) tI)]
  (.cond (q 4)
  (sQ [o 2 (.mov (kI 0))]
  .ret)
  .skip))
  (sQ [oM 5 0, o 6 (.bin .sub (q 5) (kI 1) tI), o 7 (.bin .quo (q 6) (kI 8) tI), o 8 (.bin .add (q 7) (kI 1) tI), oM 2 8]
  .ret)))⟩
theorem F143_ok : compF Tryz.prog 143 = some F143 := by kernel_rfl
/-- colonnade/kind.Width -/
def F144 : FC := ⟨24, [.tmp 2],
  (sQ [o 1 (.box (q 0)), o 2 (.mov (kI 0))]
  (.seq (sQ [o 3 (.load true 5 (q 1)), o 4 (.call 141 [.tmp 3]), o 5 (.un .not (q 4))]
  (.cond (q 5)
  (sQ [o 2 (.mov (kI 0))]
  .ret)
  .skip))
  (.seq (sQ [oA 6 0 1, oL 7 6]
  (.block 0 (sQ [o 9 (.bin .eql (q 7) (kI 14) tI), oM 8 9]
  (.cond (q 8)
  (sQ [oA 10 1 1, oL 11 10, oM 2 11]
  .ret)
  (sQ [o 13 (.bin .eql (q 7) (kI 19) tI), oM 12 13]
  (.cond (q 12)
  (sQ [oA 14 3 1, oL 15 14, o 16 (.indexAddrArr 4 21 (.global 1) (q 15)), oA 17 1 16, oL 18 17, oM 2 18]
  .ret)
  .skip))))))
  (sQ [oA 19 0 1, oL 20 19, o 21 (.indexAddrArr 4 21 (.global 1) (q 20)), oA 22 1 21, oL 23 22, oM 2 23]
  .ret))))⟩
theorem F144_ok : compF Tryz.prog 144 = some F144 := by kernel_rfl
/-- colonnade/array.countNulls -/
def F145 : FC := ⟨23, [.tmp 4],
  (sQ [o 2 (.box (q 0)), o 3 (.box (q 1)), o 4 (.mov (kI 0))]
  (sQ [o 5 (.mov (kI 0))]
  (.seq (sQ [oA 7 0 3, oL 8 7, o 9 (.mov (kI 0))]
  (.block 0 (.loop (sQ [o 10 (.bin .lss (q 9) (q 8) tI)]
  (.seq (.cond (q 10)
  .skip
  (.exit 0))
  (.seq (.block 1 (sQ [oM 11 9, oM 6 11]
  (sQ [o 12 (.load true 7 (q 2)), o 13 (.load true 6 (q 3)), oA 14 1 3, oL 15 14, oM 16 6, o 17 (.bin .add (q 15) (q 16) tI), o 18 (.call 136 [.tmp 12, .tmp 13, .tmp 17])]
  (.cond (q 18)
  (.ops [oM 19 5, o 20 (.bin .add (q 19) (kI 1) tI), oM 5 20])
  .skip))))
  (.ops [o 21 (.bin .add (q 9) (kI 1) tI), oM 9 21])))))))
  (sQ [oM 22 5, oM 4 22]
  .ret))))⟩
theorem F145_ok : compF Tryz.prog 145 = some F145 := by kernel_rfl
/-- colonnade/array.hasValidity -/
def F147 : FC := ⟨13, [.tmp 2],
  (sQ [o 2 (.mov kF)]
  (sQ [oM 3 0, o 4 (.bin .neq (q 3) (kI 1) tI), oM 5 4, og 6 (.mov (q 0)) 5 true, og 7 (.bin .neq (q 6) (kI 18) tI) 5 true, o 8 (.pick (q 5) (q 7) kF), oM 9 8, og 10 (.mov (q 0)) 9 true, og 11 (.bin .neq (q 10) (kI 20) tI) 9 true, o 12 (.pick (q 9) (q 11) kF), oM 2 12]
  .ret))⟩
theorem F147_ok : compF Tryz.prog 147 = some F147 := by kernel_rfl
/-- colonnade/bits.Get -/
def F148 : FC := ⟨18, [.tmp 4, .tmp 5],
  (sQ [o 4 (.mov kF), o 5 (.mov (kI 0))]
  (.seq (.block 0 (sQ [oM 7 1, o 8 (.bin .lss (q 7) (kI 0) tI), oM 6 8]
  (.cond (q 6)
  (sQ [o 4 (.mov kF), o 5 (.mov (kI 1))]
  .ret)
  (sQ [oM 10 1, o 11 (.bin .quo (q 10) (kI 8) tI), oM 12 0, o 13 (.len 1 (q 12)), o 14 (.bin .geq (q 11) (q 13) tI), oM 9 14]
  (.cond (q 9)
  (sQ [o 4 (.mov kF), o 5 (.mov (kI 2))]
  .ret)
  .skip)))))
  (sQ [oM 15 0, oM 16 1, o 17 (.call 155 [.tmp 15, .tmp 16]), oM 4 17, o 5 (.mov (kI 0))]
  .ret)))⟩
theorem F148_ok : compF Tryz.prog 148 = some F148 := by kernel_rfl
/-- colonnade/array.width -/
def F149 : FC := ⟨17, [.tmp 2],
  (sQ [o 2 (.mov (kI 0))]
  (.seq (sQ [oM 3 0]
  (.block 0 (.seq (sQ [o 5 (.bin .eql (q 3) (kI 3) tI), oM 4 5]
  (.cond (q 4)
  .skip
  (.ops [o 6 (.bin .eql (q 3) (kI 7) tI), oM 4 6])))
  (.cond (q 4)
  (sQ [o 2 (.mov (kI 1))]
  .ret)
  (.seq (sQ [o 8 (.bin .eql (q 3) (kI 4) tI), oM 7 8]
  (.cond (q 7)
  .skip
  (.ops [o 9 (.bin .eql (q 3) (kI 8) tI), oM 7 9])))
  (.cond (q 7)
  (sQ [o 2 (.mov (kI 2))]
  .ret)
  (.seq (sQ [o 11 (.bin .eql (q 3) (kI 5) tI), oM 10 11]
  (.cond (q 10)
  .skip
  (.ops [o 12 (.bin .eql (q 3) (kI 9) tI), oM 10 12])))
  (.cond (q 10)
  (sQ [o 2 (.mov (kI 4))]
  .ret)
  (.seq (sQ [o 14 (.bin .eql (q 3) (kI 6) tI), oM 13 14]
  (.cond (q 13)
  .skip
  (sQ [o 15 (.bin .eql (q 3) (kI 10) tI), oM 13 15]
  (.cond (q 13)
  .skip
  (.ops [o 16 (.bin .eql (q 3) (kI 11) tI), oM 13 16])))))
  (.cond (q 13)
  (sQ [o 2 (.mov (kI 8))]
  .ret)
  .skip))))))))))
  (sQ [o 2 (.mov (kI 0))]
  .ret)))⟩
theorem F149_ok : compF Tryz.prog 149 = some F149 := by kernel_rfl
/-- (*colonnade/array.Array).bytes -/
def F150 : FC := ⟨19, [.cell 4 true 3],
  (sQ [o 4 (.alloc [.slice none 0 0, .int .i64 0, .pointer none])]
  (sQ [oM 5 0, o 6 (.nilCheck (q 5)), oA 7 7 6, oA 8 3 7, oL 9 8, oM 10 1, o 11 (.indexAddr 1 (q 9) (q 10)), oL 12 11, oM 14 0, o 15 (.nilCheck (q 14)), oA 16 15 15, oL 17 16, o 13 (.call 156 [.tmp 12]), ⟨none, .again 17 false 1 (q 16), none⟩, o 18 (.call 157 [.tmp 13, .tmp 17]), oS 3 4 18]
  .ret))⟩
theorem F150_ok : compF Tryz.prog 150 = some F150 := by kernel_rfl
/-- (colonnade/view.View).Byte -/
def F151 : FC := ⟨15, [.tmp 4, .tmp 5],
  (sQ [o 2 (.box (q 0)), o 4 (.mov (.const (.int .u8 0))), o 5 (.mov (kI 0))]
  (.seq (sQ [o 6 (.load true 3 (q 2)), oM 7 1, o 8 (.call 158 [.tmp 6, .tmp 7, (kI 1)]), o 9 (.un .not (q 8))]
  (.cond (q 9)
  (sQ [o 4 (.mov (.const (.int .u8 0))), o 5 (.mov (kI 2))]
  .ret)
  .skip))
  (sQ [o 10 (.load true 3 (q 2)), oM 11 1, o 12 (.call 159 [.tmp 10, .tmp 11, (kI 1)]), o 13 (.indexAddr 1 (q 12) (kI 0)), oL 14 13, oM 4 14, o 5 (.mov (kI 0))]
  .ret)))⟩
theorem F151_ok : compF Tryz.prog 151 = some F151 := by kernel_rfl
/-- colonnade/kind.holder -/
def F152 : FC := ⟨29, [.cell 2 true 7],
  (sQ [o 1 (.box (q 0)), o 2 (.alloc zbZ)]
  (sQ [o 4 (.load true 5 (q 1)), o 5 (.build zbZ [(0, 1, (.const (.string ⟨#[97]⟩))), (2, 5, (q 4))]), o 3 (.alloc zbZ), oS 7 3 5]
  (sQ [oA 6 0 1, oL 7 6, o 8 (.bin .eql (q 7) (kI 1) tI), oM 9 8, og 10 (.fieldAddr 0 (q 1)) 9 false, og 11 (.load false 1 (q 10)) 9 false, og 12 (.bin .eql (q 11) (kI 20) tI) 9 false, og 13 (.mov (q 12)) 9 false, og 14 (.fieldAddr 4 (q 1)) 13 true, og 15 (.load false 1 (q 14)) 13 true, og 16 (.len 1 (q 15)) 13 true, og 17 (.bin .gtr (q 16) (kI 0) tI) 13 true, og 18 (.pick (q 13) (q 17) kF) 9 false, og 19 (.mov (q 18)) 9 false, og 20 (.fieldAddr 4 (q 1)) 19 true, og 21 (.load false 1 (q 20)) 19 true, og 22 (.indexAddr 7 (q 21) (kI 0)) 19 true, og 23 (.fieldAddr 1 (q 22)) 19 true, og 24 (.load false 1 (q 23)) 19 true, og 25 (.pick (q 19) (q 24) kF) 9 false, o 26 (.pick (q 9) kT (q 25)), oA 27 1 3, oS 1 27 26]
  (sQ [o 28 (.load true 7 (q 3)), oS 7 2 28]
  .ret))))⟩
theorem F152_ok : compF Tryz.prog 152 = some F152 := by kernel_rfl
/-- colonnade/kind.copied -/
def F153 : FC := ⟨25, [.tmp 2],
  (sQ [o 2 (.mov (.const (.slice none 0 0)))]
  (sQ [o 3 (.mov (.const (.slice none 0 0)))]
  (.seq (sQ [oM 6 0, o 7 (.len 1 (q 6)), o 8 (.mov (kI 0))]
  (.block 0 (.loop (sQ [o 9 (.bin .lss (q 8) (q 7) tI)]
  (.seq (.cond (q 9)
  .skip
  (.exit 0))
  (.seq (.block 1 (sQ [o 10 (.indexAddr 7 (q 6) (q 8)), o 11 (.load true 7 (q 10)), o 5 (.alloc zbZ), oS 7 5 11]
  (sQ [oA 12 2 5, oA 13 4 12, oL 14 13, o 15 (.call 153 [.tmp 14]), oA 16 2 5, oA 17 4 16, oS 1 17 15]
  (.ops [oM 18 3, o 19 (.load true 7 (q 5)), o 20 (.buildSlice 7 1 zbZ [(0, 7, (q 19))]), o 21 (.append 7 80 (q 18) (q 20)), oM 3 21]))))
  (.ops [o 22 (.bin .add (q 8) (kI 1) tI), oM 8 22])))))))
  (sQ [oM 23 3, o 24 (.call 160 [.tmp 23]), oM 2 24]
  .ret))))⟩
theorem F153_ok : compF Tryz.prog 153 = some F153 := by kernel_rfl
/-- colonnade/bits.bit -/
def F155 : FC := ⟨15, [.tmp 4],
  (sQ [o 4 (.mov kF)]
  (sQ [oM 5 0, oM 6 1, o 7 (.bin .quo (q 6) (kI 8) tI), o 8 (.indexAddr 1 (q 5) (q 7)), oL 9 8, oM 10 1, o 11 (.bin .rem (q 10) (kI 8) tI), o 12 (.bin .shr (q 9) (q 11) (some (.int .u8))), o 13 (.bin .and (q 12) (.const (.int .u8 1)) (some (.int .u8))), o 14 (.bin .eql (q 13) (.const (.int .u8 1)) (some (.int .u8))), oM 4 14]
  .ret))⟩
theorem F155_ok : compF Tryz.prog 155 = some F155 := by kernel_rfl
/-- colonnade/view.Of -/
def F156 : FC := ⟨10, [.cell 2 true 3],
  (sQ [o 2 (.alloc [.slice none 0 0, .int .i64 0, .pointer none])]
  (sQ [oM 3 0, oM 4 0, o 5 (.len 1 (q 4)), oM 6 0, o 7 (.len 1 (q 6)), o 8 (.slice 1 (q 3) none (some (q 5)) (some (q 7))), o 9 (.build [.slice none 0 0, .int .i64 0, .pointer none] [(0, 1, (q 8))]), oS 3 2 9]
  .ret))⟩
theorem F156_ok : compF Tryz.prog 156 = some F156 := by kernel_rfl
/-- (colonnade/view.View).Watched -/
def F157 : FC := ⟨8, [.cell 4 true 3],
  (sQ [o 2 (.box (q 0)), o 4 (.alloc [.slice none 0 0, .int .i64 0, .pointer none])]
  (sQ [oM 5 1, oA 6 2 2, oS 1 6 5]
  (sQ [o 7 (.load true 3 (q 2)), oS 3 4 7]
  .ret)))⟩
theorem F157_ok : compF Tryz.prog 157 = some F157 := by kernel_rfl
/-- (colonnade/view.View).there -/
def F158 : FC := ⟨29, [.tmp 6],
  (sQ [o 3 (.box (q 0)), o 6 (.mov kF)]
  (sQ [oM 7 1, o 8 (.bin .geq (q 7) (kI 0) tI), oM 9 8, og 10 (.mov (q 2)) 9 true, og 11 (.bin .geq (q 10) (kI 0) tI) 9 true, o 12 (.pick (q 9) (q 11) kF), oM 13 12, og 14 (.mov (q 1)) 13 true, og 15 (.fieldAddr 0 (q 3)) 13 true, og 16 (.load false 1 (q 15)) 13 true, og 17 (.len 1 (q 16)) 13 true, og 18 (.bin .leq (q 14) (q 17) tI) 13 true, o 19 (.pick (q 13) (q 18) kF), oM 20 19, og 21 (.mov (q 2)) 20 true, og 22 (.fieldAddr 0 (q 3)) 20 true, og 23 (.load false 1 (q 22)) 20 true, og 24 (.len 1 (q 23)) 20 true, og 25 (.mov (q 1)) 20 true, og 26 (.bin .sub (q 24) (q 25) tI) 20 true, og 27 (.bin .leq (q 21) (q 26) tI) 20 true, o 28 (.pick (q 20) (q 27) kF), oM 6 28]
  .ret))⟩
theorem F158_ok : compF Tryz.prog 158 = some F158 := by kernel_rfl
/-- (colonnade/view.View).read -/
def F159 : FC := ⟨46, [.tmp 6],
  (sQ [o 3 (.box (q 0)), o 6 (.mov (.const (.slice none 0 0)))]
  (.seq (sQ [oA 7 2 3, oL 8 7, o 9 (.bin .neq (q 8) (.const (.pointer none)) (some (.pointer 218))), oM 10 9, og 11 (.mov (q 2)) 10 true, og 12 (.bin .gtr (q 11) (kI 0) tI) 10 true, o 13 (.pick (q 10) (q 12) kF)]
  (.cond (q 13)
  (.ops [oA 14 2 3, oL 15 14, oA 16 2 3, oL 17 16, o 18 (.nilCheck (q 17)), oA 19 0 18, oL 20 19, oA 21 1 3, oL 22 21, oM 23 1, o 24 (.bin .add (q 22) (q 23) tI), oA 25 1 3, oL 26 25, oM 27 1, o 28 (.bin .add (q 26) (q 27) tI), oM 29 2, o 30 (.bin .add (q 28) (q 29) tI), o 31 (.build [.int .i64 0, .int .i64 0] [(0, 1, (q 24)), (1, 1, (q 30))]), o 32 (.buildSlice 2 1 [.int .i64 0, .int .i64 0] [(0, 2, (q 31))]), ⟨none, .again 20 false 1 (q 19), none⟩, ⟨none, .again 17 false 1 (q 16), none⟩, ⟨none, .again 15 false 1 (q 14), none⟩, o 33 (.append 2 16 (q 20) (q 32)), ⟨none, .again 15 false 1 (q 14), none⟩, o 34 (.nilCheck (q 15)), oA 35 0 34, oS 1 35 33])
  .skip))
  (sQ [oA 36 0 3, oL 37 36, oM 38 1, oM 39 1, oM 40 2, o 41 (.bin .add (q 39) (q 40) tI), oM 42 1, oM 43 2, o 44 (.bin .add (q 42) (q 43) tI), o 45 (.slice 1 (q 37) (some (q 38)) (some (q 41)) (some (q 44))), oM 6 45]
  .ret)))⟩
theorem F159_ok : compF Tryz.prog 159 = some F159 := by kernel_rfl
/-- slices.Clip[[]colonnade/api.Field,colonnade/api.Field] -/
def F160 : FC := ⟨9, [.tmp 2],
  (sQ [o 2 (.mov (.const (.slice none 0 0)))]
  (sQ [oM 3 0, oM 4 0, o 5 (.len 1 (q 4)), oM 6 0, o 7 (.len 1 (q 6)), o 8 (.slice 7 (q 3) none (some (q 5)) (some (q 7))), oM 2 8]
  .ret))⟩
theorem F160_ok : compF Tryz.prog 160 = some F160 := by kernel_rfl
/-- (colonnade/view.View).Signed -/
def F181 : FC := ⟨30, [.tmp 6, .tmp 7],
  (sQ [o 3 (.box (q 0)), o 6 (.mov (kI 0)), o 7 (.mov (kI 0))]
  (sQ [o 12 (.load true 3 (q 3)), oM 13 1, oM 14 2, o 15 (.call 182 [.tmp 12, .tmp 13, .tmp 14]), oM 11 15, o 16 (.extract (q 11) 0), o 17 (.extract (q 11) 1), oM 8 16, oM 9 17]
  (.seq (sQ [oM 18 9, o 19 (.bin .neq (q 18) (kI 0) tI)]
  (.cond (q 19)
  (sQ [oM 20 9, o 6 (.mov (kI 0)), oM 7 20]
  .ret)
  .skip))
  (sQ [oM 21 2, o 22 (.bin .mul (kI 8) (q 21) tI), o 23 (.bin .sub (kI 64) (q 22) tI), oM 10 23]
  (sQ [oM 24 8, oM 25 10, o 26 (.bin .shl (q 24) (q 25) (some (.int .u64))), o 27 (.conv .i64 (q 26)), oM 28 10, o 29 (.bin .shr (q 27) (q 28) tI), oM 6 29, o 7 (.mov (kI 0))]
  .ret)))))⟩
theorem F181_ok : compF Tryz.prog 181 = some F181 := by kernel_rfl
/-- (colonnade/view.View).Load -/
def F182 : FC := ⟨21, [.tmp 6, .tmp 7],
  (sQ [o 3 (.box (q 0)), o 6 (.mov (.const (.int .u64 0))), o 7 (.mov (kI 0))]
  (.seq (sQ [oM 8 2, o 9 (.call 183 [.tmp 8]), o 10 (.un .not (q 9))]
  (.cond (q 10)
  (sQ [o 6 (.mov (.const (.int .u64 0))), o 7 (.mov (kI 1))]
  .ret)
  .skip))
  (.seq (sQ [o 11 (.load true 3 (q 3)), oM 12 1, oM 13 2, o 14 (.call 158 [.tmp 11, .tmp 12, .tmp 13]), o 15 (.un .not (q 14))]
  (.cond (q 15)
  (sQ [o 6 (.mov (.const (.int .u64 0))), o 7 (.mov (kI 2))]
  .ret)
  .skip))
  (sQ [o 16 (.load true 3 (q 3)), oM 17 1, oM 18 2, o 19 (.call 159 [.tmp 16, .tmp 17, .tmp 18]), o 20 (.call 184 [.tmp 19]), oM 6 20, o 7 (.mov (kI 0))]
  .ret))))⟩
theorem F182_ok : compF Tryz.prog 182 = some F182 := by kernel_rfl
/-- colonnade/view.wide -/
def F183 : FC := ⟨17, [.tmp 2],
  (sQ [o 2 (.mov kF)]
  (sQ [oM 3 0, o 4 (.bin .eql (q 3) (kI 1) tI), oM 5 4, og 6 (.mov (q 0)) 5 false, og 7 (.bin .eql (q 6) (kI 2) tI) 5 false, o 8 (.pick (q 5) kT (q 7)), oM 9 8, og 10 (.mov (q 0)) 9 false, og 11 (.bin .eql (q 10) (kI 4) tI) 9 false, o 12 (.pick (q 9) kT (q 11)), oM 13 12, og 14 (.mov (q 0)) 13 false, og 15 (.bin .eql (q 14) (kI 8) tI) 13 false, o 16 (.pick (q 13) kT (q 15)), oM 2 16]
  .ret))⟩
theorem F183_ok : compF Tryz.prog 183 = some F183 := by kernel_rfl
/-- colonnade/view.number -/
def F184 : FC := ⟨22, [.tmp 2],
  (sQ [o 2 (.mov (.const (.int .u64 0)))]
  (sQ [o 3 (.mov (.const (.int .u64 0)))]
  (.seq (sQ [oM 6 0, o 7 (.len 1 (q 6)), o 8 (.mov (kI 0))]
  (.block 0 (.loop (sQ [o 9 (.bin .lss (q 8) (q 7) tI)]
  (.seq (.cond (q 9)
  .skip
  (.exit 0))
  (.seq (.block 1 (sQ [oM 10 8, o 11 (.indexAddr 1 (q 6) (q 8)), oL 12 11, oM 4 10, oM 5 12]
  (.ops [oM 13 3, oM 14 5, o 15 (.conv .u64 (q 14)), oM 16 4, o 17 (.bin .mul (kI 8) (q 16) tI), o 18 (.bin .shl (q 15) (q 17) (some (.int .u64))), o 19 (.bin .or (q 13) (q 18) (some (.int .u64))), oM 3 19])))
  (.ops [o 20 (.bin .add (q 8) (kI 1) tI), oM 8 20])))))))
  (sQ [oM 21 3, oM 2 21]
  .ret))))⟩
theorem F184_ok : compF Tryz.prog 184 = some F184 := by kernel_rfl
/-- (*colonnade/array.Array).number -/
def F191 : FC := ⟨43, [.tmp 6],
  (sQ [o 6 (.mov (kI 0))]
  (sQ [oM 12 1, o 13 (.call 149 [.tmp 12]), oM 7 13]
  (.seq (sQ [oM 14 1, o 15 (.bin .geq (q 14) (kI 3) tI), oM 16 15, og 17 (.mov (q 1)) 16 true, og 18 (.bin .leq (q 17) (kI 6) tI) 16 true, o 19 (.pick (q 16) (q 18) kF)]
  (.cond (q 19)
  (sQ [oM 21 0, o 22 (.call 150 [.tmp 21, (kI 1)]), oM 23 2, oM 24 7, o 25 (.bin .mul (q 23) (q 24) tI), oM 26 7, o 27 (.call 181 [.tmp 22, .tmp 25, .tmp 26]), oM 20 27, o 28 (.extract (q 20) 0), o 29 (.extract (q 20) 1), oM 8 28, oM 9 29]
  (sQ [oM 30 8, oM 6 30]
  .ret))
  .skip))
  (sQ [oM 32 0, o 33 (.call 150 [.tmp 32, (kI 1)]), oM 34 2, oM 35 7, o 36 (.bin .mul (q 34) (q 35) tI), oM 37 7, o 38 (.call 182 [.tmp 33, .tmp 36, .tmp 37]), oM 31 38, o 39 (.extract (q 31) 0), o 40 (.extract (q 31) 1), oM 10 39, oM 11 40]
  (sQ [oM 41 10, o 42 (.conv .i64 (q 41)), oM 6 42]
  .ret)))))⟩
theorem F191_ok : compF Tryz.prog 191 = some F191 := by kernel_rfl
/-- (colonnade/array.flats).read -/
def F194 : FC := ⟨67, [.cell 8 true 4],
  (sQ [o 4 (.box (q 0)), o 8 (.alloc zcZ)]
  (sQ [oM 15 1, o 16 (.nilCheck (q 15)), oA 17 0 16, oA 18 2 17, o 19 (.load true 5 (q 18)), o 9 (.alloc [.int .i64 0, .int .i64 0, .int .i64 0, .int .i64 0, .slice none 0 0]), oS 5 9 19]
  (sQ [oM 20 1, o 21 (.call 150 [.tmp 20, (kI 1)]), o 10 (.alloc [.slice none 0 0, .int .i64 0, .pointer none]), oS 3 10 21]
  (sQ [oM 22 3, o 23 (.call 140 [.tmp 22, (kI 16)])]
  (.seq (sQ [oA 24 0 9, oL 25 24]
  (.block 0 (sQ [o 27 (.bin .eql (q 25) (kI 2) tI), oM 26 27]
  (.cond (q 26)
  (sQ [o 29 (.load true 3 (q 10)), oM 30 2, o 31 (.bin .quo (q 30) (kI 8) tI), o 32 (.call 151 [.tmp 29, .tmp 31]), oM 28 32, o 33 (.extract (q 28) 0), o 34 (.extract (q 28) 1), oM 11 33, oM 12 34]
  (sQ [oM 35 11, oM 36 2, o 37 (.bin .rem (q 36) (kI 8) tI), o 38 (.bin .shr (q 35) (q 37) (some (.int .u8))), o 39 (.bin .and (q 38) (.const (.int .u8 1)) (some (.int .u8))), o 40 (.conv .i64 (q 39)), o 41 (.build zcZ [(1, 1, (q 40))]), oS 4 8 41]
  .ret))
  (sQ [o 43 (.bin .eql (q 25) (kI 14) tI), oM 42 43]
  (.cond (q 42)
  (sQ [oM 44 3, oA 45 1 9, oL 46 45, o 47 (.call 140 [.tmp 44, .tmp 46])]
  (sQ [o 49 (.load true 3 (q 10)), oM 50 2, oA 51 1 9, oL 52 51, o 53 (.bin .mul (q 50) (q 52) tI), oA 54 1 9, oL 55 54, o 56 (.call 180 [.tmp 49, .tmp 53, .tmp 55]), oM 48 56, o 57 (.extract (q 48) 0), o 58 (.extract (q 48) 1), oM 13 57, oM 14 58]
  (sQ [oM 59 13, o 60 (.build zcZ [(2, 1, (q 59))]), oS 4 8 60]
  .ret)))
  .skip))))))
  (sQ [oM 61 1, oA 62 0 9, oL 63 62, oM 64 2, o 65 (.call 191 [.tmp 61, .tmp 63, .tmp 64]), o 66 (.build zcZ [(1, 1, (q 65))]), oS 4 8 66]
  .ret))))))⟩
theorem F194_ok : compF Tryz.prog 194 = some F194 := by kernel_rfl
/-- (*colonnade/array.Array).get -/
def D76 : DF := ⟨14, [.cell 4 true 4, .tmp 5, .cell 6 false 1],
  [(.ops [⟨(some 4), .alloc [(.bool false), (.int .i64 0), (.string ⟨#[]⟩), (.slice none 0 0)], none⟩,
    ⟨(some 5), .mov (.const (.int .i64 0)), none⟩,
    ⟨(some 6), .alloc [(.int .i64 0)], none⟩])],
  [], (.func 102), [(.tmp 6)],
  [(.seq (.ops [⟨(some 7), .alloc [(.int .i64 0)], none⟩,
    ⟨none, .store 1 (.tmp 7) (.const (.int .i64 4194304)), none⟩])
  (.seq (.ops [⟨(some 8), .mov (.tmp 0), none⟩,
    ⟨(some 9), .mov (.tmp 1), none⟩,
    ⟨(some 10), .call 103 [(.tmp 8), (.tmp 9), (.tmp 7)], none⟩,
    ⟨none, .store 4 (.tmp 4) (.tmp 10), none⟩])
  (.seq (.ops [⟨(some 11), .load true 4 (.tmp 4), none⟩,
    ⟨(some 12), .load false 1 (.tmp 7), none⟩,
    ⟨(some 13), .bin .sub (.const (.int .i64 4194304)) (.tmp 12) (some (.int .i64)), none⟩,
    ⟨none, .store 4 (.tmp 4) (.tmp 11), none⟩,
    ⟨none, .again 12 false 1 (.tmp 7), none⟩,
    ⟨(some 5), .mov (.tmp 13), none⟩,
    ⟨none, .store 1 (.tmp 6) (.const (.int .i64 0)), none⟩])
  .ret)))]⟩
theorem D76_ok : compDF Tryz.prog 76 = some D76 := by kernel_rfl
/-- colonnade/array.caught -/
def R102 : RF := ⟨18, [], (some (some 5)),
  [⟨(some 2), .mov (.tmp 5), none⟩],
  [(.seq (.ops [⟨(some 6), .mov (.tmp 2), none⟩,
    ⟨(some 7), .bin .neq (.tmp 6) (.const .nilIface) (some (.interface #[])), none⟩])
  (.cond (.tmp 7)
  (.seq (.seq (.ops [⟨(some 9), .mov (.tmp 2), none⟩,
    ⟨(some 10), .bad, none⟩,
    ⟨(some 8), .mov (.tmp 10), none⟩,
    ⟨(some 11), .extract (.tmp 8) 0, none⟩,
    ⟨(some 12), .extract (.tmp 8) 1, none⟩,
    ⟨(some 3), .alloc [], none⟩,
    ⟨none, .store 0 (.tmp 3) (.tmp 11), none⟩,
    ⟨(some 4), .mov (.tmp 12), none⟩])
  (.seq (.ops [⟨(some 13), .mov (.tmp 4), none⟩,
    ⟨(some 14), .un .not (.tmp 13), none⟩])
  (.cond (.tmp 14)
  (.ops [⟨(some 15), .mov (.tmp 2), none⟩,
    ⟨none, .bad, none⟩])
  .skip)))
  (.ops [⟨(some 16), .mov (.tmp 0), none⟩,
    ⟨(some 17), .nilCheck (.tmp 16), none⟩,
    ⟨none, .store 1 (.tmp 17) (.const (.int .i64 7)), none⟩]))
  .skip))]⟩
theorem R102_ok : compRF Tryz.prog 102 = some R102 := by kernel_rfl
end Go.Proofs.YtecephhhjhpcjaaGreatDoor.Stats
end
section
set_option linter.unusedVariables false
namespace Go.Proofs.YtecephhhjhpcjaaGreatDoor.Stats
open Go Go.Proofs.YtecephhhjhpcjaaGreatDoor Go.Proofs.YtecephhhjhpcjaaGreatDoor.Em
def tabF : List (Nat × FC) := [(3, F3), (6, F6), (7, F7), (8, F8), (9, F9), (15, F15), (16, F16), (17, F17), (18, F18), (19, F19), (20, F20), (21, F21), (22, F22), (23, F23), (24, F24), (28, F28), (31, F31), (37, F37), (38, F38), (39, F39), (40, F40), (42, F42), (43, F43), (44, F44), (45, F45), (46, F46), (47, F47), (48, F48), (49, F49), (50, F50), (51, F51), (52, F52), (55, F55), (56, F56), (57, F57), (58, F58), (59, F59), (62, F62), (64, F64), (65, F65), (66, F66), (67, F67), (68, F68), (69, F69), (70, F70), (71, F71), (72, F72), (73, F73), (74, F74), (75, F75), (77, F77), (78, F78), (79, F79), (80, F80), (81, F81), (82, F82), (83, F83), (84, F84), (85, F85), (86, F86), (87, F87), (89, F89), (90, F90), (91, F91), (92, F92), (93, F93), (94, F94), (95, F95), (97, F97), (98, F98), (99, F99), (100, F100), (101, F101), (103, F103), (104, F104), (105, F105), (106, F106), (107, F107), (108, F108), (111, F111), (112, F112), (113, F113), (114, F114), (115, F115), (116, F116), (117, F117), (118, F118), (119, F119), (120, F120), (121, F121), (122, F122), (123, F123), (126, F126), (127, F127), (129, F129), (130, F130), (131, F131), (132, F132), (133, F133), (136, F136), (138, F138), (139, F139), (140, F140), (141, F141), (142, F142), (143, F143), (144, F144), (145, F145), (147, F147), (148, F148), (149, F149), (150, F150), (151, F151), (152, F152), (153, F153), (155, F155), (156, F156), (157, F157), (158, F158), (159, F159), (160, F160), (181, F181), (182, F182), (183, F183), (184, F184), (191, F191), (194, F194)]
theorem tabF_ok : tabOK (compF Tryz.prog) tabF := ⟨F3_ok, F6_ok, F7_ok, F8_ok, F9_ok, F15_ok, F16_ok, F17_ok, F18_ok, F19_ok, F20_ok, F21_ok, F22_ok, F23_ok, F24_ok, F28_ok, F31_ok, F37_ok, F38_ok, F39_ok, F40_ok, F42_ok, F43_ok, F44_ok, F45_ok, F46_ok, F47_ok, F48_ok, F49_ok, F50_ok, F51_ok, F52_ok, F55_ok, F56_ok, F57_ok, F58_ok, F59_ok, F62_ok, F64_ok, F65_ok, F66_ok, F67_ok, F68_ok, F69_ok, F70_ok, F71_ok, F72_ok, F73_ok, F74_ok, F75_ok, F77_ok, F78_ok, F79_ok, F80_ok, F81_ok, F82_ok, F83_ok, F84_ok, F85_ok, F86_ok, F87_ok, F89_ok, F90_ok, F91_ok, F92_ok, F93_ok, F94_ok, F95_ok, F97_ok, F98_ok, F99_ok, F100_ok, F101_ok, F103_ok, F104_ok, F105_ok, F106_ok, F107_ok, F108_ok, F111_ok, F112_ok, F113_ok, F114_ok, F115_ok, F116_ok, F117_ok, F118_ok, F119_ok, F120_ok, F121_ok, F122_ok, F123_ok, F126_ok, F127_ok, F129_ok, F130_ok, F131_ok, F132_ok, F133_ok, F136_ok, F138_ok, F139_ok, F140_ok, F141_ok, F142_ok, F143_ok, F144_ok, F145_ok, F147_ok, F148_ok, F149_ok, F150_ok, F151_ok, F152_ok, F153_ok, F155_ok, F156_ok, F157_ok, F158_ok, F159_ok, F160_ok, F181_ok, F182_ok, F183_ok, F184_ok, F191_ok, F194_ok, trivial⟩
def tabD : List (Nat × DF) := [(76, D76)]
theorem tabD_ok : tabOK (compDF Tryz.prog) tabD := ⟨D76_ok, trivial⟩
def tabR : List (Nat × RF) := [(102, R102)]
theorem tabR_ok : tabOK (compRF Tryz.prog) tabR := ⟨R102_ok, trivial⟩
def tab : Tab := ⟨findF tabF, findF tabD, findF tabR⟩
theorem tab_ok : tab.OK Tryz.prog := ⟨findF_ok tabF_ok, findF_ok tabD_ok, findF_ok tabR_ok⟩
end Go.Proofs.YtecephhhjhpcjaaGreatDoor.Stats
end
section
set_option linter.unusedVariables false
namespace Go.Proofs.YtecephhhjhpcjaaGreatDoor.Stats
open Go Go.Proofs.YtecephhhjhpcjaaGreatDoor Go.Proofs.YtecephhhjhpcjaaGreatDoor.Em
/-- colonnade/colonnadelaw23.StatsPuts -/
def F4 : FC := ⟨34, [.tmp 4],
  (sQ [o 2 (.box (q 0)), o 4 (.mov kF)]
  (sQ [o 10 (.load true 2 (q 2)), oM 11 1, o 12 (.call 10 [.tmp 10, .tmp 11]), oM 9 12, o 13 (.extract (q 9) 0), o 14 (.extract (q 9) 1), oM 5 13, oM 6 14]
  (sQ [o 16 (.load true 2 (q 2)), oM 17 1, o 18 (.call 11 [.tmp 16, .tmp 17]), oM 15 18, o 19 (.extract (q 15) 0), o 20 (.extract (q 15) 1), oM 7 19, oM 8 20]
  (sQ [oM 21 6, oM 22 8, o 23 (.bin .eql (q 21) (q 22) tI), oM 24 23, og 25 (.mov (q 5)) 24 true, og 26 (.b2s (q 25)) 24 true, og 27 (.mov (q 7)) 24 true, og 28 (.b2s (q 27)) 24 true, og 29 (.bin .eql (q 26) (q 28) (some .string)) 24 true, o 30 (.pick (q 24) (q 29) kF), oM 31 30, og 32 (.call 9 []) 31 true, o 33 (.pick (q 31) (q 32) kF), oM 4 33]
  .ret))))⟩
theorem F4_ok : compF Tryz.prog 4 = some F4 := by kernel_rfl
/-- colonnade/stats.Put -/
def F10 : FC := ⟨59, [.tmp 4, .tmp 5],
  (sQ [o 2 (.box (q 0)), o 4 (.mov (.const (.slice none 0 0))), o 5 (.mov (kI 0))]
  (.seq (sQ [o 11 (.load true 2 (q 2)), oM 12 1, o 13 (.call 25 [.tmp 11, .tmp 12]), oM 6 13]
  (sQ [oM 14 6, o 15 (.bin .neq (q 14) (kI 0) tI)]
  (.cond (q 15)
  (sQ [oM 16 6, o 4 (.mov (.const (.slice none 0 0))), oM 5 16]
  .ret)
  .skip)))
  (sQ [o 7 (.mov (.const (.slice none 0 0)))]
  (.seq (sQ [oM 17 1, o 18 (.len 1 (q 17)), o 19 (.mov (kI 0))]
  (.block 0 (.loop (sQ [o 20 (.bin .lss (q 19) (q 18) tI)]
  (.seq (.cond (q 20)
  .skip
  (.exit 0))
  (.seq (.block 1 (sQ [oM 21 19, o 22 (.indexAddr 11 (q 17) (q 19)), o 23 (.load true 11 (q 22)), o 9 (.alloc zaZ), oM 8 21, oS 11 9 23]
  (sQ [oM 24 7, oA 25 0 9, oL 26 25, o 27 (.call 26 [.tmp 24, .tmp 26, (kI 4)]), oM 7 27]
  (sQ [oM 28 7, oA 29 1 9, oL 30 29, o 31 (.call 26 [.tmp 28, .tmp 30, (kI 4)]), oM 7 31]
  (.seq (sQ [oA 32 2 9, oL 33 32, o 34 (.un .not (q 33))]
  (.cond (q 34)
  (sQ [oM 35 7, o 36 (.buildSlice 1 1 [.int .u8 0] [(0, 1, (.const (.int .u8 0)))]), o 37 (.append 1 1 (q 35) (q 36)), oM 7 37]
  (.exit 1))
  .skip))
  (sQ [oA 38 0 2, oL 39 38, oM 40 8, o 41 (.indexAddr 7 (q 39) (q 40)), o 42 (.load true 7 (q 41)), o 43 (.call 17 [.tmp 42]), o 44 (.field true 2 5 (q 43)), o 45 (.field false 0 1 (q 44)), oM 10 45]
  (.ops [oM 46 7, oM 49 10, oA 50 3 9, o 51 (.load true 4 (q 50)), oM 53 10, oA 54 7 9, o 55 (.load true 4 (q 54)), o 47 (.buildSlice 1 1 [.int .u8 0] [(0, 1, (.const (.int .u8 1)))]), ⟨none, .again 55 true 4 (q 54), none⟩, ⟨none, .again 51 true 4 (q 50), none⟩, o 48 (.append 1 1 (q 46) (q 47)), ⟨none, .again 55 true 4 (q 54), none⟩, ⟨none, .again 51 true 4 (q 50), none⟩, o 52 (.call 27 [.tmp 48, .tmp 49, .tmp 51]), ⟨none, .again 55 true 4 (q 54), none⟩, o 56 (.call 27 [.tmp 52, .tmp 53, .tmp 55]), oM 7 56])))))))
  (.ops [o 57 (.bin .add (q 19) (kI 1) tI), oM 19 57])))))))
  (sQ [oM 58 7, oM 4 58, o 5 (.mov (kI 0))]
  .ret)))))⟩
theorem F10_ok : compF Tryz.prog 10 = some F10 := by kernel_rfl
/-- colonnade/colonnaderef23.Put -/
def F11 : FC := ⟨94, [.tmp 4, .tmp 5],
  (sQ [o 2 (.box (q 0)), o 4 (.mov (.const (.slice none 0 0))), o 5 (.mov (kI 0))]
  (sQ [o 11 (.load true 2 (q 2)), o 12 (.call 28 [.tmp 11]), o 6 (.alloc [.int .i64 0, .slice none 0 0, .int .i64 0]), oS 3 6 12]
  (.seq (.block 0 (sQ [oA 14 0 6, oL 15 14, o 16 (.bin .neq (q 15) (kI 0) tI), oM 13 16]
  (.cond (q 13)
  (sQ [o 4 (.mov (.const (.slice none 0 0))), o 5 (.mov (kI 5))]
  .ret)
  (sQ [oM 18 1, o 19 (.len 1 (q 18)), oA 20 0 2, oL 21 20, o 22 (.len 1 (q 21)), o 23 (.bin .neq (q 19) (q 22) tI), oM 17 23]
  (.cond (q 17)
  (sQ [o 4 (.mov (.const (.slice none 0 0))), o 5 (.mov (kI 6))]
  .ret)
  .skip)))))
  (sQ [o 24 (.buildSlice 1 0 [] []), oM 7 24]
  (.seq (sQ [o 8 (.mov (kI 0))]
  (.block 1 (.loop (.seq (sQ [oM 25 8, oM 26 1, o 27 (.len 1 (q 26)), o 28 (.bin .lss (q 25) (q 27) tI)]
  (.cond (q 28)
  .skip
  (.exit 1)))
  (.seq (.block 2 (sQ [oA 31 0 2, oL 32 31, oM 33 8, o 34 (.indexAddr 7 (q 32) (q 33)), o 35 (.load true 7 (q 34)), oM 36 1, oM 37 8, o 38 (.indexAddr 11 (q 36) (q 37)), o 39 (.load true 11 (q 38)), o 40 (.call 20 [.tmp 35, .tmp 39]), oM 9 40]
  (.seq (sQ [oM 41 9, o 42 (.un .not (q 41))]
  (.cond (q 42)
  (sQ [o 4 (.mov (.const (.slice none 0 0))), o 5 (.mov (kI 7))]
  .ret)
  .skip))
  (sQ [oM 43 7, oM 44 1, oM 45 8, o 46 (.indexAddr 11 (q 44) (q 45)), oA 47 0 46, oL 48 47, o 49 (.conv .u64 (q 48)), o 50 (.call 29 [.tmp 43, .tmp 49, (kI 4)]), oM 7 50]
  (sQ [oM 51 7, oM 52 1, oM 53 8, o 54 (.indexAddr 11 (q 52) (q 53)), oA 55 1 54, oL 56 55, o 57 (.conv .u64 (q 56)), o 58 (.call 29 [.tmp 51, .tmp 57, (kI 4)]), oM 7 58]
  (.seq (sQ [oM 59 1, oM 60 8, o 61 (.indexAddr 11 (q 59) (q 60)), oA 62 2 61, oL 63 62, o 64 (.un .not (q 63))]
  (.cond (q 64)
  (sQ [oM 65 7, o 66 (.buildSlice 1 1 [.int .u8 0] [(0, 1, (.const (.int .u8 0)))]), o 67 (.append 1 1 (q 65) (q 66)), oM 7 67]
  (.exit 2))
  .skip))
  (sQ [oA 68 0 2, oL 69 68, oM 70 8, o 71 (.indexAddr 7 (q 69) (q 70)), o 72 (.load true 7 (q 71)), o 73 (.call 21 [.tmp 72]), oM 10 73]
  (sQ [oM 74 7, o 75 (.buildSlice 1 1 [.int .u8 0] [(0, 1, (.const (.int .u8 1)))]), o 76 (.append 1 1 (q 74) (q 75)), oM 7 76]
  (sQ [oM 77 7, oM 78 10, oM 79 1, oM 80 8, o 81 (.indexAddr 11 (q 79) (q 80)), oA 82 3 81, o 83 (.load true 4 (q 82)), o 84 (.call 30 [.tmp 77, .tmp 78, .tmp 83]), oM 7 84]
  (.ops [oM 85 7, oM 86 10, oM 87 1, oM 88 8, o 89 (.indexAddr 11 (q 87) (q 88)), oA 90 7 89, o 91 (.load true 4 (q 90)), o 92 (.call 30 [.tmp 85, .tmp 86, .tmp 91]), oM 7 92]))))))))))
  (.ops [oM 29 8, o 30 (.bin .add (q 29) (kI 1) tI), oM 8 30]))))))
  (sQ [oM 93 7, oM 4 93, o 5 (.mov (kI 0))]
  .ret))))))⟩
theorem F11_ok : compF Tryz.prog 11 = some F11 := by kernel_rfl
/-- colonnade/stats.fit -/
def F25 : FC := ⟨35, [.tmp 4],
  (sQ [o 2 (.box (q 0)), o 4 (.mov (kI 0))]
  (.seq (.block 0 (sQ [o 8 (.load true 2 (q 2)), o 9 (.call 31 [.tmp 8]), o 10 (.field false 0 1 (q 9)), o 11 (.bin .neq (q 10) (kI 0) tI), oM 7 11]
  (.cond (q 7)
  (sQ [o 4 (.mov (kI 5))]
  .ret)
  (sQ [oM 13 1, o 14 (.len 1 (q 13)), oA 15 0 2, oL 16 15, o 17 (.len 1 (q 16)), o 18 (.bin .neq (q 14) (q 17) tI), oM 12 18]
  (.cond (q 12)
  (sQ [o 4 (.mov (kI 6))]
  .ret)
  .skip)))))
  (.seq (sQ [oM 19 1, o 20 (.len 1 (q 19)), o 21 (.mov (kI 0))]
  (.block 1 (.loop (sQ [o 22 (.bin .lss (q 21) (q 20) tI)]
  (.seq (.cond (q 22)
  .skip
  (.exit 1))
  (.seq (.block 2 (sQ [oM 23 21, o 24 (.indexAddr 11 (q 19) (q 21)), o 25 (.load true 11 (q 24)), o 6 (.alloc zaZ), oM 5 23, oS 11 6 25]
  (sQ [oA 26 0 2, oL 27 26, oM 28 5, o 29 (.indexAddr 7 (q 27) (q 28)), o 30 (.load true 7 (q 29)), o 31 (.load true 11 (q 6)), o 32 (.call 16 [.tmp 30, .tmp 31]), o 33 (.un .not (q 32))]
  (.cond (q 33)
  (sQ [o 4 (.mov (kI 7))]
  .ret)
  .skip))))
  (.ops [o 34 (.bin .add (q 21) (kI 1) tI), oM 21 34])))))))
  (sQ [o 4 (.mov (kI 0))]
  .ret))))⟩
theorem F25_ok : compF Tryz.prog 25 = some F25 := by kernel_rfl
/-- colonnade/stats.number -/
def F26 : FC := ⟨19, [.tmp 6],
  (sQ [o 6 (.mov (.const (.slice none 0 0)))]
  (.seq (sQ [oM 7 2, o 8 (.mov (kI 0))]
  (.block 0 (.loop (sQ [o 9 (.bin .lss (q 8) (q 7) tI)]
  (.seq (.cond (q 9)
  .skip
  (.exit 0))
  (.seq (.block 1 (sQ [oM 10 0, oM 11 1, o 12 (.conv .u8 (q 11)), o 13 (.buildSlice 1 1 [.int .u8 0] [(0, 1, (q 12))]), o 14 (.append 1 1 (q 10) (q 13)), oM 0 14]
  (.ops [oM 15 1, o 16 (.bin .shr (q 15) (.const (.int .u64 8)) tI), oM 1 16])))
  (.ops [o 17 (.bin .add (q 8) (kI 1) tI), oM 8 17])))))))
  (sQ [oM 18 0, oM 6 18]
  .ret)))⟩
theorem F26_ok : compF Tryz.prog 26 = some F26 := by kernel_rfl
/-- colonnade/stats.bound -/
def F27 : FC := ⟨23, [.tmp 6],
  (sQ [o 5 (.box (q 2)), o 6 (.mov (.const (.slice none 0 0)))]
  (.seq (sQ [oM 7 1, o 8 (.call 40 [.tmp 7])]
  (.cond (q 8)
  (sQ [oM 9 0, oA 10 2 5, oL 11 10, o 12 (.len 0 (q 11)), o 13 (.conv .u8 (q 12)), oA 16 2 5, oL 17 16, o 14 (.buildSlice 1 1 [.int .u8 0] [(0, 1, (q 13))]), ⟨none, .again 17 false 1 (q 16), none⟩, o 15 (.append 1 1 (q 9) (q 14)), ⟨none, .again 17 false 1 (q 16), none⟩, o 18 (.append 1 1 (q 15) (q 17)), oM 6 18]
  .ret)
  .skip))
  (sQ [oM 19 0, oA 20 1 5, oL 21 20, o 22 (.call 26 [.tmp 19, .tmp 21, (kI 8)]), oM 6 22]
  .ret)))⟩
theorem F27_ok : compF Tryz.prog 27 = some F27 := by kernel_rfl
/-- colonnade/colonnaderef23.bytes -/
def F29 : FC := ⟨22, [.tmp 6],
  (sQ [o 6 (.mov (.const (.slice none 0 0)))]
  (.seq (sQ [o 7 (.mov (kI 0))]
  (.block 0 (.loop (.seq (sQ [oM 8 7, oM 9 2, o 10 (.bin .lss (q 8) (q 9) tI)]
  (.cond (q 10)
  .skip
  (.exit 0)))
  (.seq (.block 1 (sQ [oM 13 0, oM 14 1, o 15 (.bin .rem (q 14) (.const (.int .u64 256)) (some (.int .u64))), o 16 (.conv .u8 (q 15)), o 17 (.buildSlice 1 1 [.int .u8 0] [(0, 1, (q 16))]), o 18 (.append 1 1 (q 13) (q 17)), oM 0 18]
  (.ops [oM 19 1, o 20 (.bin .quo (q 19) (.const (.int .u64 256)) (some (.int .u64))), oM 1 20])))
  (.ops [oM 11 7, o 12 (.bin .add (q 11) (kI 1) tI), oM 7 12]))))))
  (sQ [oM 21 0, oM 6 21]
  .ret)))⟩
theorem F29_ok : compF Tryz.prog 29 = some F29 := by kernel_rfl
/-- colonnade/colonnaderef23.limit -/
def F30 : FC := ⟨25, [.tmp 6],
  (sQ [o 5 (.box (q 2)), o 6 (.mov (.const (.slice none 0 0)))]
  (.seq (sQ [oM 7 1, o 8 (.call 57 [.tmp 7])]
  (.cond (q 8)
  (sQ [oM 9 0, oA 10 2 5, oL 11 10, o 12 (.len 0 (q 11)), o 13 (.conv .u8 (q 12)), o 14 (.buildSlice 1 1 [.int .u8 0] [(0, 1, (q 13))]), o 15 (.append 1 1 (q 9) (q 14)), oM 0 15]
  (sQ [oM 16 0, oA 17 2 5, oL 18 17, o 19 (.append 1 1 (q 16) (q 18)), oM 6 19]
  .ret))
  .skip))
  (sQ [oM 20 0, oA 21 1 5, oL 22 21, o 23 (.conv .u64 (q 22)), o 24 (.call 29 [.tmp 20, .tmp 23, (kI 8)]), oM 6 24]
  .ret)))⟩
theorem F30_ok : compF Tryz.prog 30 = some F30 := by kernel_rfl
end Go.Proofs.YtecephhhjhpcjaaGreatDoor.Stats
end
section
set_option linter.unusedVariables false
namespace Go.Proofs.YtecephhhjhpcjaaGreatDoor.Stats
open Go Go.Proofs.YtecephhhjhpcjaaGreatDoor Go.Proofs.YtecephhhjhpcjaaGreatDoor.Em
theorem hd : DrawSound Tryz.prog gs := draw_sound (by kernel_rfl)
theorem fixed_val : valX gs tab 100000 9 [] = some (.sb true) := by kernel_rfl
theorem fixed_ok (h : EH) : Tri Tryz.prog gs 9 [] h fun v h' => v = .sb true ∧ h' = h :=
  Tri.litC (φ := fun v => v = .sb true) (fun v hv => by rw [hv]; rfl) rfl ((Tri.closed hd tab_ok (valX_exec fixed_val) rfl).2.mono fun v h' hx => hx.1) h
end Go.Proofs.YtecephhhjhpcjaaGreatDoor.Stats
end
