/- No conditions. -/
import Derived.Test.YtkjhfefbklcciaaGreatDoorMa
import Derived.Test.YtkjhfefbklcciaaGreatDoorX22
import Derived.Test.YtkjhfefbklcciaaGreatDoorX32
import Derived.Test.YtkjhfefbklcciaaGreatDoorX35
import Derived.Test.YtkjhfefbklcciaaGreatDoorX41
import Derived.Test.YtkjhfefbklcciaaGreatDoorX44
import Derived.Test.YtkjhfefbklcciaaGreatDoorX37
import Derived.Test.YtkjhfefbklcciaaGreatDoorX46
import Derived.Test.YtkjhfefbklcciaaGreatDoorX48
import Derived.Test.YtkjhfefbklcciaaGreatDoorProg
import Derived.KernelRfl
set_option linter.unusedVariables false
set_option linter.unusedSimpArgs false
set_option maxRecDepth 100000
set_option maxHeartbeats 16000000
namespace Go.Proofs.YtkjhfefbklcciaaGreatDoor.Stats
open Go Go.Proofs.YtkjhfefbklcciaaGreatDoor Go.Proofs.YtkjhfefbklcciaaGreatDoor.Em
def X211:CF 211:=by refine⟨?_,?h⟩;rotate_left;conv=>lhs;cbv
def F211:FC:=X211.1
theorem F211_ok:Bc Tryz.prog 211=some F211:=X211.2
def X212:CF 212:=by refine⟨?_,?h⟩;rotate_left;conv=>lhs;cbv
def F212:FC:=X212.1
theorem F212_ok:Bc Tryz.prog 212=some F212:=X212.2
def X213:CF 213:=by refine⟨?_,?h⟩;rotate_left;conv=>lhs;cbv
def F213:FC:=X213.1
theorem F213_ok:Bc Tryz.prog 213=some F213:=X213.2
def X214:CF 214:=by refine⟨?_,?h⟩;rotate_left;conv=>lhs;cbv
def F214:FC:=X214.1
theorem F214_ok:Bc Tryz.prog 214=some F214:=X214.2
def X215:CF 215:=by refine⟨?_,?h⟩;rotate_left;conv=>lhs;cbv
def F215:FC:=X215.1
theorem F215_ok:Bc Tryz.prog 215=some F215:=X215.2
def F216 : FC := ⟨26, [.tmp 2], (sQ [o 1 (.box Q0), o 2 (.mov kF)] (.seq (sQ [oA 3 2 1, oA 4 0 3, oL 5 4] (.block 0 (sQ [o 7 (.bin .eql Q5 (kI 1) tI), oM 6 7] (.cond Q6 (sQ [oA 8 1 1, oL 9 8, oM 2 9] .ret) (sQ [o 11 (.bin .eql Q5 (kI 18) tI), oM 10 11] (.cond Q10 (sQ [oA 12 1 1, oL 13 12, o 14 (.un .not Q13), oM 2 14] .ret) (sQ [o 16 (.bin .eql Q5 (kI 20) tI), oM 15 16] (.cond Q15
 (sQ [oA 17 1 1, oL 18 17, oA 19 2 1, oA 20 4 19, oL 21 20, o 22 (.indexAddr 7 Q21 (kI 0)), oA 23 1 22, oL 24 23, o 25 (.bin .eql Q18 Q24 (some .bool)), oM 2 25] .ret) .skip)))))))) (sQ [o 2 (.mov kT)] .ret)))⟩
theorem F216_ok:Bc Tryz.prog 216=some F216:=by kernel_rfl
def F217 : FC := ⟨161, [.cell 4 true 3], (sQ [o 2 (.box Q0), o 3 (.box Q1), o 4 (.alloc [.int .i64 0, .slice none 0 0, .int .i64 0])] (sQ [oA 16 2 2, o 17 (.load true 5 Q16), o 18 (.call 275 [Q17]), oM 15 18, o 19 (.extract Q15 0), o 20 (.extract Q15 1), o 21 (.extract Q15 2), oM 5 19, oM 6 20, oM 7 21] (sQ [oA 22 1 3, oL 23 22, oA 24 0 3, oL 25 24, o 26 (.bin .add Q23 Q25 tI), oM 8 26]
 (.seq (.block 0 (sQ [oA 28 3 3, oL 29 28, o 30 (.len 1 Q29), oM 31 5, o 32 (.bin .neq Q30 Q31 tI), oM 33 32, og 34 (.fieldAddr 4 Q3) 33 false, og 35 (.load false 1 Q34) 33 false, og 36 (.len 1 Q35) 33 false, og 37 (.mov Q6) 33 false, og 38 (.bin .neq Q36 Q37 tI) 33 false, o 39 (.pick Q33 kT Q38), oM 40 39, og 41 (.fieldAddr 5 Q3) 40 false, og 42 (.load false 1 Q41) 40 false, og 43 (.len 1 Q42) 40 false, og 44 (.mov Q7) 40 false, og 45 (.bin .neq Q43 Q44 tI) 40 false, o 46 (.pick Q40 kT Q45), oM 27 46]
 (.cond Q27 (sQ [o 47 (.call 144 [(kI 80), (kI 0)]), oS 3 4 47] .ret)
 (sQ [oA 49 0 3, oL 50 49, o 51 (.bin .lss Q50 (kI 0) tI), oM 52 51, og 53 (.fieldAddr 1 Q3) 52 false, og 54 (.load false 1 Q53) 52 false, og 55 (.bin .lss Q54 (kI 0) tI) 52 false, o 56 (.pick Q52 kT Q55), oM 57 56, og 58 (.fieldAddr 2 Q3) 57 false, og 59 (.load false 1 Q58) 57 false, og 60 (.bin .lss Q59 (kI 0) tI) 57 false, o 61 (.pick Q57 kT Q60), oM 62 61, og 63 (.fieldAddr 2 Q3) 62 false, og 64 (.load false 1 Q63) 62 false, og 65 (.fieldAddr 0 Q3) 62 false, og 66 (.load false 1 Q65) 62 false, og 67 (.bin .gtr Q64 Q66 tI) 62 false, o 68 (.pick Q62 kT Q67), oM 48 68]
 (.cond Q48 (sQ [o 69 (.call 144 [(kI 81), (kI 0)]), oS 3 4 69] .ret) (sQ [oA 71 0 3, oL 72 71, o 73 (.bin .gtr Q72 (kI 4096) tI), oM 74 73, og 75 (.fieldAddr 1 Q3) 74 false, og 76 (.load false 1 Q75) 74 false, og 77 (.bin .gtr Q76 (kI 4096) tI) 74 false, o 78 (.pick Q74 kT Q77), oM 79 78, og 80 (.mov Q8) 79 false, og 81 (.bin .gtr Q80 (kI 4096) tI) 79 false, o 82 (.pick Q79 kT Q81), oM 70 82]
 (.cond Q70 (sQ [o 83 (.call 144 [(kI 3), (kI 0)]), oS 3 4 83] .ret) .skip))))))) (.seq (sQ [oA 84 3 3, oL 85 84, o 86 (.len 1 Q85), o 87 (.mov (kI 0))] (.block 1 (.loop (sQ [o 88 (.bin .lss Q87 Q86 tI)] (.seq (.cond Q88 .skip (.exit 1)) (.seq (.block 2 (sQ [oM 89 87, o 90 (.indexAddr 1 Q85 Q87), oL 91 90, oM 9 89, oM 10 91] (sQ [oM 92 10, o 93 (.len 1 Q92), o 94 (.bin .gtr Q93 (kI 65536) tI)]
 (.cond Q94 (sQ [oM 95 9, o 96 (.call 144 [(kI 4), Q95]), oS 3 4 96] .ret) .skip)))) (.ops [o 97 (.bin .add Q87 (kI 1) tI), oM 87 97]))))))) (.seq (sQ [oA 98 3 3, oL 99 98, o 100 (.len 1 Q99), o 101 (.mov (kI 0))] (.block 3 (.loop (sQ [o 102 (.bin .lss (q 101) (q 100) tI)] (.seq (.cond (q 102) .skip (.exit 3))
 (.seq (.block 4 (sQ [oM 103 101, o 104 (.indexAddr 1 Q99 (q 101)), oL 105 104, oM 11 103, oM 12 105] (sQ [oM 106 12, o 107 (.len 1 (q 106)), oA 108 2 2, o 109 (.load true 5 (q 108)), oM 110 11, oM 111 8, oM 112 12, o 113 (.len 1 (q 112)), o 114 (.call 276 [.tmp 109, .tmp 110, .tmp 111, .tmp 113]), o 115 (.bin .lss (q 107) (q 114) tI)] (.cond (q 115)
 (sQ [oM 116 11, o 117 (.call 144 [(kI 82), .tmp 116]), oS 3 4 117] .ret) .skip)))) (.ops [o 118 (.bin .add (q 101) (kI 1) tI), oM 101 118]))))))) (.seq (sQ [oA 119 4 3, oL 120 119, o 121 (.len 1 (q 120)), o 122 (.mov (kI 0))] (.block 5 (.loop (sQ [o 123 (.bin .lss (q 122) (q 121) tI)] (.seq (.cond (q 123) .skip (.exit 5))
 (.seq (.block 6 (sQ [oM 124 122, o 125 (.indexAddr 6 (q 120) (q 122)), o 126 (.load true 6 (q 125)), o 14 (.alloc [.int .i64 0, .int .i64 0, .int .i64 0, .slice none 0 0, .slice none 0 0, .slice none 0 0]), oM 13 124, oS 6 14 126]
 (sQ [oA 127 2 2, oA 128 0 127, oL 129 128, o 130 (.bin .eql (q 129) (kI 16) tI), oM 131 130, og 132 (.fieldAddr 0 Q14) 131 true, og 133 (.load false 1 (q 132)) 131 true, og 134 (.mov Q8) 131 true, og 135 (.fieldAddr 2 Q2) 131 true, og 136 (.fieldAddr 1 (q 135)) 131 true, og 137 (.load false 1 (q 136)) 131 true, og 138 (.bin .mul (q 134) (q 137) tI) 131 true, og 139 (.bin .lss (q 133) (q 138) tI) 131 true, o 140 (.pick (q 131) (q 139) kF), oM 141 140, og 142 (.fieldAddr 2 Q2) 141 false, og 143 (.fieldAddr 0 (q 142)) 141 false, og 144 (.load false 1 (q 143)) 141 false, og 145 (.bin .eql (q 144) (kI 17) tI) 141 false, og 146 (.mov (q 145)) 141 false, og 147 (.fieldAddr 0 Q14) 146 true, og 148 (.load false 1 (q 147)) 146 true, og 149 (.mov Q8) 146 true, og 150 (.bin .lss (q 148) (q 149) tI) 146 true, og 151 (.pick (q 146) (q 150) kF) 141 false, o 152 (.pick (q 141) kT (q 151))]
 (.cond (q 152) (sQ [oM 153 5, oM 154 13, o 155 (.bin .add (q 153) (q 154) tI), o 156 (.call 144 [(kI 82), .tmp 155]), oS 3 4 156] .ret) .skip)))) (.ops [o 157 (.bin .add (q 122) (kI 1) tI), oM 122 157]))))))) (sQ [o 158 (.load true 7 Q2), o 159 (.load true 6 Q3), o 160 (.call 277 [.tmp 158, .tmp 159]), oS 3 4 160] .ret))))))))⟩
theorem F217_ok:Bc Tryz.prog 217=some F217:=by kernel_rfl
def X218:CF 218:=by refine⟨?_,?h⟩;rotate_left;conv=>lhs;cbv
def F218:FC:=X218.1
theorem F218_ok:Bc Tryz.prog 218=some F218:=X218.2
def X219:CF 219:=by refine⟨?_,?h⟩;rotate_left;conv=>lhs;cbv
def F219:FC:=X219.1
theorem F219_ok:Bc Tryz.prog 219=some F219:=X219.2
def X220:CF 220:=by refine⟨?_,?h⟩;rotate_left;conv=>lhs;cbv
def F220:FC:=X220.1
theorem F220_ok:Bc Tryz.prog 220=some F220:=X220.2
def F221 : FC := ⟨54, [.cell 2 true 3], (sQ [o 1 (.box Q0), o 2 (.alloc [.int .i64 0, .slice none 0 0, .int .i64 0])]
 (sQ [oA 8 4 1, oL 9 8, o 10 (.indexAddr 6 Q9 (kI 0)), o 11 (.load true 6 Q10), oA 12 4 1, oL 13 12, o 14 (.indexAddr 6 Q13 (kI 1)), o 15 (.load true 6 Q14), o 3 (.alloc [.int .i64 0, .int .i64 0, .int .i64 0, .slice none 0 0, .slice none 0 0, .slice none 0 0]), oS 6 3 11, ⟨none, .again 15 true 6 Q14, none⟩, ⟨none, .again 13 false 1 Q12, none⟩, o 4 (.alloc [.int .i64 0, .int .i64 0, .int .i64 0, .slice none 0 0, .slice none 0 0, .slice none 0 0]), oS 6 4 15]
 (.seq (sQ [oA 16 0 3, oL 17 16, oA 18 0 4, oL 19 18, o 20 (.bin .neq Q17 Q19 tI)] (.cond Q20 (sQ [o 21 (.call 144 [(kI 6), (kI 0)]), oS 3 2 21] .ret) .skip)) (sQ [o 5 (.mov (kI 0))] (.seq (sQ [oA 22 0 3, oL 23 22, o 24 (.mov (kI 0))] (.block 0 (.loop (sQ [o 25 (.bin .lss Q24 Q23 tI)] (.seq (.cond Q25 .skip (.exit 0)) (.seq (.block 1 (sQ [oM 26 24, oM 6 26]
 (sQ [oA 27 3 3, oL 28 27, o 29 (.indexAddr 1 Q28 (kI 1)), oL 30 29, oA 31 1 3, oL 32 31, oM 33 6, o 34 (.bin .add Q32 Q33 tI), o 35 (.call 279 [Q30, Q34]), oM 7 35] (.seq (sQ [oM 36 7, oM 37 5, o 38 (.bin .leq Q36 Q37 tI)] (.cond Q38 (sQ [oM 39 6, o 40 (.call 144 [(kI 87), Q39]), oS 3 2 40] .ret) .skip)) (.ops [oM 41 7, oM 5 41]))))) (.ops [o 42 (.bin .add Q24 (kI 1) tI), oM 24 42])))))))
 (.seq (sQ [oM 43 5, oA 44 1 1, oL 45 44, oA 46 0 1, oL 47 46, o 48 (.bin .add Q45 Q47 tI), o 49 (.bin .lss Q43 Q48 tI)] (.cond Q49 (sQ [oA 50 0 3, oL 51 50, o 52 (.call 144 [(kI 87), Q51]), oS 3 2 52] .ret) .skip)) (sQ [o 53 (.build [.int .i64 0, .slice none 0 0, .int .i64 0] []), oS 3 2 53] .ret)))))))⟩
theorem F221_ok:Bc Tryz.prog 221=some F221:=by kernel_rfl
def F222 : FC := ⟨207, [.tmp 6], (sQ [o 3 (.box Q0), o 4 (.box Q1), o 6 (.mov (.const (.slice none 0 0)))] (sQ [oA 19 2 3, o 20 (.load true 5 Q19), o 7 (.alloc [.int .i64 0, .int .i64 0, .int .i64 0, .int .i64 0, .slice none 0 0]), oS 5 7 20] (sQ [oA 21 0 4, oL 22 21, o 23 (.mkSlice 1 8 [.int .i64 0] Q22 Q22), oM 8 23] (sQ [o 9 (.mov (kI 0))]
 (.seq (sQ [oM 24 8, o 25 (.len 1 Q24), o 26 (.mov (kI 0))] (.block 0 (.loop (sQ [o 27 (.bin .lss Q26 Q25 tI)] (.seq (.cond Q27 .skip (.exit 0)) (.seq (.block 1 (sQ [oM 28 26, oM 10 28] (sQ [oA 29 1 4, oL 30 29, oM 31 10, o 32 (.bin .add Q30 Q31 tI), oM 11 32] (sQ [oM 33 8, oM 34 10, o 35 (.indexAddr 1 Q33 Q34), ⟨none, .store 1 Q35 (kI 16), none⟩]
 (.seq (sQ [o 36 (.load true 7 Q3), o 37 (.load true 6 Q4), oM 38 11, o 39 (.call 280 [Q36, Q37, Q38])] (.cond Q39 (.exit 1) .skip)) (sQ [o 12 (.mov (kI 0)), o 13 (.mov (kI 0))] (.seq (sQ [oA 40 0 7, oL 41 40] (.block 2 (sQ [o 43 (.bin .eql Q41 (kI 14) tI), oM 42 43] (.cond Q42
 (.ops [oM 44 8, oM 45 10, o 46 (.indexAddr 1 Q44 Q45), oL 47 46, oA 48 1 7, oL 49 48, o 50 (.bin .add Q47 Q49 tI), o 51 (.indexAddr 1 Q44 Q45), oS 1 51 50]) (.seq (sQ [o 53 (.bin .eql Q41 (kI 12) tI), oM 52 53] (.cond Q52 .skip (.ops [o 54 (.bin .eql Q41 (kI 13) tI), oM 52 54]))) (.cond Q52
 (.ops [oM 55 8, oM 56 10, o 57 (.indexAddr 1 Q55 Q56), oL 58 57, oA 59 3 4, oL 60 59, o 61 (.indexAddr 1 Q60 (kI 1)), oL 62 61, oM 63 11, o 64 (.bin .add Q63 (kI 1) tI), oA 66 3 4, oL 67 66, o 68 (.indexAddr 1 Q67 (kI 1)), oL 69 68, oM 70 11, o 65 (.call 279 [Q62, Q64]), ⟨none, .again 69 false 1 Q68, none⟩, ⟨none, .again 67 false 1 Q66, none⟩, ⟨none, .again 58 false 1 Q57, none⟩, o 71 (.call 279 [Q69, Q70]), ⟨none, .again 58 false 1 Q57, none⟩, o 72 (.bin .sub Q65 Q71 tI), o 73 (.bin .add Q58 Q72 tI), o 74 (.indexAddr 1 Q55 Q56), oS 1 74 73])
 (sQ [o 76 (.bin .eql Q41 (kI 15) tI), oM 75 76] (.cond Q75 (.ops [oA 77 3 4, oL 78 77, o 79 (.indexAddr 1 Q78 (kI 1)), oL 80 79, oM 81 11, oA 83 3 4, oL 84 83, o 85 (.indexAddr 1 Q84 (kI 1)), oL 86 85, oM 87 11, o 88 (.bin .add Q87 (kI 1) tI), o 82 (.call 279 [Q80, Q81]), ⟨none, .again 86 false 1 Q85, none⟩, ⟨none, .again 84 false 1 Q83, none⟩, o 89 (.call 279 [Q86, Q88]), oM 12 82, oM 13 89])
 (sQ [o 91 (.bin .eql Q41 (kI 16) tI), oM 90 91] (.cond Q90 (.ops [oM 92 11, oA 93 1 7, oL 94 93, o 95 (.bin .mul Q92 Q94 tI), oM 96 11, o 97 (.bin .add Q96 (kI 1) tI), oA 98 1 7, oL 99 98, o 100 (.bin .mul Q97 Q99 tI), oM 12 95, oM 13 100]) (sQ [o 102 (.bin .eql Q41 (kI 17) tI), oM 101 102] (.cond (q 101) (sQ [oM 103 2, o 104 (.len 1 (q 103)), o 105 (.mov (kI 0))]
 (.block 3 (.loop (sQ [o 106 (.bin .lss (q 105) (q 104) tI)] (.seq (.cond (q 106) .skip (.exit 3)) (.seq (.block 4 (sQ [o 107 (.indexAddr 1 (q 103) (q 105)), oL 108 107, oM 15 108]
 (.ops [oM 109 8, oM 110 10, o 111 (.indexAddr 1 (q 109) (q 110)), oL 112 111, oM 113 15, oM 114 11, o 115 (.indexAddr 1 (q 113) (q 114)), oL 116 115, o 117 (.bin .add (q 112) (q 116) tI), o 118 (.indexAddr 1 (q 109) (q 110)), oS 1 118 117]))) (.ops [o 119 (.bin .add (q 105) (kI 1) tI), oM 105 119]))))))) (sQ [o 121 (.bin .eql Q41 (kI 18) tI), oM 120 121] (.cond (q 120)
 (.ops [oM 122 8, oM 123 10, o 124 (.indexAddr 1 (q 122) (q 123)), oL 125 124, oM 126 2, oA 127 3 4, oL 128 127, o 129 (.indexAddr 1 (q 128) (kI 0)), oL 130 129, oM 131 11, o 132 (.indexAddr 1 (q 130) (q 131)), oL 133 132, o 134 (.indexAddr 1 (q 126) (q 133)), oL 135 134, oA 136 3 4, oL 137 136, o 138 (.indexAddr 1 (q 137) (kI 1)), oL 139 138, oM 140 11, o 141 (.call 279 [.tmp 139, .tmp 140]), ⟨none, .again 135 false 1 (q 134), none⟩, ⟨none, .again 133 false 1 (q 132), none⟩, ⟨none, .again 130 false 1 (q 129), none⟩, ⟨none, .again 128 false 1 (q 127), none⟩, ⟨none, .again 125 false 1 (q 124), none⟩, o 142 (.indexAddr 1 (q 135) (q 141)), oL 143 142, o 144 (.bin .add (q 125) (q 143) tI), o 145 (.indexAddr 1 (q 122) (q 123)), oS 1 145 144])
 (sQ [o 147 (.bin .eql Q41 (kI 19) tI), oM 146 147] (.cond (q 146)
 (.ops [oM 148 8, oM 149 10, oM 150 2, o 151 (.indexAddr 1 (q 150) (kI 0)), oL 152 151, o 153 (.load true 7 Q3), o 154 (.load true 6 Q4), oM 155 11, o 156 (.call 281 [.tmp 153, .tmp 154, .tmp 155]), ⟨none, .again 152 false 1 (q 151), none⟩, o 157 (.indexAddr 1 (q 152) (q 156)), oL 158 157, o 159 (.indexAddr 1 (q 148) (q 149)), oS 1 159 158]) (sQ [o 161 (.bin .eql Q41 (kI 20) tI), oM 160 161]
 (.cond (q 160) (sQ [oA 162 4 4, oL 163 162, o 164 (.indexAddr 6 (q 163) (kI 0)), o 165 (.load true 6 (q 164)), o 16 (.alloc [.int .i64 0, .int .i64 0, .int .i64 0, .slice none 0 0, .slice none 0 0, .slice none 0 0]), oS 6 16 165]
 (.seq (.block 5 (.loop (.seq (sQ [oA 166 3 16, oL 167 166, o 168 (.indexAddr 1 (q 167) (kI 1)), oL 169 168, oA 170 1 16, oL 171 170, oM 172 9, o 173 (.bin .add (q 171) (q 172) tI), oM 175 11, o 174 (.call 279 [.tmp 169, .tmp 173]), o 176 (.bin .leq (q 174) (q 175) tI)] (.cond (q 176) .skip (.exit 5))) (.block 6 (.ops [oM 177 9, o 178 (.bin .add (q 177) (kI 1) tI), oM 9 178])))))
 (.ops [oM 179 8, oM 180 10, oM 181 2, o 182 (.indexAddr 1 (q 181) (kI 1)), oL 183 182, oM 184 9, o 185 (.indexAddr 1 (q 183) (q 184)), oL 186 185, o 187 (.indexAddr 1 (q 179) (q 180)), oS 1 187 186]))) .skip)))))))))))))))))) (sQ [oM 188 2, oM 189 12, oM 190 13, o 191 (.call 282 [.tmp 188, .tmp 189, .tmp 190]), o 192 (.len 1 (q 191)), o 193 (.mov (kI 0))]
 (.block 7 (.loop (sQ [o 194 (.bin .lss (q 193) (q 192) tI)] (.seq (.cond (q 194) .skip (.exit 7)) (.seq (.block 8 (sQ [o 195 (.indexAddr 1 (q 191) (q 193)), oL 196 195, oM 18 196] (.ops [oM 197 8, oM 198 10, o 199 (.indexAddr 1 (q 197) (q 198)), oL 200 199, oM 201 18, o 202 (.bin .add (q 200) (q 201) tI), o 203 (.indexAddr 1 (q 197) (q 198)), oS 1 203 202])))
 (.ops [o 204 (.bin .add (q 193) (kI 1) tI), oM 193 204])))))))))))))) (.ops [o 205 (.bin .add Q26 (kI 1) tI), oM 26 205]))))))) (sQ [oM 206 8, oM 6 206] .ret))))))⟩
theorem F222_ok:Bc Tryz.prog 222=some F222:=by kernel_rfl
def X224:CF 224:=by refine⟨?_,?h⟩;rotate_left;conv=>lhs;cbv
def F224:FC:=X224.1
theorem F224_ok:Bc Tryz.prog 224=some F224:=X224.2
def X225:CF 225:=by refine⟨?_,?h⟩;rotate_left;conv=>lhs;cbv
def F225:FC:=X225.1
theorem F225_ok:Bc Tryz.prog 225=some F225:=X225.2
def X226:CF 226:=by refine⟨?_,?h⟩;rotate_left;conv=>lhs;cbv
def F226:FC:=X226.1
theorem F226_ok:Bc Tryz.prog 226=some F226:=X226.2
def X227:CF 227:=by refine⟨?_,?h⟩;rotate_left;conv=>lhs;cbv
def F227:FC:=X227.1
theorem F227_ok:Bc Tryz.prog 227=some F227:=X227.2
def X228:CF 228:=by refine⟨?_,?h⟩;rotate_left;conv=>lhs;cbv
def F228:FC:=X228.1
theorem F228_ok:Bc Tryz.prog 228=some F228:=X228.2
def X229:CF 229:=by refine⟨?_,?h⟩;rotate_left;conv=>lhs;cbv
def F229:FC:=X229.1
theorem F229_ok:Bc Tryz.prog 229=some F229:=X229.2
def X230:CF 230:=by refine⟨?_,?h⟩;rotate_left;conv=>lhs;cbv
def F230:FC:=X230.1
theorem F230_ok:Bc Tryz.prog 230=some F230:=X230.2
def X231:CF 231:=by refine⟨?_,?h⟩;rotate_left;conv=>lhs;cbv
def F231:FC:=X231.1
theorem F231_ok:Bc Tryz.prog 231=some F231:=X231.2
def X232:CF 232:=by refine⟨?_,?h⟩;rotate_left;conv=>lhs;cbv
def F232:FC:=X232.1
theorem F232_ok:Bc Tryz.prog 232=some F232:=X232.2
def X233:CF 233:=by refine⟨?_,?h⟩;rotate_left;conv=>lhs;cbv
def F233:FC:=X233.1
theorem F233_ok:Bc Tryz.prog 233=some F233:=X233.2
def F234 : FC := ⟨51, [.tmp 6, .tmp 7, .tmp 8], (sQ [o 3 (.box Q0), o 4 (.box Q1), o 6 (.mov (kI 0)), o 7 (.mov (kI 0)), o 8 (.mov kF)] (.seq (sQ [oA 11 2 3, oA 12 0 11, oL 13 12, o 14 (.bin .eql Q13 (kI 16) tI)] (.cond Q14
 (sQ [oM 15 2, oA 16 2 3, oA 17 1 16, oL 18 17, o 19 (.bin .mul Q15 Q18 tI), oM 20 2, o 21 (.bin .add Q20 (kI 1) tI), oA 22 2 3, oA 23 1 22, oL 24 23, o 25 (.bin .mul Q21 Q24 tI), oM 6 19, oM 7 25, o 8 (.mov kT)] .ret) .skip))
 (sQ [o 26 (.load true 6 Q4), oM 27 2, o 29 (.load true 6 Q4), oM 30 2, o 31 (.bin .add Q30 (kI 1) tI), o 28 (.call 160 [Q26, Q27]), ⟨none, .again 29 true 6 Q4, none⟩, o 32 (.call 160 [Q29, Q31]), oM 9 28, oM 10 32]
 (.seq (sQ [oM 33 9, o 34 (.bin .lss Q33 (kI 0) tI), oM 35 34, og 36 (.mov Q10) 35 false, og 37 (.mov Q9) 35 false, og 38 (.bin .lss Q36 Q37 tI) 35 false, o 39 (.pick Q35 kT Q38), oM 40 39, og 41 (.mov Q10) 40 false, og 42 (.fieldAddr 4 Q4) 40 false, og 43 (.load false 1 Q42) 40 false, og 44 (.indexAddr 6 Q43 (kI 0)) 40 false, og 45 (.fieldAddr 0 Q44) 40 false, og 46 (.load false 1 Q45) 40 false, og 47 (.bin .gtr Q41 Q46 tI) 40 false, o 48 (.pick Q40 kT Q47)]
 (.cond Q48 (sQ [o 6 (.mov (kI 0)), o 7 (.mov (kI 0)), o 8 (.mov kF)] .ret) .skip)) (sQ [oM 49 9, oM 50 10, oM 6 49, oM 7 50, o 8 (.mov kT)] .ret)))))⟩
theorem F234_ok:Bc Tryz.prog 234=some F234:=by kernel_rfl
def X235:CF 235:=by refine⟨?_,?h⟩;rotate_left;conv=>lhs;cbv
def F235:FC:=X235.1
theorem F235_ok:Bc Tryz.prog 235=some F235:=X235.2
def X236:CF 236:=by refine⟨?_,?h⟩;rotate_left;conv=>lhs;cbv
def F236:FC:=X236.1
theorem F236_ok:Bc Tryz.prog 236=some F236:=X236.2
def X237:CF 237:=by refine⟨?_,?h⟩;rotate_left;conv=>lhs;cbv
def F237:FC:=X237.1
theorem F237_ok:Bc Tryz.prog 237=some F237:=X237.2
def X238:CF 238:=by refine⟨?_,?h⟩;rotate_left;conv=>lhs;cbv
def F238:FC:=X238.1
theorem F238_ok:Bc Tryz.prog 238=some F238:=X238.2
def X239:CF 239:=by refine⟨?_,?h⟩;rotate_left;conv=>lhs;cbv
def F239:FC:=X239.1
theorem F239_ok:Bc Tryz.prog 239=some F239:=X239.2
def X240:CF 240:=by refine⟨?_,?h⟩;rotate_left;conv=>lhs;cbv
def F240:FC:=X240.1
theorem F240_ok:Bc Tryz.prog 240=some F240:=X240.2
def X241:CF 241:=by refine⟨?_,?h⟩;rotate_left;conv=>lhs;cbv
def F241:FC:=X241.1
theorem F241_ok:Bc Tryz.prog 241=some F241:=X241.2
def X242:CF 242:=by refine⟨?_,?h⟩;rotate_left;conv=>lhs;cbv
def F242:FC:=X242.1
theorem F242_ok:Bc Tryz.prog 242=some F242:=X242.2
def X243:CF 243:=by refine⟨?_,?h⟩;rotate_left;conv=>lhs;cbv
def F243:FC:=X243.1
theorem F243_ok:Bc Tryz.prog 243=some F243:=X243.2
def F244 : FC := ⟨95, [.tmp 2], (sQ [o 1 (.box Q0), o 2 (.mov kF)] (sQ [o 3 (.mov (kI 0)), o 4 (.mov (kI 0))] (sQ [oA 9 1 1, oL 10 9, o 11 (.bin .eql Q10 (kI 0) tI), oA 12 2 1, oL 13 12, o 14 (.bin .eql Q13 (kI 0) tI), oA 15 3 1, oL 16 15, o 17 (.bin .eql Q16 (kI 0) tI), oM 5 11, oM 6 14, oM 7 17] (.seq (sQ [oA 18 0 1, oL 19 18] (.block 0 (sQ [o 21 (.bin .eql Q19 (kI 14) tI), oM 20 21] (.cond Q20
 (.ops [oA 22 1 1, oL 23 22, o 24 (.bin .geq Q23 (kI 1) tI), oM 25 24, og 26 (.fieldAddr 1 Q1) 25 true, og 27 (.load false 1 Q26) 25 true, og 28 (.bin .leq Q27 (kI 16) tI) 25 true, o 29 (.pick Q25 Q28 kF), oM 5 29]) (.seq (sQ [o 31 (.bin .eql Q19 (kI 15) tI), oM 30 31] (.cond Q30 .skip (.ops [o 32 (.bin .eql Q19 (kI 20) tI), oM 30 32]))) (.cond Q30 (.ops [o 3 (.mov (kI 1)), o 4 (.mov (kI 1))])
 (sQ [o 34 (.bin .eql Q19 (kI 16) tI), oM 33 34] (.cond Q33 (sQ [o 3 (.mov (kI 1)), o 4 (.mov (kI 1))] (.ops [oA 35 1 1, oL 36 35, o 37 (.bin .geq Q36 (kI 1) tI), oM 38 37, og 39 (.fieldAddr 1 Q1) 38 true, og 40 (.load false 1 Q39) 38 true, og 41 (.bin .leq Q40 (kI 64) tI) 38 true, o 42 (.pick Q38 Q41 kF), oM 5 42])) (sQ [o 44 (.bin .eql Q19 (kI 17) tI), oM 43 44] (.cond Q43
 (.ops [o 4 (.mov (kI 32))]) (sQ [o 46 (.bin .eql Q19 (kI 18) tI), oM 45 46] (.cond Q45 (.ops [o 3 (.mov (kI 1)), o 4 (.mov (kI 32))]) (sQ [o 48 (.bin .eql Q19 (kI 19) tI), oM 47 48] (.cond Q47 (sQ [o 3 (.mov (kI 1)), o 4 (.mov (kI 1))]
 (sQ [oA 49 2 1, oL 50 49, o 51 (.bin .geq Q50 (kI 0) tI), oM 52 51, og 53 (.fieldAddr 2 Q1) 52 true, og 54 (.load false 1 Q53) 52 true, og 55 (.bin .lss Q54 (kI 32) tI) 52 true, o 56 (.pick Q52 Q55 kF), oM 6 56]
 (.ops [oA 57 3 1, oL 58 57, o 59 (.bin .geq Q58 (kI 3) tI), oM 60 59, og 61 (.fieldAddr 3 Q1) 60 true, og 62 (.load false 1 Q61) 60 true, og 63 (.bin .leq Q62 (kI 10) tI) 60 true, o 64 (.pick Q60 Q63 kF), oM 7 64]))) .skip)))))))))))))) (sQ [oA 65 4 1, oL 66 65, o 67 (.len 1 Q66), oM 8 67]
 (sQ [oA 68 0 1, oL 69 68, o 70 (.bin .geq Q69 (kI 1) tI), oM 71 70, og 72 (.fieldAddr 0 Q1) 71 true, og 73 (.load false 1 Q72) 71 true, og 74 (.bin .leq Q73 (kI 20) tI) 71 true, o 75 (.pick Q71 Q74 kF), oM 76 75, og 77 (.mov Q5) 76 true, o 78 (.pick Q76 Q77 kF), oM 79 78, og 80 (.mov Q6) 79 true, o 81 (.pick Q79 Q80 kF), oM 82 81, og 83 (.mov Q7) 82 true, o 84 (.pick Q82 Q83 kF), oM 85 84, og 86 (.mov Q8) 85 true, og 87 (.mov Q3) 85 true, og 88 (.bin .geq Q86 Q87 tI) 85 true, o 89 (.pick Q85 Q88 kF), oM 90 89, og 91 (.mov Q8) 90 true, og 92 (.mov Q4) 90 true, og 93 (.bin .leq Q91 Q92 tI) 90 true, o 94 (.pick Q90 Q93 kF), oM 2 94]
 .ret))))))⟩
theorem F244_ok:Bc Tryz.prog 244=some F244:=by kernel_rfl
def F245 : FC := ⟨26, [.tmp 2], (sQ [o 1 (.box Q0), o 2 (.mov kF)] (.seq (sQ [oA 3 2 1, oA 4 0 3, oL 5 4] (.block 0 (sQ [o 7 (.bin .eql Q5 (kI 1) tI), oM 6 7] (.cond Q6 (sQ [oA 8 1 1, oL 9 8, oM 2 9] .ret) (sQ [o 11 (.bin .eql Q5 (kI 18) tI), oM 10 11] (.cond Q10 (sQ [oA 12 1 1, oL 13 12, o 14 (.un .not Q13), oM 2 14] .ret) (sQ [o 16 (.bin .eql Q5 (kI 20) tI), oM 15 16] (.cond Q15
 (sQ [oA 17 1 1, oL 18 17, oA 19 2 1, oA 20 4 19, oL 21 20, o 22 (.indexAddr 7 Q21 (kI 0)), oA 23 1 22, oL 24 23, o 25 (.bin .eql Q18 Q24 (some .bool)), oM 2 25] .ret) .skip)))))))) (sQ [o 2 (.mov kT)] .ret)))⟩
theorem F245_ok:Bc Tryz.prog 245=some F245:=by kernel_rfl
def F246 : FC := ⟨55, [.tmp 4], (sQ [o 2 (.box Q0), o 3 (.box Q1), o 4 (.mov kF)]
 (.seq (sQ [oA 7 0 2, oL 8 7, oA 9 0 3, oL 10 9, o 11 (.bin .neq Q8 Q10 (some .bool)), oM 12 11, og 13 (.fieldAddr 1 Q2) 12 false, og 14 (.load false 1 Q13) 12 false, og 15 (.fieldAddr 1 Q3) 12 false, og 16 (.load false 1 Q15) 12 false, og 17 (.bin .neq Q14 Q16 tI) 12 false, o 18 (.pick Q12 kT Q17), oM 19 18, og 20 (.fieldAddr 2 Q2) 19 false, og 21 (.load false 1 Q20) 19 false, og 22 (.fieldAddr 2 Q3) 19 false, og 23 (.load false 1 Q22) 19 false, og 24 (.bin .neq Q21 Q23 (some .string)) 19 false, o 25 (.pick Q19 kT Q24), oM 26 25, og 27 (.fieldAddr 3 Q2) 26 false, og 28 (.load false 1 Q27) 26 false, og 29 (.len 1 Q28) 26 false, og 30 (.fieldAddr 3 Q3) 26 false, og 31 (.load false 1 Q30) 26 false, og 32 (.len 1 Q31) 26 false, og 33 (.bin .neq Q29 Q32 tI) 26 false, o 34 (.pick Q26 kT Q33)]
 (.cond Q34 (sQ [o 4 (.mov kF)] .ret) .skip)) (.seq (sQ [o 5 (.mov (kI 0))] (.block 0 (.loop (.seq (sQ [oM 35 5, oA 36 3 2, oL 37 36, o 38 (.len 1 Q37), o 39 (.bin .lss Q35 Q38 tI)] (.cond Q39 .skip (.exit 0)))
 (.seq (.block 1 (sQ [oA 42 3 2, oL 43 42, oM 44 5, o 45 (.indexAddr 4 Q43 Q44), o 46 (.load true 4 Q45), oA 47 3 3, oL 48 47, oM 49 5, o 50 (.indexAddr 4 Q48 Q49), o 51 (.load true 4 Q50), o 52 (.call 246 [Q46, Q51]), oM 6 52] (sQ [oM 53 6, o 54 (.un .not Q53)] (.cond Q54 (sQ [o 4 (.mov kF)] .ret) .skip)))) (.ops [oM 40 5, o 41 (.bin .add Q40 (kI 1) tI), oM 5 41])))))) (sQ [o 4 (.mov kT)]
 .ret))))⟩
theorem F246_ok:Bc Tryz.prog 246=some F246:=by kernel_rfl
def F247 : FC := ⟨122, [.tmp 2], (sQ [o 2 (.mov (kI 0))] (sQ [oM 12 0, o 13 (.nilCheck Q12), oA 14 0 13, oA 15 2 14, o 16 (.load true 5 Q15), o 3 (.alloc [.int .i64 0, .int .i64 0, .int .i64 0, .int .i64 0, .slice none 0 0]), oS 5 3 16] (.seq (sQ [oM 17 0, o 18 (.nilCheck Q17), oA 19 0 18, o 20 (.load true 7 Q19), o 21 (.call 291 [Q20]), o 22 (.bin .leq Q21 (kI 4194304) tI)] (.cond Q22
 (sQ [oM 24 0, o 25 (.nilCheck Q24), oA 26 0 25, o 27 (.load true 7 Q26), o 28 (.call 292 [Q27]), oM 23 28, o 29 (.extract Q23 0), o 30 (.extract Q23 1), o 4 (.alloc zbZ), oS 4 4 29, oM 5 30] (sQ [oM 31 0, o 32 (.load true 4 Q4), o 33 (.call 72 [Q31, Q32]), oM 2 33] .ret)) .skip)) (.seq (sQ [oM 34 0, o 35 (.nilCheck Q34), oA 36 7 35, oL 37 36, o 38 (.bin .geq Q37 (kI 4096) tI)] (.cond Q38
 (sQ [o 2 (.mov (kI 3))] .ret) .skip)) (sQ [oM 39 0, o 40 (.nilCheck Q39), oA 41 7 40, oL 42 41, o 43 (.bin .add Q42 (kI 1) tI), o 44 (.nilCheck Q39), oA 45 7 44, oS 1 45 43] (.seq (sQ [oA 46 0 3, oL 47 46] (.block 0 (sQ [o 49 (.bin .eql Q47 (kI 16) tI), oM 48 49] (.cond Q48 (sQ [o 6 (.mov (kI 0))] (.block 1 (.loop (.seq (sQ [oM 50 6, oA 51 1 3, oL 52 51, o 53 (.bin .lss Q50 Q52 tI)] (.cond Q53
 .skip (.exit 1))) (.seq (.block 2 (sQ [oM 56 0, o 57 (.nilCheck Q56), oA 58 18 57, oL 59 58, o 60 (.indexAddr 1 Q59 (kI 0)), oL 61 60, o 62 (.call 247 [Q61]), oM 7 62] (sQ [oM 63 7, o 64 (.bin .neq Q63 (kI 0) tI)] (.cond Q64 (sQ [oM 65 7, oM 2 65] .ret) .skip)))) (.ops [oM 54 6, o 55 (.bin .add Q54 (kI 1) tI), oM 6 55])))))) (sQ [o 67 (.bin .eql Q47 (kI 17) tI), oM 66 67] (.cond Q66
 (sQ [o 8 (.mov (kI 0))] (.block 3 (.loop (.seq (sQ [oM 68 8, oM 69 0, o 70 (.nilCheck Q69), oA 71 18 70, oL 72 71, o 73 (.len 1 Q72), o 74 (.bin .lss Q68 Q73 tI)] (.cond Q74 .skip (.exit 3))) (.seq (.block 4 (sQ [oM 77 0, o 78 (.nilCheck Q77), oA 79 18 78, oL 80 79, oM 81 8, o 82 (.indexAddr 1 Q80 Q81), oL 83 82, o 84 (.call 247 [Q83]), oM 9 84] (sQ [oM 85 9, o 86 (.bin .neq Q85 (kI 0) tI)]
 (.cond Q86 (sQ [oM 87 9, oM 2 87] .ret) .skip)))) (.ops [oM 75 8, o 76 (.bin .add Q75 (kI 1) tI), oM 8 76])))))) (sQ [o 89 (.bin .eql Q47 (kI 19) tI), oM 88 89] (.cond Q88 (.seq (sQ [oM 90 0, o 91 (.nilCheck Q90), oA 92 17 91, oL 93 92, o 94 (.len 1 Q93), oA 95 3 3, oL 96 95, o 97 (.call 248 [Q96]), ⟨none, .again 93 false 1 Q92, none⟩, o 98 (.bin .geq Q94 Q97 tI)] (.cond Q98
 (sQ [o 2 (.mov (kI 102))] .ret) .skip)) (sQ [oM 99 0, o 100 (.nilCheck Q99), oA 101 18 100, oL 102 101, o 103 (.indexAddr 1 (q 102) (kI 0)), oL 104 103, o 105 (.call 247 [.tmp 104]), oM 10 105] (sQ [oM 106 10, o 107 (.bin .neq (q 106) (kI 0) tI)] (.cond (q 107) (sQ [oM 108 10, oM 2 108] .ret) .skip)))) (.seq (sQ [o 110 (.bin .eql Q47 (kI 18) tI), oM 109 110] (.cond (q 109) .skip
 (.ops [o 111 (.bin .eql Q47 (kI 20) tI), oM 109 111]))) (.cond (q 109) (sQ [oM 112 0, o 113 (.nilCheck (q 112)), oA 114 18 113, oL 115 114, o 116 (.indexAddr 1 (q 115) (kI 0)), oL 117 116, o 118 (.call 247 [.tmp 117]), oM 11 118] (sQ [oM 119 11, o 120 (.bin .neq (q 119) (kI 0) tI)] (.cond (q 120) (sQ [oM 121 11, oM 2 121] .ret) .skip))) .skip)))))))))) (sQ [o 2 (.mov (kI 3))] .ret)))))))⟩
theorem F247_ok:Bc Tryz.prog 247=some F247:=by kernel_rfl
def X248:CF 248:=by refine⟨?_,?h⟩;rotate_left;conv=>lhs;cbv
def F248:FC:=X248.1
theorem F248_ok:Bc Tryz.prog 248=some F248:=X248.2
def X249:CF 249:=by refine⟨?_,?h⟩;rotate_left;conv=>lhs;cbv
def F249:FC:=X249.1
theorem F249_ok:Bc Tryz.prog 249=some F249:=X249.2
def X250:CF 250:=by refine⟨?_,?h⟩;rotate_left;conv=>lhs;cbv
def F250:FC:=X250.1
theorem F250_ok:Bc Tryz.prog 250=some F250:=X250.2
def F252 : FC := ⟨41, [.tmp 4], (sQ [o 4 (.mov (kI 0))] (.seq (sQ [oM 6 0, o 7 (.len 1 Q6), oM 8 1, o 9 (.len 1 Q8), o 10 (.bin .neq Q7 Q9 tI)] (.cond Q10 (.seq (sQ [oM 11 0, o 12 (.len 1 Q11), oM 13 1, o 14 (.len 1 Q13), o 15 (.bin .lss Q12 Q14 tI)] (.cond Q15 (sQ [o 4 (.mov (kI (-1)))] .ret) .skip)) (sQ [o 4 (.mov (kI 1))] .ret)) .skip))
 (.seq (sQ [oM 16 0, o 17 (.len 1 Q16), o 18 (.bin .sub Q17 (kI 1) tI), oM 5 18] (.block 0 (.loop (.seq (sQ [oM 19 5, o 20 (.bin .geq Q19 (kI 0) tI)] (.cond Q20 .skip (.exit 0))) (.seq (.block 1 (sQ [oM 23 0, oM 24 5, o 25 (.indexAddr 1 Q23 Q24), oL 26 25, oM 27 1, oM 28 5, o 29 (.indexAddr 1 Q27 Q28), oL 30 29, o 31 (.bin .neq Q26 Q30 (some (.int .u32)))] (.cond Q31
 (.seq (sQ [oM 32 0, oM 33 5, o 34 (.indexAddr 1 Q32 Q33), oL 35 34, oM 36 1, oM 37 5, o 38 (.indexAddr 1 Q36 Q37), oL 39 38, o 40 (.bin .lss Q35 Q39 (some (.int .u32)))] (.cond Q40 (sQ [o 4 (.mov (kI (-1)))] .ret) .skip)) (sQ [o 4 (.mov (kI 1))] .ret)) .skip))) (.ops [oM 21 5, o 22 (.bin .sub Q21 (kI 1) tI), oM 5 22])))))) (sQ [o 4 (.mov (kI 0))] .ret))))⟩
theorem F252_ok:Bc Tryz.prog 252=some F252:=by kernel_rfl
def X254:CF 254:=by refine⟨?_,?h⟩;rotate_left;conv=>lhs;cbv
def F254:FC:=X254.1
theorem F254_ok:Bc Tryz.prog 254=some F254:=X254.2
def X256:CF 256:=by refine⟨?_,?h⟩;rotate_left;conv=>lhs;cbv
def F256:FC:=X256.1
theorem F256_ok:Bc Tryz.prog 256=some F256:=X256.2
def X257:CF 257:=by refine⟨?_,?h⟩;rotate_left;conv=>lhs;cbv
def F257:FC:=X257.1
theorem F257_ok:Bc Tryz.prog 257=some F257:=X257.2
def X258:CF 258:=by refine⟨?_,?h⟩;rotate_left;conv=>lhs;cbv
def F258:FC:=X258.1
theorem F258_ok:Bc Tryz.prog 258=some F258:=X258.2
def X259:CF 259:=by refine⟨?_,?h⟩;rotate_left;conv=>lhs;cbv
def F259:FC:=X259.1
theorem F259_ok:Bc Tryz.prog 259=some F259:=X259.2
def F260 : FC := ⟨54, [.tmp 6], (sQ [o 4 (.box Q1), o 6 (.mov kF)]
 (.seq (sQ [oA 10 0 4, oL 11 10, o 12 (.bin .eql Q11 (kI 16) tI), oM 13 12, og 14 (.mov Q2) 13 true, og 15 (.len 1 Q14) 13 true, og 16 (.fieldAddr 1 Q4) 13 true, og 17 (.load false 1 Q16) 13 true, og 18 (.bin .neq Q15 Q17 tI) 13 true, o 19 (.pick Q13 Q18 kF), oM 20 19, og 21 (.fieldAddr 0 Q4) 20 false, og 22 (.load false 1 Q21) 20 false, og 23 (.bin .eql Q22 (kI 17) tI) 20 false, og 24 (.mov Q23) 20 false, og 25 (.mov Q2) 24 true, og 26 (.len 1 Q25) 24 true, og 27 (.fieldAddr 4 Q4) 24 true, og 28 (.load false 1 Q27) 24 true, og 29 (.len 1 Q28) 24 true, og 30 (.bin .neq Q26 Q29 tI) 24 true, og 31 (.pick Q24 Q30 kF) 20 false, o 32 (.pick Q20 kT Q31)]
 (.cond Q32 (sQ [o 6 (.mov kF)] .ret) .skip)) (.seq (sQ [oM 33 2, o 34 (.len 1 Q33), o 35 (.mov (kI 0))] (.block 0 (.loop (sQ [o 36 (.bin .lss Q35 Q34 tI)] (.seq (.cond Q36 .skip (.exit 0)) (.seq (.block 1 (sQ [oM 37 35, o 38 (.indexAddr 4 Q33 Q35), o 39 (.load true 4 Q38), o 8 (.alloc zbZ), oM 7 37, oS 4 8 39] (sQ [o 9 (.mov (kI 0))]
 (.seq (sQ [oA 40 0 4, oL 41 40, o 42 (.bin .eql Q41 (kI 17) tI)] (.cond Q42 (.ops [oM 43 7, oM 9 43]) .skip)) (sQ [oM 44 0, oA 45 4 4, oL 46 45, oM 47 9, o 48 (.indexAddr 7 Q46 Q47), o 49 (.load true 7 Q48), o 50 (.load true 4 Q8), o 51 (.call 202 [Q44, Q49, Q50]), o 52 (.un .not Q51)] (.cond Q52 (sQ [o 6 (.mov kF)] .ret) .skip)))))) (.ops [o 53 (.bin .add Q35 (kI 1) tI), oM 35 53])))))))
 (sQ [o 6 (.mov kT)] .ret))))⟩
theorem F260_ok:Bc Tryz.prog 260=some F260:=by kernel_rfl
def X262:CF 262:=by refine⟨?_,?h⟩;rotate_left;conv=>lhs;cbv
def F262:FC:=X262.1
theorem F262_ok:Bc Tryz.prog 262=some F262:=X262.2
def X263:CF 263:=by refine⟨?_,?h⟩;rotate_left;conv=>lhs;cbv
def F263:FC:=X263.1
theorem F263_ok:Bc Tryz.prog 263=some F263:=X263.2
def X272:CF 272:=by refine⟨?_,?h⟩;rotate_left;conv=>lhs;cbv
def F272:FC:=X272.1
theorem F272_ok:Bc Tryz.prog 272=some F272:=X272.2
def X273:CF 273:=by refine⟨?_,?h⟩;rotate_left;conv=>lhs;cbv
def F273:FC:=X273.1
theorem F273_ok:Bc Tryz.prog 273=some F273:=X273.2
def X274:CF 274:=by refine⟨?_,?h⟩;rotate_left;conv=>lhs;cbv
def F274:FC:=X274.1
theorem F274_ok:Bc Tryz.prog 274=some F274:=X274.2
def F275 : FC := ⟨20, [.tmp 2, .tmp 3, .tmp 4], (sQ [o 1 (.box Q0), o 2 (.mov (kI 0)), o 3 (.mov (kI 0)), o 4 (.mov (kI 0))] (.seq (sQ [o 5 (.load true 5 Q1), o 6 (.call 135 [Q5]), o 7 (.un .not Q6)] (.cond Q7 (sQ [o 2 (.mov (kI (-1))), o 3 (.mov (kI (-1))), o 4 (.mov (kI (-1)))] .ret) .skip)) (.seq (sQ [oA 8 0 1, oL 9 8, o 10 (.bin .eql Q9 (kI 19) tI)] (.cond Q10 (.ops [o 4 (.mov (kI 1))])
 .skip)) (sQ [oA 11 0 1, oL 12 11, o 13 (.indexAddrArr 4 21 (.global 2) Q12), oA 14 2 13, oL 15 14, o 16 (.load true 5 Q1), oM 19 4, o 17 (.call 301 [Q16]), ⟨none, .again 15 false 1 Q14, none⟩, ⟨none, .again 12 false 1 Q11, none⟩, o 18 (.len 1 Q17), oM 2 15, oM 3 18, oM 4 19] .ret))))⟩
theorem F275_ok:Bc Tryz.prog 275=some F275:=by kernel_rfl
def X276:CF 276:=by refine⟨?_,?h⟩;rotate_left;conv=>lhs;cbv
def F276:FC:=X276.1
theorem F276_ok:Bc Tryz.prog 276=some F276:=X276.2
def X277:CF 277:=by refine⟨?_,?h⟩;rotate_left;conv=>lhs;cbv
def F277:FC:=X277.1
theorem F277_ok:Bc Tryz.prog 277=some F277:=X277.2
def F278 : FC := ⟨97, [.cell 4 true 3], (sQ [o 2 (.box Q0), o 3 (.box Q1), o 4 (.alloc [.int .i64 0, .slice none 0 0, .int .i64 0])] (sQ [o 5 (.mov (kI 0))] (.seq (sQ [oA 11 2 2, oA 12 0 11, oL 13 12, o 14 (.bin .eql Q13 (kI 15) tI)] (.cond Q14 (.ops [oA 15 4 3, oL 16 15, o 17 (.indexAddr 6 Q16 (kI 0)), oA 18 0 17, oL 19 18, oM 5 19])
 (.ops [oA 20 3 3, oL 21 20, o 22 (.indexAddr 1 Q21 (kI 2)), oL 23 22, o 24 (.len 1 Q23), oM 5 24]))) (sQ [o 6 (.mov (kI 0))] (.seq (sQ [oA 25 0 3, oL 26 25, o 27 (.bin .add Q26 (kI 1) tI), o 28 (.mov (kI 0))] (.block 0 (.loop (sQ [o 29 (.bin .lss Q28 Q27 tI)] (.seq (.cond Q29 .skip (.exit 0)) (.seq (.block 1 (sQ [oM 30 28, oM 7 30]
 (sQ [oA 31 3 3, oL 32 31, o 33 (.indexAddr 1 Q32 (kI 1)), oL 34 33, oA 35 1 3, oL 36 35, oM 37 7, o 38 (.bin .add Q36 Q37 tI), o 39 (.call 279 [Q34, Q38]), oM 8 39] (.seq (sQ [oM 40 8, oM 41 6, o 42 (.bin .lss Q40 Q41 tI), oM 43 42, og 44 (.mov Q8) 43 false, og 45 (.mov Q5) 43 false, og 46 (.bin .gtr Q44 Q45 tI) 43 false, o 47 (.pick Q43 kT Q46)] (.cond Q47
 (sQ [oM 48 7, o 49 (.call 144 [(kI 83), Q48]), oS 3 4 49] .ret) .skip)) (.ops [oM 50 8, oM 6 50]))))) (.ops [o 51 (.bin .add Q28 (kI 1) tI), oM 28 51]))))))) (.seq (sQ [oA 52 2 2, oA 53 0 52, oL 54 53, o 55 (.bin .neq Q54 (kI 12) tI)] (.cond Q55 (sQ [o 56 (.build [.int .i64 0, .slice none 0 0, .int .i64 0] []), oS 3 4 56] .ret) .skip)) (.seq (sQ [oA 57 0 3, oL 58 57, o 59 (.mov (kI 0))]
 (.block 2 (.loop (sQ [o 60 (.bin .lss Q59 Q58 tI)] (.seq (.cond Q60 .skip (.exit 2)) (.seq (.block 3 (sQ [oM 61 59, oM 9 61] (sQ [oA 62 1 3, oL 63 62, oM 64 9, o 65 (.bin .add Q63 Q64 tI), oM 10 65]
 (sQ [o 66 (.load true 7 Q2), o 67 (.load true 6 Q3), oM 68 10, o 69 (.call 280 [Q66, Q67, Q68]), o 70 (.un .not Q69), oM 71 70, og 72 (.fieldAddr 3 Q3) 71 true, og 73 (.load false 1 Q72) 71 true, og 74 (.indexAddr 1 Q73 (kI 2)) 71 true, og 75 (.load false 1 Q74) 71 true, og 76 (.fieldAddr 3 Q3) 71 true, og 77 (.load false 1 Q76) 71 true, og 78 (.indexAddr 1 Q77 (kI 1)) 71 true, og 79 (.load false 1 Q78) 71 true, og 80 (.mov Q10) 71 true, og 82 (.fieldAddr 3 Q3) 71 true, og 83 (.load false 1 Q82) 71 true, og 84 (.indexAddr 1 Q83 (kI 1)) 71 true, og 85 (.load false 1 Q84) 71 true, og 86 (.mov Q10) 71 true, og 87 (.bin .add Q86 (kI 1) tI) 71 true, og 81 (.call 279 [Q79, Q80]) 71 true, ⟨none, .again 85 false 1 Q84, some (71, true)⟩, ⟨none, .again 83 false 1 Q82, some (71, true)⟩, ⟨none, .again 75 false 1 Q74, some (71, true)⟩, ⟨none, .again 73 false 1 Q72, some (71, true)⟩, og 88 (.call 279 [Q85, Q87]) 71 true, ⟨none, .again 75 false 1 Q74, some (71, true)⟩, ⟨none, .again 73 false 1 Q72, some (71, true)⟩, og 89 (.slice 1 Q75 (some Q81) (some Q88) none) 71 true, og 90 (.call 305 [Q89]) 71 true, og 91 (.un .not Q90) 71 true, o 92 (.pick Q71 Q91 kF)]
 (.cond Q92 (sQ [oM 93 9, o 94 (.call 144 [(kI 84), Q93]), oS 3 4 94] .ret) .skip))))) (.ops [o 95 (.bin .add Q59 (kI 1) tI), oM 59 95]))))))) (sQ [o 96 (.build [.int .i64 0, .slice none 0 0, .int .i64 0] []), oS 3 4 96] .ret))))))))⟩
theorem F278_ok:Bc Tryz.prog 278=some F278:=by kernel_rfl
def F279 : FC := ⟨33, [.tmp 4], (sQ [o 4 (.mov (kI 0))] (sQ [oM 5 0, oM 6 1, o 7 (.bin .mul (kI 4) Q6 tI), o 8 (.slice 1 Q5 (some Q7) none none), oM 0 8]
 (sQ [oM 9 0, o 10 (.indexAddr 1 Q9 (kI 0)), oL 11 10, o 12 (.conv .u32 Q11), oM 13 0, o 14 (.indexAddr 1 Q13 (kI 1)), oL 15 14, o 16 (.conv .u32 Q15), o 17 (.bin .shl Q16 (.const (.int .u64 8)) (some (.int .u32))), o 18 (.bin .or Q12 Q17 (some (.int .u32))), oM 19 0, o 20 (.indexAddr 1 Q19 (kI 2)), oL 21 20, o 22 (.conv .u32 Q21), o 23 (.bin .shl Q22 (.const (.int .u64 16)) (some (.int .u32))), o 24 (.bin .or Q18 Q23 (some (.int .u32))), oM 25 0, o 26 (.indexAddr 1 Q25 (kI 3)), oL 27 26, o 28 (.conv .u32 Q27), o 29 (.bin .shl Q28 (.const (.int .u64 24)) (some (.int .u32))), o 30 (.bin .or Q24 Q29 (some (.int .u32))), o 31 (.conv .i32 Q30), o 32 (.conv .i64 Q31), oM 4 32]
 .ret)))⟩
theorem F279_ok:Bc Tryz.prog 279=some F279:=by kernel_rfl
def X280:CF 280:=by refine⟨?_,?h⟩;rotate_left;conv=>lhs;cbv
def F280:FC:=X280.1
theorem F280_ok:Bc Tryz.prog 280=some F280:=X280.2
def X281:CF 281:=by refine⟨?_,?h⟩;rotate_left;conv=>lhs;cbv
def F281:FC:=X281.1
theorem F281_ok:Bc Tryz.prog 281=some F281:=X281.2
def X282:CF 282:=by refine⟨?_,?h⟩;rotate_left;conv=>lhs;cbv
def F282:FC:=X282.1
theorem F282_ok:Bc Tryz.prog 282=some F282:=X282.2
def F283 : FC := ⟨21, [.cell 6 true 4], (sQ [o 6 (.alloc zbZ)] (.seq (sQ [oM 7 0, oM 8 1, o 9 (.call 309 [Q7, Q8])] (.cond Q9 (sQ [oM 10 2, o 11 (.call 310 [Q10, (kI 16)])] (sQ [o 12 (.build zbZ [(0, 1, kT)]), oS 4 6 12] .ret)) .skip))
 (sQ [oM 13 0, o 14 (.nilCheck Q13), oA 15 16 14, oL 16 15, oM 17 0, oM 18 1, oM 19 2, o 20 (.invoke Q16 "colonnade/array.read" [(282, 429), (283, 436), (284, 439), (285, 440), (286, 441), (287, 443), (288, 445)] [Q17, Q18, Q19]), oS 4 6 20] .ret)))⟩
theorem F283_ok:Bc Tryz.prog 283=some F283:=by kernel_rfl
def F284 : FC := ⟨64, [.tmp 2], (sQ [o 1 (.box Q0), o 2 (.mov (kI 0))] (.seq (sQ [o 7 (.load true 7 Q1), o 8 (.call 259 [Q7])] (.cond Q8 (sQ [o 2 (.mov (kI 16))] .ret) .skip)) (sQ [oA 9 2 1, o 10 (.load true 5 Q9), o 3 (.alloc [.int .i64 0, .int .i64 0, .int .i64 0, .int .i64 0, .slice none 0 0]), oS 5 3 10] (sQ [o 4 (.mov (kI 16))] (.seq (sQ [oA 11 0 3, oL 12 11]
 (.block 0 (sQ [o 14 (.bin .eql Q12 (kI 14) tI), oM 13 14] (.cond Q13 (.ops [oM 15 4, oA 16 1 3, oL 17 16, o 18 (.bin .add Q15 Q17 tI), oM 4 18]) (sQ [o 20 (.bin .eql Q12 (kI 16) tI), oM 19 20] (.cond Q19
 (.ops [oM 21 4, oA 22 1 3, oL 23 22, oA 24 4 3, oL 25 24, o 26 (.indexAddr 7 Q25 (kI 0)), o 27 (.load true 7 Q26), o 28 (.call 284 [Q27]), ⟨none, .again 23 false 1 Q22, none⟩, o 29 (.bin .mul Q23 Q28 tI), o 30 (.bin .add Q21 Q29 tI), oM 4 30]) (sQ [o 32 (.bin .eql Q12 (kI 17) tI), oM 31 32] (.cond Q31 (sQ [oA 33 4 3, oL 34 33, o 35 (.len 1 Q34), o 36 (.mov (kI 0))]
 (.block 1 (.loop (sQ [o 37 (.bin .lss Q36 Q35 tI)] (.seq (.cond Q37 .skip (.exit 1)) (.seq (.block 2 (sQ [o 38 (.indexAddr 7 Q34 Q36), o 39 (.load true 7 Q38), o 6 (.alloc zaZ), oS 7 6 39] (.ops [oM 40 4, o 41 (.load true 7 Q6), o 42 (.call 284 [Q41]), o 43 (.bin .add Q40 Q42 tI), oM 4 43]))) (.ops [o 44 (.bin .add Q36 (kI 1) tI), oM 36 44]))))))) (sQ [o 46 (.bin .eql Q12 (kI 18) tI), oM 45 46]
 (.cond Q45 (.ops [oM 47 4, oA 48 4 3, oL 49 48, o 50 (.indexAddr 7 Q49 (kI 0)), o 51 (.load true 7 Q50), o 52 (.call 284 [Q51]), o 53 (.bin .add Q47 Q52 tI), oM 4 53]) (.seq (sQ [o 55 (.bin .eql Q12 (kI 19) tI), oM 54 55] (.cond Q54 .skip (.ops [o 56 (.bin .eql Q12 (kI 20) tI), oM 54 56]))) (.cond Q54
 (.ops [oA 57 4 3, oL 58 57, o 59 (.indexAddr 7 Q58 (kI 0)), o 60 (.load true 7 Q59), o 61 (.call 284 [Q60]), oM 4 61]) .skip)))))))))))) (sQ [oM 62 4, o 63 (.minmax false Q62 [(kI 4194305)]), oM 2 63] .ret))))))⟩
theorem F284_ok:Bc Tryz.prog 284=some F284:=by kernel_rfl
def F285 : FC := ⟨72, [.cell 2 true 4], (sQ [o 1 (.box Q0), o 2 (.alloc zbZ)] (.seq (sQ [o 7 (.load true 7 Q1), o 8 (.call 259 [Q7])] (.cond Q8 (sQ [o 9 (.build zbZ [(0, 1, kT)]), oS 4 2 9] .ret) .skip)) (sQ [o 3 (.alloc zbZ)] (sQ [oA 10 2 1, o 11 (.load true 5 Q10), o 4 (.alloc [.int .i64 0, .int .i64 0, .int .i64 0, .int .i64 0, .slice none 0 0]), oS 5 4 11] (.seq (sQ [oA 12 0 4, oL 13 12]
 (.block 0 (sQ [o 15 (.bin .eql Q13 (kI 14) tI), oM 14 15] (.cond Q14 (.ops [oA 16 1 4, oL 17 16, o 18 (.call 311 [(.const (.string ⟨#[0]⟩)), Q17]), oA 19 2 3, oS 1 19 18]) (sQ [o 21 (.bin .eql Q13 (kI 16) tI), oM 20 21] (.cond Q20 (sQ [oA 22 1 4, oL 23 22, o 24 (.mov (kI 0))] (.block 1 (.loop (sQ [o 25 (.bin .lss Q24 Q23 tI)] (.seq (.cond Q25 .skip (.exit 1))
 (.seq (.block 2 (.ops [oA 26 3 3, oL 27 26, oA 28 4 4, oL 29 28, o 30 (.indexAddr 7 Q29 (kI 0)), o 31 (.load true 7 Q30), o 32 (.call 285 [Q31]), ⟨none, .again 27 false 1 Q26, none⟩, o 33 (.buildSlice 4 1 zbZ [(0, 4, Q32)]), ⟨none, .again 27 false 1 Q26, none⟩, o 34 (.append 4 56 Q27 Q33), oA 35 3 3, oS 1 35 34])) (.ops [o 36 (.bin .add Q24 (kI 1) tI), oM 24 36])))))))
 (sQ [o 38 (.bin .eql Q13 (kI 17) tI), oM 37 38] (.cond Q37 (sQ [oA 39 4 4, oL 40 39, o 41 (.len 1 Q40), o 42 (.mov (kI 0))] (.block 3 (.loop (sQ [o 43 (.bin .lss Q42 Q41 tI)] (.seq (.cond Q43 .skip (.exit 3)) (.seq (.block 4 (sQ [o 44 (.indexAddr 7 Q40 Q42), o 45 (.load true 7 Q44), o 6 (.alloc zaZ), oS 7 6 45]
 (.ops [oA 46 3 3, oL 47 46, o 48 (.load true 7 Q6), o 49 (.call 285 [Q48]), ⟨none, .again 47 false 1 Q46, none⟩, o 50 (.buildSlice 4 1 zbZ [(0, 4, Q49)]), ⟨none, .again 47 false 1 Q46, none⟩, o 51 (.append 4 56 Q47 Q50), oA 52 3 3, oS 1 52 51]))) (.ops [o 53 (.bin .add Q42 (kI 1) tI), oM 42 53]))))))) (sQ [o 55 (.bin .eql Q13 (kI 18) tI), oM 54 55] (.cond Q54
 (.ops [oA 56 4 4, oL 57 56, o 58 (.indexAddr 7 Q57 (kI 0)), o 59 (.load true 7 Q58), o 60 (.call 285 [Q59]), o 61 (.buildSlice 4 1 zbZ [(0, 4, Q60)]), oA 62 3 3, oS 1 62 61]) (.seq (sQ [o 64 (.bin .eql Q13 (kI 19) tI), oM 63 64] (.cond Q63 .skip (.ops [o 65 (.bin .eql Q13 (kI 20) tI), oM 63 65]))) (.cond Q63
 (sQ [oA 66 4 4, oL 67 66, o 68 (.indexAddr 7 Q67 (kI 0)), o 69 (.load true 7 Q68), o 70 (.call 285 [Q69]), oS 4 2 70] .ret) .skip)))))))))))) (sQ [o 71 (.load true 4 Q3), oS 4 2 71] .ret))))))⟩
theorem F285_ok:Bc Tryz.prog 285=some F285:=by kernel_rfl
def X286:CF 286:=by refine⟨?_,?h⟩;rotate_left;conv=>lhs;cbv
def F286:FC:=X286.1
theorem F286_ok:Bc Tryz.prog 286=some F286:=X286.2
def X287:CF 287:=by refine⟨?_,?h⟩;rotate_left;conv=>lhs;cbv
def F287:FC:=X287.1
theorem F287_ok:Bc Tryz.prog 287=some F287:=X287.2
def X288:CF 288:=by refine⟨?_,?h⟩;rotate_left;conv=>lhs;cbv
def F288:FC:=X288.1
theorem F288_ok:Bc Tryz.prog 288=some F288:=X288.2
def X289:CF 289:=by refine⟨?_,?h⟩;rotate_left;conv=>lhs;cbv
def F289:FC:=X289.1
theorem F289_ok:Bc Tryz.prog 289=some F289:=X289.2
def X290:CF 290:=by refine⟨?_,?h⟩;rotate_left;conv=>lhs;cbv
def F290:FC:=X290.1
theorem F290_ok:Bc Tryz.prog 290=some F290:=X290.2
def X291:CF 291:=by refine⟨?_,?h⟩;rotate_left;conv=>lhs;cbv
def F291:FC:=X291.1
theorem F291_ok:Bc Tryz.prog 291=some F291:=X291.2
def X292:CF 292:=by refine⟨?_,?h⟩;rotate_left;conv=>lhs;cbv
def F292:FC:=X292.1
theorem F292_ok:Bc Tryz.prog 292=some F292:=X292.2
def X297:CF 297:=by refine⟨?_,?h⟩;rotate_left;conv=>lhs;cbv
def F297:FC:=X297.1
theorem F297_ok:Bc Tryz.prog 297=some F297:=X297.2
def X301:CF 301:=by refine⟨?_,?h⟩;rotate_left;conv=>lhs;cbv
def F301:FC:=X301.1
theorem F301_ok:Bc Tryz.prog 301=some F301:=X301.2
def X302:CF 302:=by refine⟨?_,?h⟩;rotate_left;conv=>lhs;cbv
def F302:FC:=X302.1
theorem F302_ok:Bc Tryz.prog 302=some F302:=X302.2
def X303:CF 303:=by refine⟨?_,?h⟩;rotate_left;conv=>lhs;cbv
def F303:FC:=X303.1
theorem F303_ok:Bc Tryz.prog 303=some F303:=X303.2
def X304:CF 304:=by refine⟨?_,?h⟩;rotate_left;conv=>lhs;cbv
def F304:FC:=X304.1
theorem F304_ok:Bc Tryz.prog 304=some F304:=X304.2
def X306:CF 306:=by refine⟨?_,?h⟩;rotate_left;conv=>lhs;cbv
def F306:FC:=X306.1
theorem F306_ok:Bc Tryz.prog 306=some F306:=X306.2
def X307:CF 307:=by refine⟨?_,?h⟩;rotate_left;conv=>lhs;cbv
def F307:FC:=X307.1
theorem F307_ok:Bc Tryz.prog 307=some F307:=X307.2
def X308:CF 308:=by refine⟨?_,?h⟩;rotate_left;conv=>lhs;cbv
def F308:FC:=X308.1
theorem F308_ok:Bc Tryz.prog 308=some F308:=X308.2
def X309:CF 309:=by refine⟨?_,?h⟩;rotate_left;conv=>lhs;cbv
def F309:FC:=X309.1
theorem F309_ok:Bc Tryz.prog 309=some F309:=X309.2
def X310:CF 310:=by refine⟨?_,?h⟩;rotate_left;conv=>lhs;cbv
def F310:FC:=X310.1
theorem F310_ok:Bc Tryz.prog 310=some F310:=X310.2
def X312:CF 312:=by refine⟨?_,?h⟩;rotate_left;conv=>lhs;cbv
def F312:FC:=X312.1
theorem F312_ok:Bc Tryz.prog 312=some F312:=X312.2
def F313 : FC := ⟨82, [.tmp 4], (sQ [o 2 (.box Q0), o 4 (.mov (kI 0))] (sQ [oA 8 2 2, o 9 (.load true 5 Q8), o 5 (.alloc [.int .i64 0, .int .i64 0, .int .i64 0, .int .i64 0, .slice none 0 0]), oS 5 5 9] (sQ [o 6 (.mov (kI 16))]
 (.seq (sQ [oA 10 1 2, oL 11 10, oM 12 11, og 13 (.fieldAddr 0 Q5) 12 true, og 14 (.load false 1 Q13) 12 true, og 15 (.bin .neq Q14 (kI 20) tI) 12 true, o 16 (.pick Q12 Q15 kF)] (.cond Q16 (sQ [oM 17 6, oM 4 17] .ret) .skip)) (.seq (sQ [oA 18 0 5, oL 19 18] (.block 0 (sQ [o 21 (.bin .eql Q19 (kI 14) tI), oM 20 21] (.cond Q20
 (.ops [oM 22 6, oA 23 1 5, oL 24 23, o 25 (.bin .add Q22 Q24 tI), oM 6 25]) (.seq (sQ [o 27 (.bin .eql Q19 (kI 19) tI), oM 26 27] (.cond Q26 .skip (.ops [o 28 (.bin .eql Q19 (kI 20) tI), oM 26 28]))) (.cond Q26 (sQ [oA 29 4 5, oL 30 29, o 31 (.indexAddr 7 Q30 (kI 0)), o 32 (.load true 7 Q31), oM 33 1, o 34 (.call 313 [Q32, Q33]), oM 4 34] .ret) (sQ [o 36 (.bin .eql Q19 (kI 18) tI), oM 35 36]
 (.cond Q35 (.ops [oM 37 6, oA 38 4 5, oL 39 38, o 40 (.indexAddr 7 Q39 (kI 0)), o 41 (.load true 7 Q40), oM 42 1, o 43 (.call 313 [Q41, Q42]), o 44 (.bin .add Q37 Q43 tI), oM 6 44]) (sQ [o 46 (.bin .eql Q19 (kI 16) tI), oM 45 46] (.cond Q45
 (.ops [oM 47 6, oA 48 1 5, oL 49 48, oA 50 4 5, oL 51 50, o 52 (.indexAddr 7 Q51 (kI 0)), o 53 (.load true 7 Q52), oM 54 1, o 55 (.call 313 [Q53, Q54]), ⟨none, .again 49 false 1 Q48, none⟩, o 56 (.bin .mul Q49 Q55 tI), o 57 (.bin .add Q47 Q56 tI), oM 6 57]) (sQ [o 59 (.bin .eql Q19 (kI 17) tI), oM 58 59] (.cond Q58 (sQ [o 7 (.mov (kI 0))]
 (.block 1 (.loop (.seq (sQ [oM 60 7, oA 61 4 5, oL 62 61, o 63 (.len 1 Q62), o 64 (.bin .lss Q60 Q63 tI)] (.cond Q64 .skip (.exit 1))) (.seq (.block 2 (.ops [oM 67 6, oA 68 4 5, oL 69 68, oM 70 7, o 71 (.indexAddr 7 Q69 Q70), o 72 (.load true 7 Q71), oM 73 1, o 74 (.call 313 [Q72, Q73]), o 75 (.bin .add Q67 Q74 tI), oM 6 75])) (.ops [oM 65 7, o 66 (.bin .add Q65 (kI 1) tI), oM 7 66]))))))
 .skip)))))))))))) (.seq (sQ [oM 76 6, oM 77 1, o 78 (.bin .gtr Q76 Q77 tI)] (.cond Q78 (sQ [oM 79 1, o 80 (.bin .add Q79 (kI 1) tI), oM 4 80] .ret) .skip)) (sQ [oM 81 6, oM 4 81] .ret)))))))⟩
theorem F313_ok:Bc Tryz.prog 313=some F313:=by kernel_rfl
def F314 : FC := ⟨86, [.cell 2 true 4], (sQ [o 1 (.box Q0), o 2 (.alloc zbZ)] (sQ [oA 7 2 1, o 8 (.load true 5 Q7), o 3 (.alloc [.int .i64 0, .int .i64 0, .int .i64 0, .int .i64 0, .slice none 0 0]), oS 5 3 8] (.seq (sQ [oA 9 1 1, oL 10 9, oM 11 10, og 12 (.fieldAddr 0 Q3) 11 true, og 13 (.load false 1 Q12) 11 true, og 14 (.bin .neq Q13 (kI 20) tI) 11 true, o 15 (.pick Q11 Q14 kF)] (.cond Q15
 (sQ [o 16 (.build zbZ [(0, 1, kT)]), oS 4 2 16] .ret) .skip)) (sQ [o 17 (.build zbZ []), o 4 (.alloc zbZ), oS 4 4 17] (.seq (sQ [oA 18 0 3, oL 19 18] (.block 0 (sQ [o 21 (.bin .eql Q19 (kI 14) tI), oM 20 21] (.cond Q20 (.ops [oA 22 1 3, oL 23 22, o 24 (.mkSlice 1 1 [.int .u8 0] Q23 Q23), o 25 (.b2s Q24), oA 26 2 4, oS 1 26 25]) (.seq (sQ [o 28 (.bin .eql Q19 (kI 19) tI), oM 27 28] (.cond Q27
 .skip (.ops [o 29 (.bin .eql Q19 (kI 20) tI), oM 27 29]))) (.cond Q27 (sQ [oA 30 4 3, oL 31 30, o 32 (.indexAddr 7 Q31 (kI 0)), o 33 (.load true 7 Q32), o 34 (.call 314 [Q33]), oS 4 2 34] .ret) (sQ [o 36 (.bin .eql Q19 (kI 18) tI), oM 35 36] (.cond Q35
 (.ops [oA 37 3 4, oL 38 37, oA 39 4 3, oL 40 39, o 41 (.indexAddr 7 Q40 (kI 0)), o 42 (.load true 7 Q41), o 43 (.call 314 [Q42]), ⟨none, .again 38 false 1 Q37, none⟩, o 44 (.buildSlice 4 1 zbZ [(0, 4, Q43)]), ⟨none, .again 38 false 1 Q37, none⟩, o 45 (.append 4 56 Q38 Q44), oA 46 3 4, oS 1 46 45]) (sQ [o 48 (.bin .eql Q19 (kI 16) tI), oM 47 48] (.cond Q47 (sQ [o 5 (.mov (kI 0))]
 (.block 1 (.loop (.seq (sQ [oM 49 5, oA 50 1 3, oL 51 50, o 52 (.bin .lss Q49 Q51 tI)] (.cond Q52 .skip (.exit 1)))
 (.seq (.block 2 (.ops [oA 55 3 4, oL 56 55, oA 57 4 3, oL 58 57, o 59 (.indexAddr 7 Q58 (kI 0)), o 60 (.load true 7 Q59), o 61 (.call 314 [Q60]), ⟨none, .again 56 false 1 Q55, none⟩, o 62 (.buildSlice 4 1 zbZ [(0, 4, Q61)]), ⟨none, .again 56 false 1 Q55, none⟩, o 63 (.append 4 56 Q56 Q62), oA 64 3 4, oS 1 64 63])) (.ops [oM 53 5, o 54 (.bin .add Q53 (kI 1) tI), oM 5 54]))))))
 (sQ [o 66 (.bin .eql Q19 (kI 17) tI), oM 65 66] (.cond Q65 (sQ [o 6 (.mov (kI 0))] (.block 3 (.loop (.seq (sQ [oM 67 6, oA 68 4 3, oL 69 68, o 70 (.len 1 Q69), o 71 (.bin .lss Q67 Q70 tI)] (.cond Q71 .skip (.exit 3)))
 (.seq (.block 4 (.ops [oA 74 3 4, oL 75 74, oA 76 4 3, oL 77 76, oM 78 6, o 79 (.indexAddr 7 Q77 Q78), o 80 (.load true 7 Q79), o 81 (.call 314 [Q80]), ⟨none, .again 75 false 1 Q74, none⟩, o 82 (.buildSlice 4 1 zbZ [(0, 4, Q81)]), ⟨none, .again 75 false 1 Q74, none⟩, o 83 (.append 4 56 Q75 Q82), oA 84 3 4, oS 1 84 83])) (.ops [oM 72 6, o 73 (.bin .add Q72 (kI 1) tI), oM 6 73]))))))
 .skip)))))))))))) (sQ [o 85 (.load true 4 Q4), oS 4 2 85] .ret))))))⟩
theorem F314_ok:Bc Tryz.prog 314=some F314:=by kernel_rfl
def X315:CF 315:=by refine⟨?_,?h⟩;rotate_left;conv=>lhs;cbv
def F315:FC:=X315.1
theorem F315_ok:Bc Tryz.prog 315=some F315:=X315.2
def X317:CF 317:=by refine⟨?_,?h⟩;rotate_left;conv=>lhs;cbv
def F317:FC:=X317.1
theorem F317_ok:Bc Tryz.prog 317=some F317:=X317.2
def F318:FC:=⟨19,[.cell 4 true 3],(sQ [o 4 (.alloc [.slice none 0 0,.int .i64 0,.pointer none])] (sQ [oM 5 0,o 6 (.nilCheck Q5),oA 7 7 6,oA 8 3 7,oL 9 8,oM 10 1,o 11 (.indexAddr 1 Q9 Q10),oL 12 11,oM 14 0,o 15 (.nilCheck Q14),oA 16 15 15,oL 17 16,o 13 (.call 326 [Q12]),⟨none,.again 17 false 1 Q16,none⟩,o 18 (.call 327 [Q13,Q17]),oS 3 4 18] .ret))⟩
theorem F318_ok:Bc Tryz.prog 318=some F318:=by kernel_rfl
def X319:CF 319:=by refine⟨?_,?h⟩;rotate_left;conv=>lhs;cbv
def F319:FC:=X319.1
theorem F319_ok:Bc Tryz.prog 319=some F319:=X319.2
def X325:CF 325:=by refine⟨?_,?h⟩;rotate_left;conv=>lhs;cbv
def F325:FC:=X325.1
theorem F325_ok:Bc Tryz.prog 325=some F325:=X325.2
def X326:CF 326:=by refine⟨?_,?h⟩;rotate_left;conv=>lhs;cbv
def F326:FC:=X326.1
theorem F326_ok:Bc Tryz.prog 326=some F326:=X326.2
def X327:CF 327:=by refine⟨?_,?h⟩;rotate_left;conv=>lhs;cbv
def F327:FC:=X327.1
theorem F327_ok:Bc Tryz.prog 327=some F327:=X327.2
def X328:CF 328:=by refine⟨?_,?h⟩;rotate_left;conv=>lhs;cbv
def F328:FC:=X328.1
theorem F328_ok:Bc Tryz.prog 328=some F328:=X328.2
def F329 : FC := ⟨46, [.tmp 6], (sQ [o 3 (.box Q0), o 6 (.mov (.const (.slice none 0 0)))] (.seq (sQ [oA 7 2 3, oL 8 7, o 9 (.bin .neq Q8 (.const (.pointer none)) (some (.pointer 376))), oM 10 9, og 11 (.mov Q2) 10 true, og 12 (.bin .gtr Q11 (kI 0) tI) 10 true, o 13 (.pick Q10 Q12 kF)] (.cond Q13
 (.ops [oA 14 2 3, oL 15 14, oA 16 2 3, oL 17 16, o 18 (.nilCheck Q17), oA 19 0 18, oL 20 19, oA 21 1 3, oL 22 21, oM 23 1, o 24 (.bin .add Q22 Q23 tI), oA 25 1 3, oL 26 25, oM 27 1, o 28 (.bin .add Q26 Q27 tI), oM 29 2, o 30 (.bin .add Q28 Q29 tI), o 31 (.build [.int .i64 0, .int .i64 0] [(0, 1, Q24), (1, 1, Q30)]), o 32 (.buildSlice 2 1 [.int .i64 0, .int .i64 0] [(0, 2, Q31)]), ⟨none, .again 20 false 1 Q19, none⟩, ⟨none, .again 17 false 1 Q16, none⟩, ⟨none, .again 15 false 1 Q14, none⟩, o 33 (.append 2 16 Q20 Q32), ⟨none, .again 15 false 1 Q14, none⟩, o 34 (.nilCheck Q15), oA 35 0 34, oS 1 35 33])
 .skip)) (sQ [oA 36 0 3, oL 37 36, oM 38 1, oM 39 1, oM 40 2, o 41 (.bin .add Q39 Q40 tI), oM 42 1, oM 43 2, o 44 (.bin .add Q42 Q43 tI), o 45 (.slice 1 Q37 (some Q38) (some Q41) (some Q44)), oM 6 45] .ret)))⟩
theorem F329_ok:Bc Tryz.prog 329=some F329:=by kernel_rfl
def X358:CF 358:=by refine⟨?_,?h⟩;rotate_left;conv=>lhs;cbv
def F358:FC:=X358.1
theorem F358_ok:Bc Tryz.prog 358=some F358:=X358.2
def X362:CF 362:=by refine⟨?_,?h⟩;rotate_left;conv=>lhs;cbv
def F362:FC:=X362.1
theorem F362_ok:Bc Tryz.prog 362=some F362:=X362.2
def F364 : FC := ⟨15, [.cell 4 true 6], (sQ [o 4 (.alloc [.int .i64 0, .int .i64 0, .int .i64 0, .slice none 0 0, .slice none 0 0, .slice none 0 0])]
 (sQ [oM 5 0, o 6 (.nilCheck Q5), oA 7 7 6, oL 8 7, oM 9 0, o 10 (.nilCheck Q9), oA 11 8 10, oL 12 11, oM 13 1, o 14 (.build [.int .i64 0, .int .i64 0, .int .i64 0, .slice none 0 0, .slice none 0 0, .slice none 0 0] [(0, 1, Q8), (2, 1, Q12), (3, 1, Q13)]), oS 6 4 14] .ret))⟩
theorem F364_ok:Bc Tryz.prog 364=some F364:=by kernel_rfl
def F365 : FC := ⟨27, [.tmp 2], (sQ [o 1 (.box Q0), o 2 (.mov (.const .nilFunc))] (sQ [oL 5 1, o 6 (.nilCheck Q5), o 7 (.load true 16 Q6), o 3 (.alloc zeZ), oS 16 3 7] (sQ [o 4 (.alloc [.int .u8 0]), ⟨none, .store 1 Q4 (.const (.int .u8 0)), none⟩] (.seq (sQ [oL 8 1, o 9 (.nilCheck Q8), oA 10 9 9, oL 11 10, o 12 (.len 1 Q11), o 13 (.bin .gtr Q12 (kI 0) tI)] (.cond Q13
 (.ops [oL 14 1, o 15 (.nilCheck Q14), oA 16 9 15, oL 17 16, oL 18 1, o 19 (.nilCheck Q18), oA 20 9 19, oL 21 20, o 22 (.len 1 Q21), o 23 (.bin .sub Q22 (kI 1) tI), o 24 (.indexAddr 1 Q17 Q23), oL 25 24, oS 1 4 25]) .skip)) (sQ [o 26 (.mkFunc (.func 368) [] [Q3, Q1, Q4]), oM 2 26] .ret)))))⟩
theorem F365_ok:Bc Tryz.prog 365=some F365:=by kernel_rfl
def F366 : FC := ⟨59, [.tmp 4], (sQ [o 4 (.mov (kI 0))] (.seq (sQ [oM 5 0, o 6 (.nilCheck Q5), oA 7 7 6, oL 8 7, o 9 (.bin .geq Q8 (kI 4096) tI)] (.cond Q9 (sQ [o 4 (.mov (kI 3))] .ret) .skip)) (.seq (sQ [oM 10 0, o 11 (.nilCheck Q10), oA 12 7 11, oL 13 12, o 14 (.bin .rem Q13 (kI 8) tI), o 15 (.bin .eql Q14 (kI 0) tI)] (.cond Q15
 (.ops [oM 16 0, oM 17 0, o 18 (.nilCheck Q17), oA 19 9 18, oL 20 19, o 21 (.buildSlice 1 1 [.int .u8 0] [(0, 1, (.const (.int .u8 0)))]), o 22 (.append 1 1 Q20 Q21), o 23 (.nilCheck Q16), oA 24 9 23, oS 1 24 22]) .skip)) (.seq (sQ [oM 25 1] (.cond Q25 (.ops [oM 26 0, o 27 (.nilCheck Q26), oA 28 8 27, oL 29 28, o 30 (.bin .add Q29 (kI 1) tI), o 31 (.nilCheck Q26), oA 32 8 31, oS 1 32 30])
 (.ops [oM 33 0, o 34 (.nilCheck Q33), oA 35 9 34, oL 36 35, oM 37 0, o 38 (.nilCheck Q37), oA 39 7 38, oL 40 39, o 41 (.bin .quo Q40 (kI 8) tI), o 42 (.indexAddr 1 Q36 Q41), oL 43 42, oM 44 0, o 45 (.nilCheck Q44), oA 46 7 45, oL 47 46, o 48 (.bin .rem Q47 (kI 8) tI), o 49 (.bin .shl (.const (.int .u8 1)) Q48 (some (.int .u8))), o 50 (.bin .or Q43 Q49 (some (.int .u8))), o 51 (.indexAddr 1 Q36 Q41), oS 1 51 50])))
 (sQ [oM 52 0, o 53 (.nilCheck Q52), oA 54 7 53, oL 55 54, o 56 (.bin .add Q55 (kI 1) tI), o 57 (.nilCheck Q52), oA 58 7 57, oS 1 58 56] (sQ [o 4 (.mov (kI 0))] .ret))))))⟩
theorem F366_ok:Bc Tryz.prog 366=some F366:=by kernel_rfl
def X367:CF 367:=by refine⟨?_,?h⟩;rotate_left;conv=>lhs;cbv
def F367:FC:=X367.1
theorem F367_ok:Bc Tryz.prog 367=some F367:=X367.2
def F368 : FC := ⟨24, [], (sQ [oL 3 1, o 4 (.load true 16 Q0), o 5 (.nilCheck Q3), oS 16 5 4] (sQ [oL 6 1, o 7 (.nilCheck Q6), oA 8 9 7, oL 9 8, o 10 (.len 1 Q9), o 11 (.bin .gtr Q10 (kI 0) tI)] (.cond Q11
 (.ops [oL 12 1, o 13 (.nilCheck Q12), oA 14 9 13, oL 15 14, oL 16 1, o 17 (.nilCheck Q16), oA 18 9 17, oL 19 18, o 20 (.len 1 Q19), o 21 (.bin .sub Q20 (kI 1) tI), oL 22 2, o 23 (.indexAddr 1 Q15 Q21), oS 1 23 22]) .skip)))⟩
theorem F368_ok:Bc Tryz.prog 368=some F368:=by kernel_rfl
def X373:CF 373:=by refine⟨?_,?h⟩;rotate_left;conv=>lhs;cbv
def F373:FC:=X373.1
theorem F373_ok:Bc Tryz.prog 373=some F373:=X373.2
def X374:CF 374:=by refine⟨?_,?h⟩;rotate_left;conv=>lhs;cbv
def F374:FC:=X374.1
theorem F374_ok:Bc Tryz.prog 374=some F374:=X374.2
def X375:CF 375:=by refine⟨?_,?h⟩;rotate_left;conv=>lhs;cbv
def F375:FC:=X375.1
theorem F375_ok:Bc Tryz.prog 375=some F375:=X375.2
def F391 : FC := ⟨19, [.tmp 2], (sQ [o 2 (.mov (.const (.slice none 0 0)))] (sQ [o 3 (.mov (.const (.slice none 0 0)))] (.seq (sQ [oM 6 0, o 7 (.len 1 Q6), o 8 (.mov (kI 0))] (.block 0 (.loop (sQ [o 9 (.bin .lss Q8 Q7 tI)] (.seq (.cond Q9 .skip (.exit 0)) (.seq (.block 1 (sQ [o 10 (.indexAddr 1 Q6 Q8), oL 11 10, oM 5 11]
 (.ops [oM 12 3, oM 13 5, o 14 (.invoke Q13 "colonnade/build.done" [(189, 359), (192, 369), (195, 377), (198, 382), (201, 387), (204, 396), (207, 403), (211, 418), (214, 423)] []), o 15 (.buildSlice 6 1 [.int .i64 0, .int .i64 0, .int .i64 0, .slice none 0 0, .slice none 0 0, .slice none 0 0] [(0, 6, Q14)]), o 16 (.append 6 96 Q12 Q15), oM 3 16])))
 (.ops [o 17 (.bin .add Q8 (kI 1) tI), oM 8 17]))))))) (sQ [oM 18 3, oM 2 18] .ret))))⟩
theorem F391_ok:Bc Tryz.prog 391=some F391:=by kernel_rfl
def F392 : FC := ⟨19, [.tmp 2], (sQ [o 2 (.mov (.const .nilFunc))] (sQ [o 3 (.alloc [.slice none 0 0])] (.seq (sQ [oM 6 0, o 7 (.len 1 Q6), o 8 (.mov (kI 0))] (.block 0 (.loop (sQ [o 9 (.bin .lss Q8 Q7 tI)] (.seq (.cond Q9 .skip (.exit 0)) (.seq (.block 1 (sQ [o 10 (.indexAddr 1 Q6 Q8), oL 11 10, oM 5 11]
 (.ops [oL 12 3, oM 13 5, o 14 (.invoke Q13 "colonnade/build.mark" [(189, 360), (192, 370), (195, 378), (198, 383), (201, 388), (204, 397), (207, 404), (211, 419), (214, 424)] []), ⟨none, .again 12 false 1 Q3, none⟩, o 15 (.buildSlice 1 1 [.nilFunc] [(0, 1, Q14)]), ⟨none, .again 12 false 1 Q3, none⟩, o 16 (.append 1 8 Q12 Q15), oS 1 3 16]))) (.ops [o 17 (.bin .add Q8 (kI 1) tI), oM 8 17])))))))
 (sQ [o 18 (.mkFunc (.func 395) [] [Q3]), oM 2 18] .ret))))⟩
theorem F392_ok:Bc Tryz.prog 392=some F392:=by kernel_rfl
def F394 : FC := ⟨18, [.tmp 2], (sQ [o 2 (.mov (kI 0))] (sQ [o 3 (.mov (kI 0))] (.seq (sQ [oM 6 0, o 7 (.len 1 Q6), o 8 (.mov (kI 0))] (.block 0 (.loop (sQ [o 9 (.bin .lss Q8 Q7 tI)] (.seq (.cond Q9 .skip (.exit 0)) (.seq (.block 1 (sQ [o 10 (.indexAddr 1 Q6 Q8), oL 11 10, oM 5 11]
 (.ops [oM 12 3, oM 13 5, o 14 (.invoke Q13 "colonnade/build.weight" [(399, 362)] []), o 15 (.bin .add Q12 Q14 tI), oM 3 15]))) (.ops [o 16 (.bin .add Q8 (kI 1) tI), oM 8 16]))))))) (sQ [oM 17 3, oM 2 17] .ret))))⟩
theorem F394_ok:Bc Tryz.prog 394=some F394:=by kernel_rfl
def X395:CF 395:=by refine⟨?_,?h⟩;rotate_left;conv=>lhs;cbv
def F395:FC:=X395.1
theorem F395_ok:Bc Tryz.prog 395=some F395:=X395.2
def X407:CF 407:=by refine⟨?_,?h⟩;rotate_left;conv=>lhs;cbv
def F407:FC:=X407.1
theorem F407_ok:Bc Tryz.prog 407=some F407:=X407.2
def X409:CF 409:=by refine⟨?_,?h⟩;rotate_left;conv=>lhs;cbv
def F409:FC:=X409.1
theorem F409_ok:Bc Tryz.prog 409=some F409:=X409.2
def X412:CF 412:=by refine⟨?_,?h⟩;rotate_left;conv=>lhs;cbv
def F412:FC:=X412.1
theorem F412_ok:Bc Tryz.prog 412=some F412:=X412.2
def X413:CF 413:=by refine⟨?_,?h⟩;rotate_left;conv=>lhs;cbv
def F413:FC:=X413.1
theorem F413_ok:Bc Tryz.prog 413=some F413:=X413.2
def X414:CF 414:=by refine⟨?_,?h⟩;rotate_left;conv=>lhs;cbv
def F414:FC:=X414.1
theorem F414_ok:Bc Tryz.prog 414=some F414:=X414.2
def F415 : FC := ⟨53, [.tmp 4], (sQ [o 2 (.box Q0), o 3 (.box Q1), o 4 (.mov kF)]
 (.seq (sQ [oA 6 0 2, oL 7 6, oA 8 0 3, oL 9 8, o 10 (.bin .neq Q7 Q9 (some .bool)), oM 11 10, og 12 (.fieldAddr 1 Q2) 11 false, og 13 (.load false 1 Q12) 11 false, og 14 (.fieldAddr 1 Q3) 11 false, og 15 (.load false 1 Q14) 11 false, og 16 (.bin .neq Q13 Q15 tI) 11 false, o 17 (.pick Q11 kT Q16), oM 18 17, og 19 (.fieldAddr 2 Q2) 18 false, og 20 (.load false 1 Q19) 18 false, og 21 (.fieldAddr 2 Q3) 18 false, og 22 (.load false 1 Q21) 18 false, og 23 (.bin .neq Q20 Q22 (some .string)) 18 false, o 24 (.pick Q18 kT Q23), oM 25 24, og 26 (.fieldAddr 3 Q2) 25 false, og 27 (.load false 1 Q26) 25 false, og 28 (.len 1 Q27) 25 false, og 29 (.fieldAddr 3 Q3) 25 false, og 30 (.load false 1 Q29) 25 false, og 31 (.len 1 Q30) 25 false, og 32 (.bin .neq Q28 Q31 tI) 25 false, o 33 (.pick Q25 kT Q32)]
 (.cond Q33 (sQ [o 4 (.mov kF)] .ret) .skip)) (.seq (sQ [oA 34 3 2, oL 35 34, o 36 (.len 1 Q35), o 37 (.mov (kI 0))] (.block 0 (.loop (sQ [o 38 (.bin .lss Q37 Q36 tI)] (.seq (.cond Q38 .skip (.exit 0)) (.seq (.block 1 (sQ [oM 39 37, oM 5 39]
 (sQ [oA 40 3 2, oL 41 40, oM 42 5, o 43 (.indexAddr 4 Q41 Q42), o 44 (.load true 4 Q43), oA 45 3 3, oL 46 45, oM 47 5, o 48 (.indexAddr 4 Q46 Q47), o 49 (.load true 4 Q48), o 50 (.call 415 [Q44, Q49]), o 51 (.un .not Q50)] (.cond Q51 (sQ [o 4 (.mov kF)] .ret) .skip)))) (.ops [o 52 (.bin .add Q37 (kI 1) tI), oM 37 52]))))))) (sQ [o 4 (.mov kT)] .ret))))⟩
theorem F415_ok:Bc Tryz.prog 415=some F415:=by kernel_rfl
def X416:CF 416:=by refine⟨?_,?h⟩;rotate_left;conv=>lhs;cbv
def F416:FC:=X416.1
theorem F416_ok:Bc Tryz.prog 416=some F416:=X416.2
def X417:CF 417:=by refine⟨?_,?h⟩;rotate_left;conv=>lhs;cbv
def F417:FC:=X417.1
theorem F417_ok:Bc Tryz.prog 417=some F417:=X417.2
def F423 : FC := ⟨98, [.cell 2 true 6], (sQ [o 2 (.alloc [.int .i64 0, .int .i64 0, .int .i64 0, .slice none 0 0, .slice none 0 0, .slice none 0 0])] (sQ [o 3 (.mov (.const (.slice none 0 0)))] (.seq (sQ [oM 9 0, o 10 (.nilCheck Q9), oA 11 0 10, oA 12 0 11, oA 13 2 12, o 14 (.load true 5 Q13), o 4 (.alloc [.int .i64 0, .int .i64 0, .int .i64 0, .int .i64 0, .slice none 0 0]), oS 5 4 14]
 (sQ [oA 15 0 4, oL 16 15] (.block 0 (sQ [o 26 (.bin .eql Q16 (kI 2) tI), oM 25 26] (.cond Q25 (sQ [oM 27 0, o 28 (.nilCheck Q27), oA 29 16 28, oL 30 29, o 31 (.len 1 Q30), o 32 (.bin .add Q31 (kI 7) tI), o 33 (.bin .quo Q32 (kI 8) tI), o 34 (.mkSlice 1 1 [.int .u8 0] Q33 Q33), oM 3 34] (sQ [oM 35 0, o 36 (.nilCheck Q35), oA 37 16 36, oL 38 37, o 39 (.len 1 Q38), o 40 (.mov (kI 0))]
 (.block 1 (.loop (sQ [o 41 (.bin .lss Q40 Q39 tI)] (.seq (.cond Q41 .skip (.exit 1)) (.seq (.block 2 (sQ [oM 42 40, o 43 (.indexAddr 1 Q38 Q40), oL 44 43, oM 5 42, oM 6 44]
 (.ops [oM 45 3, oM 46 5, o 47 (.bin .quo Q46 (kI 8) tI), o 48 (.indexAddr 1 Q45 Q47), oL 49 48, oM 50 6, o 51 (.conv .u8 Q50), oM 52 5, o 53 (.bin .rem Q52 (kI 8) tI), o 54 (.bin .shl Q51 Q53 (some (.int .u8))), o 55 (.bin .or Q49 Q54 (some (.int .u8))), o 56 (.indexAddr 1 Q45 Q47), oS 1 56 55]))) (.ops [o 57 (.bin .add Q40 (kI 1) tI), oM 40 57]))))))))
 (sQ [o 59 (.bin .eql Q16 (kI 14) tI), oM 58 59] (.cond Q58 (sQ [oM 60 0, o 61 (.nilCheck Q60), oA 62 17 61, oL 63 62, o 64 (.len 1 Q63), oA 65 1 4, oL 66 65, o 67 (.bin .mul Q64 Q66 tI), o 68 (.mkSlice 1 1 [.int .u8 0] Q67 Q67), oM 3 68] (sQ [oM 69 0, o 70 (.nilCheck Q69), oA 71 17 70, oL 72 71, o 73 (.len 1 Q72), o 74 (.mov (kI 0))] (.block 3 (.loop (sQ [o 75 (.bin .lss Q74 Q73 tI)]
 (.seq (.cond Q75 .skip (.exit 3)) (.seq (.block 4 (sQ [oM 76 74, o 77 (.indexAddr 1 Q72 Q74), oL 78 77, oM 7 76, oM 8 78] (.ops [oM 79 3, oM 80 7, oA 81 1 4, oL 82 81, o 83 (.bin .mul Q80 Q82 tI), o 84 (.slice 1 Q79 (some Q83) none none), oM 85 8, o 86 (.copy 1 Q84 Q85)]))) (.ops [o 87 (.bin .add Q74 (kI 1) tI), oM 74 87]))))))))
 (.ops [oM 17 0, o 18 (.nilCheck Q17), oA 19 16 18, oL 20 19, oA 21 0 4, oL 22 21, o 23 (.call 407 [Q22]), ⟨none, .again 20 false 1 Q19, none⟩, o 24 (.call 427 [Q20, Q23]), oM 3 24]))))))))
 (sQ [oM 88 0, o 89 (.nilCheck Q88), oA 90 0 89, oM 91 0, o 92 (.nilCheck Q91), oA 93 0 92, oM 95 3, o 94 (.call 373 [Q93]), o 96 (.buildSlice 1 2 [.slice none 0 0, .slice none 0 0] [(0, 1, Q94), (1, 1, Q95)]), o 97 (.call 364 [Q90, Q96]), oS 6 2 97] .ret))))⟩
theorem F423_ok:Bc Tryz.prog 423=some F423:=by kernel_rfl
def F424 : FC := ⟨15, [.tmp 2], (sQ [o 1 (.box Q0), o 2 (.mov (.const .nilFunc))]
 (sQ [oL 5 1, o 6 (.nilCheck Q5), oA 7 0 6, oL 9 1, o 10 (.nilCheck Q9), oA 11 16 10, oL 12 11, o 13 (.len 1 Q12), o 8 (.call 365 [Q7]), ⟨none, .again 12 false 1 Q11, none⟩, ⟨none, .again 9 false 1 Q1, none⟩, o 3 (.alloc [.nilFunc]), oS 1 3 8, ⟨none, .again 12 false 1 Q11, none⟩, ⟨none, .again 9 false 1 Q1, none⟩, o 4 (.alloc [.int .i64 0]), oS 1 4 13]
 (sQ [o 14 (.mkFunc (.func 428) [] [Q3, Q1, Q4]), oM 2 14] .ret)))⟩
theorem F424_ok:Bc Tryz.prog 424=some F424:=by kernel_rfl
def F425 : FC := ⟨46, [.tmp 4], (sQ [o 3 (.box Q1), o 4 (.mov (kI 0))] (.seq (sQ [oM 6 0, o 7 (.nilCheck Q6), oA 8 0 7, oA 9 0 3, oL 10 9, o 11 (.call 366 [Q8, Q10]), oM 5 11] (sQ [oM 12 5, o 13 (.bin .neq Q12 (kI 0) tI)] (.cond Q13 (sQ [oM 14 5, oM 4 14] .ret) .skip)))
 (sQ [oM 15 0, oM 16 0, o 17 (.nilCheck Q16), oA 18 16 17, oL 19 18, oA 20 1 3, oL 21 20, o 22 (.conv .u64 Q21), o 23 (.buildSlice 1 1 [.int .u64 0] [(0, 1, Q22)]), ⟨none, .again 19 false 1 Q18, none⟩, o 24 (.append 1 8 Q19 Q23), o 25 (.nilCheck Q15), oA 26 16 25, oS 1 26 24]
 (sQ [oM 27 0, oM 28 0, o 29 (.nilCheck Q28), oA 30 17 29, oL 31 30, oA 32 2 3, oL 33 32, o 34 (.buildSlice 1 1 [(.string ⟨#[]⟩)] [(0, 1, Q33)]), ⟨none, .again 31 false 1 Q30, none⟩, o 35 (.append 1 16 Q31 Q34), o 36 (.nilCheck Q27), oA 37 17 36, oS 1 37 35]
 (sQ [oM 38 0, o 39 (.nilCheck Q38), oA 40 0 39, oA 41 2 3, oL 42 41, o 43 (.len 0 Q42), o 44 (.bin .add (kI 16) Q43 tI), o 45 (.call 367 [Q40, Q44]), oM 4 45] .ret)))))⟩
theorem F425_ok:Bc Tryz.prog 425=some F425:=by kernel_rfl
def X426:CF 426:=by refine⟨?_,?h⟩;rotate_left;conv=>lhs;cbv
def F426:FC:=X426.1
theorem F426_ok:Bc Tryz.prog 426=some F426:=X426.2
def X427:CF 427:=by refine⟨?_,?h⟩;rotate_left;conv=>lhs;cbv
def F427:FC:=X427.1
theorem F427_ok:Bc Tryz.prog 427=some F427:=X427.2
def F428 : FC := ⟨23, [], (sQ [oL 3 0, o 4 (.callv Q3 [])]
 (.ops [oL 5 1, oL 6 1, oL 7 1, o 8 (.nilCheck Q7), oA 9 16 8, oL 10 9, oL 11 2, o 12 (.slice 1 Q10 none (some Q11) none), oL 13 1, o 14 (.nilCheck Q13), oA 15 17 14, oL 16 15, oL 17 2, o 18 (.slice 1 Q16 none (some Q17) none), o 19 (.nilCheck Q5), oA 20 16 19, oS 1 20 12, ⟨none, .again 17 false 1 Q2, none⟩, ⟨none, .again 6 false 1 Q1, none⟩, o 21 (.nilCheck Q6), oA 22 17 21, oS 1 22 18]))⟩
theorem F428_ok:Bc Tryz.prog 428=some F428:=by kernel_rfl
def X429:CF 429:=by refine⟨?_,?h⟩;rotate_left;conv=>lhs;cbv
def F429:FC:=X429.1
theorem F429_ok:Bc Tryz.prog 429=some F429:=X429.2
def X430:CF 430:=by refine⟨?_,?h⟩;rotate_left;conv=>lhs;cbv
def F430:FC:=X430.1
theorem F430_ok:Bc Tryz.prog 430=some F430:=X430.2
def X431:CF 431:=by refine⟨?_,?h⟩;rotate_left;conv=>lhs;cbv
def F431:FC:=X431.1
theorem F431_ok:Bc Tryz.prog 431=some F431:=X431.2
def X432:CF 432:=by refine⟨?_,?h⟩;rotate_left;conv=>lhs;cbv
def F432:FC:=X432.1
theorem F432_ok:Bc Tryz.prog 432=some F432:=X432.2
def X433:CF 433:=by refine⟨?_,?h⟩;rotate_left;conv=>lhs;cbv
def F433:FC:=X433.1
theorem F433_ok:Bc Tryz.prog 433=some F433:=X433.2
def X434:CF 434:=by refine⟨?_,?h⟩;rotate_left;conv=>lhs;cbv
def F434:FC:=X434.1
theorem F434_ok:Bc Tryz.prog 434=some F434:=X434.2
def X435:CF 435:=by refine⟨?_,?h⟩;rotate_left;conv=>lhs;cbv
def F435:FC:=X435.1
theorem F435_ok:Bc Tryz.prog 435=some F435:=X435.2
def F436 : FC := ⟨40, [.cell 8 true 4], (sQ [o 4 (.box Q0), o 8 (.alloc zbZ)] (sQ [o 9 (.alloc zbZ)] (sQ [oM 15 1, oM 16 2, o 17 (.call 437 [Q15, Q16]), oM 14 17, o 18 (.extract Q14 0), o 19 (.extract Q14 1), oM 10 18, oM 11 19] (sQ [oM 20 3, o 21 (.call 310 [Q20, (kI 16)])] (sQ [oM 22 1, o 23 (.call 438 [Q22, (kI 0)]), oM 12 23] (.seq (sQ [oM 24 10, oM 13 24]
 (.block 0 (.loop (.seq (sQ [oM 25 13, oM 26 11, o 27 (.bin .lss Q25 Q26 tI)] (.cond Q27 .skip (.exit 0))) (.seq (.block 1 (.ops [oA 30 3 9, oL 31 30, oM 32 12, oM 33 13, oM 34 3, o 35 (.call 224 [Q32, Q33, Q34]), ⟨none, .again 31 false 1 Q30, none⟩, o 36 (.buildSlice 4 1 zbZ [(0, 4, Q35)]), ⟨none, .again 31 false 1 Q30, none⟩, o 37 (.append 4 56 Q31 Q36), oA 38 3 9, oS 1 38 37]))
 (.ops [oM 28 13, o 29 (.bin .add Q28 (kI 1) tI), oM 13 29])))))) (sQ [o 39 (.load true 4 Q9), oS 4 8 39] .ret)))))))⟩
theorem F436_ok:Bc Tryz.prog 436=some F436:=by kernel_rfl
def F437 : FC := ⟨43, [.tmp 4, .tmp 5], (sQ [o 4 (.mov (kI 0)), o 5 (.mov (kI 0))] (.seq (sQ [oM 6 0, o 7 (.nilCheck Q6), oA 8 0 7, oA 9 2 8, oA 10 0 9, oL 11 10, o 12 (.bin .eql Q11 (kI 16) tI)] (.cond Q12
 (sQ [oM 13 1, oM 14 0, o 15 (.nilCheck Q14), oA 16 0 15, oA 17 2 16, oA 18 1 17, oL 19 18, o 20 (.bin .mul Q13 Q19 tI), oM 21 1, o 22 (.bin .add Q21 (kI 1) tI), oM 23 0, o 24 (.nilCheck Q23), oA 25 0 24, oA 26 2 25, oA 27 1 26, oL 28 27, o 29 (.bin .mul Q22 Q28 tI), oM 4 20, oM 5 29] .ret) .skip))
 (sQ [oM 30 0, oM 31 1, oM 32 0, o 33 (.nilCheck Q32), oA 34 7 33, oA 35 4 34, oL 36 35, o 37 (.indexAddr 6 Q36 (kI 0)), oA 38 0 37, oL 39 38, o 40 (.call 430 [Q30, Q31, Q39]), o 41 (.extract Q40 0), o 42 (.extract Q40 1), oM 4 41, oM 5 42] .ret)))⟩
theorem F437_ok:Bc Tryz.prog 437=some F437:=by kernel_rfl
def F438 : FC := ⟨24, [.tmp 4], (sQ [o 4 (.mov (.const (.pointer none)))]
 (sQ [oM 5 0, o 6 (.nilCheck Q5), oA 7 0 6, o 8 (.load true 7 Q7), oM 9 1, oM 11 0, o 12 (.nilCheck Q11), oA 13 7 12, o 14 (.load true 6 Q13), oM 16 1, oM 19 0, o 20 (.nilCheck Q19), oA 21 15 20, oL 22 21, o 10 (.call 220 [Q8, Q9]), ⟨none, .again 22 false 1 Q21, none⟩, ⟨none, .again 14 true 6 Q13, none⟩, o 15 (.call 219 [Q14]), ⟨none, .again 22 false 1 Q21, none⟩, o 17 (.indexAddr 6 Q15 Q16), o 18 (.load true 6 Q17), o 23 (.call 92 [Q10, Q18, Q22]), oM 4 23]
 .ret))⟩
theorem F438_ok:Bc Tryz.prog 438=some F438:=by kernel_rfl
def F439 : FC := ⟨35, [.cell 8 true 4], (sQ [o 4 (.box Q0), o 8 (.alloc zbZ)] (sQ [o 9 (.alloc zbZ)] (sQ [oM 11 3, o 12 (.call 310 [Q11, (kI 16)])] (.seq (sQ [oM 13 1, o 14 (.nilCheck Q13), oA 15 7 14, oA 16 4 15, oL 17 16, o 18 (.len 1 Q17), o 19 (.mov (kI 0))] (.block 0 (.loop (sQ [o 20 (.bin .lss Q19 Q18 tI)] (.seq (.cond Q20 .skip (.exit 0)) (.seq (.block 1 (sQ [oM 21 19, oM 10 21]
 (.ops [oA 22 3 9, oL 23 22, oM 24 1, oM 25 10, oM 27 2, oM 28 3, o 26 (.call 438 [Q24, Q25]), ⟨none, .again 23 false 1 Q22, none⟩, o 29 (.call 224 [Q26, Q27, Q28]), ⟨none, .again 23 false 1 Q22, none⟩, o 30 (.buildSlice 4 1 zbZ [(0, 4, Q29)]), ⟨none, .again 23 false 1 Q22, none⟩, o 31 (.append 4 56 Q23 Q30), oA 32 3 9, oS 1 32 31]))) (.ops [o 33 (.bin .add Q19 (kI 1) tI), oM 19 33])))))))
 (sQ [o 34 (.load true 4 Q9), oS 4 8 34] .ret)))))⟩
theorem F439_ok:Bc Tryz.prog 439=some F439:=by kernel_rfl
def F440 : FC := ⟨69, [.cell 8 true 4], (sQ [o 4 (.box Q0), o 8 (.alloc zbZ)] (sQ [oM 14 1, o 15 (.call 318 [Q14, (kI 0)]), oM 16 2, o 17 (.call 319 [Q15, Q16]), oM 13 17, o 18 (.extract Q13 0), o 19 (.extract Q13 1), oM 9 18, oM 10 19]
 (sQ [oM 21 1, o 22 (.call 318 [Q21, (kI 1)]), oM 23 2, o 24 (.bin .mul (kI 4) Q23 tI), o 25 (.call 432 [Q22, Q24, (kI 4)]), oM 20 25, o 26 (.extract Q20 0), o 27 (.extract Q20 1), oM 11 26, oM 12 27]
 (.seq (sQ [oM 28 9, o 29 (.conv .i64 Q28), oM 30 1, o 31 (.nilCheck Q30), oA 32 7 31, oA 33 4 32, oL 34 33, o 35 (.len 1 Q34), o 36 (.bin .geq Q29 Q35 tI), oM 37 36, og 38 (.mov Q11) 37 false, og 39 (.bin .lss Q38 (kI 0) tI) 37 false, o 40 (.pick Q37 kT Q39), oM 41 40, og 42 (.mov Q11) 41 false, og 43 (.mov Q1) 41 false, og 44 (.nilCheck Q43) 41 false, og 45 (.fieldAddr 7 Q44) 41 false, og 46 (.fieldAddr 4 Q45) 41 false, og 47 (.load false 1 Q46) 41 false, og 48 (.mov Q9) 41 false, og 49 (.indexAddr 6 Q47 Q48) 41 false, og 50 (.fieldAddr 0 Q49) 41 false, og 51 (.load false 1 Q50) 41 false, og 52 (.bin .geq Q42 Q51 tI) 41 false, o 53 (.pick Q41 kT Q52)]
 (.cond Q53 (.ops [o 54 (.build [] []), o 55 (.mkIface 327 Q54), ⟨none, .bad, none⟩]) .skip)) (sQ [oM 56 3, o 57 (.call 310 [Q56, (kI 16)])] (sQ [oM 58 9, o 59 (.conv .i64 Q58), oM 60 1, oM 61 9, o 62 (.conv .i64 Q61), o 63 (.call 438 [Q60, Q62]), oM 64 11, oM 65 3, o 66 (.call 224 [Q63, Q64, Q65]), o 67 (.buildSlice 4 1 zbZ [(0, 4, Q66)]), o 68 (.build zbZ [(1, 1, Q59), (3, 1, Q67)]), oS 4 8 68]
 .ret))))))⟩
theorem F440_ok:Bc Tryz.prog 440=some F440:=by kernel_rfl
def X441:CF 441:=by refine⟨?_,?h⟩;rotate_left;conv=>lhs;cbv
def F441:FC:=X441.1
theorem F441_ok:Bc Tryz.prog 441=some F441:=X441.2
def X442:CF 442:=by refine⟨?_,?h⟩;rotate_left;conv=>lhs;cbv
def F442:FC:=X442.1
theorem F442_ok:Bc Tryz.prog 442=some F442:=X442.2
def X443:CF 443:=by refine⟨?_,?h⟩;rotate_left;conv=>lhs;cbv
def F443:FC:=X443.1
theorem F443_ok:Bc Tryz.prog 443=some F443:=X443.2
def F444 : FC := ⟨38, [.tmp 4], (sQ [o 4 (.mov (kI 0))] (sQ [oM 9 0, o 10 (.call 438 [Q9, (kI 0)]), oM 5 10] (.seq (sQ [oM 11 5, o 12 (.nilCheck Q11), oA 13 14 12, oL 14 13, o 15 (.mov (kI 0))] (.block 0 (.loop (sQ [o 16 (.bin .lss Q15 Q14 tI)] (.seq (.cond Q16 .skip (.exit 0)) (.seq (.block 1 (sQ [oM 17 15, oM 6 17]
 (sQ [oM 19 5, oM 21 5, o 22 (.nilCheck Q21), oA 23 13 22, oL 24 23, oM 25 6, o 26 (.bin .add Q24 Q25 tI), o 27 (.bin .mul (kI 4) Q26 tI), o 20 (.call 318 [Q19, (kI 1)]), ⟨none, .again 24 false 1 Q23, none⟩, o 28 (.call 432 [Q20, Q27, (kI 4)]), oM 18 28, o 29 (.extract Q18 0), o 30 (.extract Q18 1), oM 7 29, oM 8 30] (sQ [oM 31 7, oM 32 1, o 33 (.bin .gtr Q31 Q32 tI)] (.cond Q33
 (sQ [oM 34 6, oM 4 34] .ret) .skip))))) (.ops [o 35 (.bin .add Q15 (kI 1) tI), oM 15 35]))))))) (.ops [o 36 (.build [] []), o 37 (.mkIface 327 Q36), ⟨none, .bad, none⟩]))))⟩
theorem F444_ok:Bc Tryz.prog 444=some F444:=by kernel_rfl
def X445:CF 445:=by refine⟨?_,?h⟩;rotate_left;conv=>lhs;cbv
def F445:FC:=X445.1
theorem F445_ok:Bc Tryz.prog 445=some F445:=X445.2
def D100:DF:=⟨18,[.cell 4 false 1],
 [(.ops [⟨(some 3),.box (.tmp 1),none⟩,
  ⟨(some 4),.alloc [(.int .i64 0)],none⟩]),(.ops [⟨(some 6),.mov (.tmp 0),none⟩,
  ⟨(some 7),.nilCheck (.tmp 6),none⟩,
  ⟨(some 8),.fieldAddr 7 (.tmp 7),none⟩,
  ⟨(some 9),.load false 1 (.tmp 8),none⟩,
  ⟨(some 10),.invoke (.tmp 9) "colonnade/build.mark" [(189,360),(192,370),(195,378),(198,383),(201,388),(204,397),(207,404),(211,419),(214,424)] [],none⟩,
  ⟨(some 5),.alloc [.nilFunc],none⟩,
  ⟨none,.store 1 (.tmp 5) (.tmp 10),none⟩])],
 [⟨(some 11),.mkFunc (.func 153) [] [(.tmp 4),(.tmp 5)],none⟩],(.tmp 11),[],
 [(.seq (.ops [⟨(some 12),.mov (.tmp 0),none⟩,
  ⟨(some 13),.nilCheck (.tmp 12),none⟩,
  ⟨(some 14),.fieldAddr 7 (.tmp 13),none⟩,
  ⟨(some 15),.load false 1 (.tmp 14),none⟩,
  ⟨(some 16),.load true 4 (.tmp 3),none⟩,
  ⟨(some 17),.invoke (.tmp 15) "colonnade/build.take" [(189,361),(192,371),(195,379),(198,384),(201,389),(204,398),(207,405),(211,420),(214,425)] [(.tmp 16)],none⟩,
  ⟨none,.store 1 (.tmp 4) (.tmp 17),none⟩])
 .ret)]⟩
theorem Hh:DP Tryz.prog 100=some D100:=by kernel_rfl
def Pw:DF:=⟨14,[.cell 4 true 4,.tmp 5,.cell 6 false 1],
 [(.ops [⟨(some 4),.alloc [(.bool false),(.int .i64 0),(.string ⟨#[]⟩),(.slice none 0 0)],none⟩,
  ⟨(some 5),.mov (.const (.int .i64 0)),none⟩,
  ⟨(some 6),.alloc [(.int .i64 0)],none⟩])],
 [],(.func 223),[(.tmp 6)],
 [(.seq (.ops [⟨(some 7),.alloc [(.int .i64 0)],none⟩,
  ⟨none,.store 1 (.tmp 7) (.const (.int .i64 4194304)),none⟩])
 (.seq (.ops [⟨(some 8),.mov (.tmp 0),none⟩,
  ⟨(some 9),.mov (.tmp 1),none⟩,
  ⟨(some 10),.call 224 [(.tmp 8),(.tmp 9),(.tmp 7)],none⟩,
  ⟨none,.store 4 (.tmp 4) (.tmp 10),none⟩])
 (.seq (.ops [⟨(some 11),.load true 4 (.tmp 4),none⟩,
  ⟨(some 12),.load false 1 (.tmp 7),none⟩,
  ⟨(some 13),.bin .sub (.const (.int .i64 4194304)) (.tmp 12) (some (.int .i64)),none⟩,
  ⟨none,.store 4 (.tmp 4) (.tmp 11),none⟩,
  ⟨none,.again 12 false 1 (.tmp 7),none⟩,
  ⟨(some 5),.mov (.tmp 13),none⟩,
  ⟨none,.store 1 (.tmp 6) (.const (.int .i64 0)),none⟩])
 .ret)))]⟩
theorem Ic:DP Tryz.prog 151=some Pw:=by kernel_rfl
def RO:RF:=⟨6,[],none,
 [],
 [(.seq (.ops [⟨(some 2),.load false 1 (.tmp 0),none⟩,
  ⟨(some 3),.bin .neq (.tmp 2) (.const (.int .i64 0)) (some (.int .i64)),none⟩])
 (.cond (.tmp 3)
 (.ops [⟨(some 4),.load false 1 (.tmp 1),none⟩,
  ⟨(some 5),.callv (.tmp 4) [],none⟩])
 .skip))]⟩
theorem GW:DU Tryz.prog 153=some RO:=by kernel_rfl
def Rw:RF:=⟨18,[],(some (some 5)),
 [⟨(some 2),.mov (.tmp 5),none⟩],
 [(.seq (.ops [⟨(some 6),.mov (.tmp 2),none⟩,
  ⟨(some 7),.bin .neq (.tmp 6) (.const .nilIface) (some (.interface #[])),none⟩])
 (.cond (.tmp 7)
 (.seq (.seq (.ops [⟨(some 9),.mov (.tmp 2),none⟩,
  ⟨(some 10),.bad,none⟩,
  ⟨(some 8),.mov (.tmp 10),none⟩,
  ⟨(some 11),.extract (.tmp 8) 0,none⟩,
  ⟨(some 12),.extract (.tmp 8) 1,none⟩,
  ⟨(some 3),.alloc [],none⟩,
  ⟨none,.store 0 (.tmp 3) (.tmp 11),none⟩,
  ⟨(some 4),.mov (.tmp 12),none⟩])
 (.seq (.ops [⟨(some 13),.mov (.tmp 4),none⟩,
  ⟨(some 14),.un .not (.tmp 13),none⟩])
 (.cond (.tmp 14)
 (.ops [⟨(some 15),.mov (.tmp 2),none⟩,
  ⟨none,.bad,none⟩])
 .skip)))
 (.ops [⟨(some 16),.mov (.tmp 0),none⟩,
  ⟨(some 17),.nilCheck (.tmp 16),none⟩,
  ⟨none,.store 1 (.tmp 17) (.const (.int .i64 7)),none⟩]))
 .skip))]⟩
theorem J7:DU Tryz.prog 223=some Rw:=by kernel_rfl
def Pz:List (Nat×FC):=[(6,F6),(8,F8),(9,F9),(11,F11),(12,F12),(13,F13),(14,F14),(15,F15),(20,F20),(25,F25),(26,F26),(27,F27),(51,F51),(52,F52),(53,F53),(54,F54),(55,F55),(56,F56),(57,F57),(58,F58),(76,F76),(77,F77),(78,F78),(80,F80),(90,F90),(91,F91),(92,F92),(93,F93),(94,F94),(95,F95),(96,F96),(97,F97),(98,F98),(99,F99),(125,F125),(129,F129),(132,F132),(135,F135),(137,F137),(138,F138),(142,F142),(143,F143),(145,F145),(146,F146),(147,F147),(148,F148),(149,F149),(150,F150),(152,F152),(187,F187),(188,F188),(190,F190),(192,F192),(193,F193),(194,F194),(195,F195),(196,F196),(197,F197),(198,F198),(199,F199),(202,F202),(209,F209),(210,F210),(211,F211),(212,F212),(213,F213),(215,F215),(216,F216),(217,F217),(218,F218),(219,F219),(222,F222),(224,F224),(225,F225),(249,F249),(250,F250),(252,F252),(254,F254),(256,F256),(257,F257),(258,F258),(259,F259),(262,F262),(263,F263),(272,F272),(273,F273),(274,F274),(275,F275),(276,F276),(277,F277),(280,F280),(282,F282),(283,F283),(284,F284),(285,F285),(297,F297),(301,F301),(303,F303),(304,F304),(306,F306),(308,F308),(309,F309),(310,F310),(315,F315),(318,F318),(325,F325),(326,F326),(327,F327),(328,F328),(329,F329),(364,F364),(365,F365),(366,F366),(367,F367),(373,F373),(407,F407),(423,F423),(424,F424),(425,F425),(427,F427),(432,F432),(433,F433),(434,F434),(435,F435),(442,F442),(445,F445)]
theorem VT:Gx (Bc Tryz.prog) Pz:=⟨F6_ok,F8_ok,F9_ok,F11_ok,F12_ok,F13_ok,F14_ok,F15_ok,F20_ok,F25_ok,F26_ok,F27_ok,F51_ok,F52_ok,F53_ok,F54_ok,F55_ok,F56_ok,F57_ok,F58_ok,F76_ok,F77_ok,F78_ok,F80_ok,F90_ok,F91_ok,F92_ok,F93_ok,F94_ok,F95_ok,F96_ok,F97_ok,F98_ok,F99_ok,F125_ok,F129_ok,F132_ok,F135_ok,F137_ok,F138_ok,F142_ok,F143_ok,F145_ok,F146_ok,F147_ok,F148_ok,F149_ok,F150_ok,F152_ok,F187_ok,F188_ok,F190_ok,F192_ok,F193_ok,F194_ok,F195_ok,F196_ok,F197_ok,F198_ok,F199_ok,F202_ok,F209_ok,F210_ok,F211_ok,F212_ok,F213_ok,F215_ok,F216_ok,F217_ok,F218_ok,F219_ok,F222_ok,F224_ok,F225_ok,F249_ok,F250_ok,F252_ok,F254_ok,F256_ok,F257_ok,F258_ok,F259_ok,F262_ok,F263_ok,F272_ok,F273_ok,F274_ok,F275_ok,F276_ok,F277_ok,F280_ok,F282_ok,F283_ok,F284_ok,F285_ok,F297_ok,F301_ok,F303_ok,F304_ok,F306_ok,F308_ok,F309_ok,F310_ok,F315_ok,F318_ok,F325_ok,F326_ok,F327_ok,F328_ok,F329_ok,F364_ok,F365_ok,F366_ok,F367_ok,F373_ok,F407_ok,F423_ok,F424_ok,F425_ok,F427_ok,F432_ok,F433_ok,F434_ok,F435_ok,F442_ok,F445_ok,trivial⟩
def Js:List (Nat×DF):=[(100,D100),(151,Pw)]
theorem RC:Gx (DP Tryz.prog) Js:=⟨Hh,Ic,trivial⟩
def KL:List (Nat×RF):=[(153,RO),(223,Rw)]
theorem PE:Gx (DU Tryz.prog) KL:=⟨GW,J7,trivial⟩
def tab:Tab:=⟨DC Pz,DC Js,DC KL⟩
theorem V6:tab.OK Tryz.prog:=⟨EP VT,EP RC,EP PE⟩
theorem hd:Do Tryz.prog gs:=TI (by kernel_rfl)
theorem Wk:Gp gs tab 100000 9 []=some (.lit (.bool true)):=by kernel_rfl
theorem Uj(h:EH):Tri Tryz.prog gs 9 [] h fun v h'=>v = .lit (.bool true)/\h'=h:=
 Tri.litC (φ:=fun v=>v = .lit (.bool true)) (fun v hv=>by rw[hv];rfl) rfl ((Tri.closed hd V6 (L9 Wk) rfl).2.mono fun v h' hx=>hx.1) h
def leB(n:Int):Nat->List Nat
 |0=>[]
 |w+1=>(n%256).toNat::leB (n/256) w
theorem CP:∀(w:Nat) (n:Int),(leB n w).length=w
 |0,_=>rfl
 |w+1,n=>by simp[leB,CP w]
theorem Na:∀(w:Nat) (n:Int),AllB (leB n w)
 |0,_=>AllB.nil
 |w+1,n=>fun x hx=>by
  rcases List.mem_cons.1 hx with rfl|hx
  ·omega
  ·exact Na w _ x hx
theorem L0:∀(w:Nat) (n k:Int),leB (n+256^w*k) w=leB n w
 |0,_,_=>rfl
 |w+1,n,k=>by
  have e:(n+256^(w+1)*k)=n+256*(256^w*k):=by rw[Int.pow_succ,Int.mul_comm (256^w) 256,Int.mul_assoc]
  have h1:(n+256^(w+1)*k)%256=n%256:=by rw[e];omega
  have h2:(n+256^(w+1)*k)/256=n/256+256^w*k:=by rw[e];omega
  simp only[leB,h1,h2,L0 w]
theorem UC(n:Int)(w:Nat)(hw:w<=8)(h1: -9223372036854775808<=n)(h2:n<=9223372036854775807):leB (stdA.wr .u64 n) w=leB n w:=by
 have h3:stdA.wr .u64 n=if n<0 then n+18446744073709551616 else n:=by
  simp only[stdA,IntKind.wrap,IntKind.signed,IntKind.bits,Bool.false_and];split
  ·simp_all;try omega
  ·simp_all;try omega
 rw[h3]
 split
 ·have h4:(18446744073709551616:Int)=256^w*256^(8-w):=by rw[<-Int.pow_add,show w+(8-w)=8 by omega];rfl
  rw[h4,L0]
 ·rfl
theorem IB(x:Int):[EV.lit (.int .u8 (x%256))]=Bj [(x%256).toNat]:=by
 simp only[Bj,List.map_cons,List.map_nil,D9]
 rw[show (((x%256).toNat:Nat):Int)=x%256 by omega]
theorem Zu(x:Int){k:Nat}(h:0<k):leB x k=(x%256).toNat::leB (x/256) (k-1):=by
 obtain⟨j,rfl⟩:∃j,k=j+1:=⟨k-1,by omega⟩
 rfl
theorem Ie{d L:List Nat}{x:Int}{w k:Nat}(h:d++leB x (w-k)=L)(hk:k<w):(d++[(x%256).toNat])++leB (x/256) (w-(k+1))=L:=by
 rw[<-h,Zu x (k:=w-k) (by omega),show w-k-1=w-(k+1) by omega];simp
theorem Rm{d L:List Nat}{x:Int}{w k:Nat}(h:d++leB x (w-k)=L)(hk:w<=k):d=L:=by
 rw[<-h,show w-k=0 by omega,leB];simp
theorem RK{d:List Nat}{x n:Int}{w k:Nat}(h:d++leB x (w-k)=leB n w)(hk:k<=w):d.length=k:=by
 have:=congrArg List.length h
 simp only[List.length_append,CP]at this;omega
theorem H2(x:Int):stdA.sh .shr .i64 x 8=x/256:=by
 show x.fdiv (2^(min (8:Int).toNat 64))=x/256
 rw[Int.fdiv_eq_ediv_of_nonneg _ (by decide)];rfl
theorem TZ(l:List Nat)(n:Int)(w:Nat)(hw1:1<=w)(hw:w<=8)(hl:l.length<=100000)(N:Nat)(W:Int)(hN:N=l.length)(hW:W=w)(c:List EV)(hc:c=Bj l) :
  Tri Tryz.prog gs 124 [.sl 1 0 0 N none,.lit (.int .i64 n),.lit (.int .i64 W)] [.blk c] fun v h'=>∃id,v = .sl 1 id 0 (l++leB n w).length none/\Bh h' id = .blk (Bj (l++leB n w))/\id≠0/\Bh h' 0 = .dead:=by
 refine Bk F124_ok fun I0 ρ0 w0 Q hρ hQ=>?_
 obtain⟨A,hA⟩:∃A,A=stdA:=⟨_,rfl⟩
 with_reducible refine Bf hA hd hQ 200 ?hk ?_
 case hk=>trivial
 conv=>arg 9;cbv
 try simp only[OK]
 repeat' first|(with_reducible refine OKK.loop ?_)
 refine oK_ (msk 21 [0,1,2,7]) ?_
 refine oL_ (fun m st=>∃(r x:Int) (d:List Nat) (M:Nat) (e:List EV),((r=0/\st=⟨mkT 21 [(0,.sl 1 0 0 M none),(1,.lit (.int .i64 x)),(2,.lit (.int .i64 W)),(7,.lit (.int .i64 r))],[.blk e]⟩)\/(1<=r/\st=⟨mkT 21 [(0,.sl 1 1 0 M none),(1,.lit (.int .i64 x)),(2,.lit (.int .i64 W)),(7,.lit (.int .i64 r))],[.dead,.blk e]⟩))/\m=(W-r).toNat/\0<=r/\r<=W/\M=N+r.toNat/\e=Bj (l++d)/\d++leB x (w-r.toNat)=leB n w)
  (fun m st hs' ih=>?_) ⟨0,n,[],N,c,.inl ⟨rfl,rfl⟩,rfl,by omega,by omega,by omega,by rw[hc,List.append_nil],rfl⟩
 obtain⟨r,x,d,M,e,hst,hm,hr1,hr2,hM,he,hdd⟩:=hs'
 have hdl:=RK hdd (by omega)
 have hel:e.length=M:=by rw[he,Dd,List.length_append];omega
 rcases hst with ⟨hr0,rfl⟩|⟨hr0,rfl⟩
 all_goals
  with_reducible refine Bf hA hd hQ 200 ?hk ?_
  case hk=>trivial
  conv=>arg 9;cbv
  try simp only[OK]
  repeat' first|(with_reducible refine OKK.again ?_)|((with_reducible refine⟨fun hbr=>?_,fun hbr=>?_⟩)<;>(try simp(disch:=omega)only[hA,Ba]at hbr)<;>(try (with_reducible exfalso;omega)))|((with_reducible refine Be hA hd hQ 200 ?hk ?_);(case hk=>trivial);(conv=>arg 9;cbv);(try simp only[OK]))|((with_reducible refine Bn ?hn ?_);(case hn=>((simp(disch:=omega)only[hA,Ba,Da])<;>omega)))
 ·refine oK_ (msk 21 [0,1,2,7]) (OKs.mv [0,2] [] (by rw[hρ];rfl) ⟨by simp,by simp[Bd],by simp⟩ (ih _ _ ⟨_,_,d++[(x%256).toNat],_,_,.inr ⟨?_,rfl⟩,rfl,?_,?_,?_,?_,?_⟩ ?_))
  all_goals (try simp(disch:=omega)only[hA,Ba,Da,H2,Da,he,IB,C9,lA])
  all_goals first
   |omega
   |(rw[lT (by rw[List.length_append];omega),lT (by simp),lA])
   |(rw[show (r+1).toNat=r.toNat+1 by omega,<-lA];exact Ie hdd (by omega))
 ·refine oK_ (msk 21 [0,1,2,7]) (OKs.mv [0,3] [] (by rw[hρ];rfl) ⟨by simp,by simp[Bd],by simp⟩ (ih _ _ ⟨_,_,d++[(x%256).toNat],_,_,.inr ⟨?_,rfl⟩,rfl,?_,?_,?_,?_,?_⟩ ?_))
  all_goals (try simp(disch:=omega)only[hA,Ba,Da,H2,Da,he,IB,C9,lA])
  all_goals first
   |omega
   |(rw[lT (by rw[List.length_append];omega),lT (by simp),lA])
   |(rw[show (r+1).toNat=r.toNat+1 by omega,<-lA];exact Ie hdd (by omega))
 ·have hd2:=Rm hdd (by omega)
  refine⟨_,rfl,1,?_,?_,by decide,rfl⟩
  ·show EV.sl 1 1 0 M none=_
   rw[show M=(l++leB n w).length by simp only[List.length_append,CP];omega]
  ·show EO.blk e=_
   rw[he,hd2]
theorem UN(n:Int)(w:Nat)(hw1:1<=w)(hw:w<=8)(W:Int)(hW:W=w) :
  Tri Tryz.prog gs 124 [.lit (.slice none 0 0),.lit (.int .i64 n),.lit (.int .i64 W)] [] fun v h'=>∃id,v = .sl 1 id 0 (leB n w).length none/\Bh h' id = .blk (Bj (leB n w)):=by
 refine Bk F124_ok fun I0 ρ0 w0 Q hρ hQ=>?_
 obtain⟨A,hA⟩:∃A,A=stdA:=⟨_,rfl⟩
 with_reducible refine Bf hA hd hQ 200 ?hk ?_
 case hk=>trivial
 conv=>arg 9;cbv
 try simp only[OK]
 repeat' first|(with_reducible refine OKK.loop ?_)
 refine oK_ (msk 21 [0,1,2,7]) ?_
 refine oL_ (fun m st=>∃(r x:Int) (d:List Nat) (M:Nat) (e:List EV),((r=0/\st=⟨mkT 21 [(0,.lit (.slice none 0 0)),(1,.lit (.int .i64 x)),(2,.lit (.int .i64 W)),(7,.lit (.int .i64 r))],[]⟩/\e=[])\/(1<=r/\st=⟨mkT 21 [(0,.sl 1 0 0 M none),(1,.lit (.int .i64 x)),(2,.lit (.int .i64 W)),(7,.lit (.int .i64 r))],[.blk e]⟩))/\m=(W-r).toNat/\0<=r/\r<=W/\M=r.toNat/\e=Bj (d)/\d++leB x (w-r.toNat)=leB n w)
  (fun m st hs' ih=>?_) ⟨0,n,[],0,[],.inl ⟨rfl,rfl,rfl⟩,rfl,by omega,by omega,rfl,rfl,rfl⟩
 obtain⟨r,x,d,M,e,hst,hm,hr1,hr2,hM,he,hdd⟩:=hs'
 have hdl:=RK hdd (by omega)
 have hel:e.length=M:=by rw[he,Dd];omega
 rcases hst with ⟨hr0,rfl,he0⟩|⟨hr0,rfl⟩
 all_goals
  with_reducible refine Bf hA hd hQ 200 ?hk ?_
  case hk=>trivial
  conv=>arg 9;cbv
  try simp only[OK]
  repeat' first|(with_reducible refine OKK.again ?_)|((with_reducible refine⟨fun hbr=>?_,fun hbr=>?_⟩)<;>(try simp(disch:=omega)only[hA,Ba,reduceCtorEq]at hbr)<;>(try (with_reducible exfalso;omega)))|((with_reducible refine Be hA hd hQ 200 ?hk ?_);(case hk=>trivial);(conv=>arg 9;cbv);(try simp only[OK]))|((with_reducible refine Bn ?hn ?_);(case hn=>((simp(disch:=omega)only[hA,Ba,Da])<;>omega)))
 ·refine oK_ (msk 21 [0,1,2,7]) (OKs.mv [1] [] (by rw[hρ];rfl) ⟨by simp,by simp[Bd],by simp⟩ (ih _ _ ⟨_,_,d++[(x%256).toNat],_,_,.inr ⟨?_,rfl⟩,rfl,?_,?_,?_,?_,?_⟩ ?_))
  all_goals (try simp(disch:=omega)only[hA,Ba,Da,H2,Da,IB,C9,lA])
  all_goals first
   |omega
   |(rw[lT (by omega),lT (by simp)];done)
   |(rw[List.length_eq_zero_iff.1 (by omega:d.length=0)];rfl)
   |(rw[show (r+1).toNat=r.toNat+1 by omega,<-lA];exact Ie hdd (by omega))
 ·refine oK_ (msk 21 [0,1,2,7]) (OKs.mv [2] [] (by rw[hρ];rfl) ⟨by simp,by simp[Bd],by simp⟩ (ih _ _ ⟨_,_,d++[(x%256).toNat],_,_,.inr ⟨?_,rfl⟩,rfl,?_,?_,?_,?_,?_⟩ ?_))
  all_goals (try simp(disch:=omega)only[hA,Ba,Da,H2,Da,he,IB,C9,lA])
  all_goals first
   |omega
   |(rw[lT (by omega),lT (by simp)];done)
   |(rw[List.length_eq_zero_iff.1 (by omega:d.length=0)];rfl)
   |(rw[show (r+1).toNat=r.toNat+1 by omega,<-lA];exact Ie hdd (by omega))
 ·have hd2:=Rm hdd (by omega)
  refine⟨_,rfl,0,?_,?_⟩
  ·show EV.sl 1 0 0 M none=_
   rw[show M=(leB n w).length by simp only[CP];omega]
  ·show EO.blk e=_
   rw[he,hd2]
theorem R7(l:List Nat)(n:Int)(w:Nat)(hw1:1<=w)(hw:w<=8)(hl:l.length<=100000):Grows Tryz.prog gs 124 [.lit (.int .i64 n),.lit (.int .i64 w)] l (l++leB n w):=
 Grows.of (TZ l n w hw1 hw hl _ _ rfl rfl _ rfl)
theorem V5(n:Int)(w:Nat)(hw1:1<=w)(hw:w<=8):Begins Tryz.prog gs 124 [.lit (.int .i64 n),.lit (.int .i64 w)] (leB n w):=
 Begins.of (UN n w hw1 hw _ rfl)
theorem Tri.valA{P:Program}{G:List (List EV)}{f:FuncId}{args:List EV}{V:EV}(hV:clE V=true)(ha:clL args=true)(t:Tri P G f args [] fun v _=>v=V)(h:EH):Tri P G f args h fun v h'=>v=V/\h'=h:=
 Tri.litC (φ:=fun v=>v=V) (fun v hv=>by rw[hv];exact hV) ha t h
def leV:List Nat->Nat
 |[]=>0
 |b::l=>b+256*leV l
theorem K1:∀l:List Nat,AllB l->leV l<256^l.length
 |[],_=>by simp[leV]
 |b::l,h=>by
  have h1:=K1 l fun x hx=>h x (by simp[hx])
  have h2:=h b (by simp)
  simp only[leV,List.length_cons,Nat.pow_succ];omega
theorem N2:∀l m:List Nat,leV (l++m)=leV l+256^l.length*leV m
 |[],m=>by simp[leV]
 |b::l,m=>by
  simp only[lC,leV,N2 l m,List.length_cons,Nat.pow_succ];rw[Nat.mul_add,Nat.mul_comm (256^l.length) 256,Nat.mul_assoc];omega
theorem Zt(b:List Nat)(i:Nat)(h:i<b.length):leV (b.take (i+1))=leV (b.take i)+256^i*b.getD i 0:=by
 rw[List.take_add_one,lE h,N2,lK,Nat.min_eq_left (by omega)]
 simp[leV,lG,lE h]
theorem HP(n:Int)(h1:0<=n)(h2:n<=18446744073709551615):stdA.wr .u64 n=n:=by
 show IntKind.u64.wrap n=n
 simp only[IntKind.wrap,IntKind.signed,IntKind.bits]
 simp
 omega
theorem GI(n:Nat)(h:n<18446744073709551616):stdA.wr .u64 (n:Int)=(n:Int):=HP _ (by omega) (by omega)
theorem Lt(x k:Nat)(hk:k<64)(h:x*2^k<18446744073709551616):stdA.sh .shl .u64 (x:Int) (k:Int)=((x*2^k:Nat):Int):=by
 show IntKind.u64.wrap ((x:Int)*2^(min (k:Int).toNat 64))=_
 rw[show min (k:Int).toNat 64=k by omega]
 have:((x:Int)*2^k)=((x*2^k:Nat):Int):=by push_cast;rfl
 rw[this]
 exact GI _ h
theorem Va(a x i:Nat)(ha:a<256^i)(hx:x<256)(hi:i<8):stdA.ib .or .u64 (a:Int) (stdA.sh .shl .u64 (stdA.wr .u64 (x:Int)) (stdA.ib .mul .i64 8 (i:Int)))=((a+256^i*x:Nat):Int):=by
 have hb:(256:Nat)^i*256<=256^8:=by
  have:(256:Nat)^i*256=256^(i+1):=by rw[Nat.pow_succ]
  rw[this];exact Nat.pow_le_pow_right (by decide) (by omega)
 have h8:(256:Nat)^8=18446744073709551616:=by decide
 have hxm:256^i*x<=256^i*255:=Nat.mul_le_mul_left _ (by omega)
 have hsum:a+256^i*x<18446744073709551616:=by omega
 have hp:(2:Nat)^(8*i)=256^i:=by rw[Nat.pow_mul]
 rw[GI x (by omega),LJ 8 (i:Int) (by omega) (by omega)]
 have e0:stdA.sh .shl .u64 (x:Int) (8*(i:Int))=((256^i*x:Nat):Int):=by
  have:=Lt x (8*i) (by omega) (by rw[hp,Nat.mul_comm];omega)
  rw[hp,Nat.mul_comm x]at this;rw[<-this];rfl
 rw[e0]
 show IntKind.u64.wrap _=_
 have e:(BitVec.ofInt IntKind.u64.bits (a:Int) ||| BitVec.ofInt IntKind.u64.bits ((256^i*x:Nat):Int)).toNat=a+256^i*x:=by
  rw[BitVec.toNat_or]
  have e1:∀m:Nat,m<18446744073709551616->(BitVec.ofInt IntKind.u64.bits (m:Int)).toNat=m:=fun m hm=>by
   show (BitVec.ofInt 64 (m:Int)).toNat=m;rw[BitVec.ofInt_natCast,BitVec.toNat_ofNat];exact Nat.mod_eq_of_lt (by omega)
  rw[e1 a (by omega),e1 _ (by omega),Nat.or_comm,<-hp,<-Nat.two_pow_add_eq_or_of_lt (by rw[hp];exact ha),Nat.add_comm]
 rw[e]
 exact GI _ hsum
def F24 : FC := ⟨175, [.cell 2 true 6], (sQ [o 2 (.alloc [.int .i64 0, .int .i64 0, .int .i64 0, .slice none 0 0, .slice none 0 0, .slice none 0 0])] (sQ [oM 12 0, o 13 (.nilCheck Q12), oA 14 0 13, oA 15 2 14, o 16 (.load true 5 Q15), o 3 (.alloc [.int .i64 0, .int .i64 0, .int .i64 0, .int .i64 0, .slice none 0 0]), oS 5 3 16]
 (sQ [oM 17 0, o 18 (.nilCheck Q17), oA 19 7 18, oL 20 19, oM 21 0, o 22 (.nilCheck Q21), oA 23 8 22, oL 24 23, o 25 (.build [.int .i64 0, .int .i64 0, .int .i64 0, .slice none 0 0, .slice none 0 0, .slice none 0 0] [(0, 1, Q20), (2, 1, Q24)]), o 4 (.alloc [.int .i64 0, .int .i64 0, .int .i64 0, .slice none 0 0, .slice none 0 0, .slice none 0 0]), oS 6 4 25]
 (sQ [o 26 (.buildSlice 1 0 [] []), oM 5 26] (.seq (sQ [oM 27 0, o 28 (.nilCheck Q27), oA 29 8 28, oL 30 29, o 31 (.bin .gtr Q30 (kI 0) tI)] (.cond Q31 (.ops [oM 32 0, o 33 (.nilCheck Q32), oA 34 10 33, oL 35 34, o 36 (.call 73 [Q35]), oM 5 36]) .skip)) (sQ [o 37 (.buildSlice 6 0 [] []), oM 6 37] (.seq (sQ [o 7 (.mov (kI 0))]
 (.block 0 (.loop (.seq (sQ [oM 38 7, oM 39 0, o 40 (.nilCheck Q39), oA 41 18 40, oL 42 41, o 43 (.len 1 Q42), o 44 (.bin .lss Q38 Q43 tI)] (.cond Q44 .skip (.exit 0)))
 (.seq (.block 1 (.ops [oM 47 6, oM 48 0, o 49 (.nilCheck Q48), oA 50 18 49, oL 51 50, oM 52 7, o 53 (.indexAddr 1 Q51 Q52), oL 54 53, o 55 (.call 24 [Q54]), o 56 (.buildSlice 6 1 [.int .i64 0, .int .i64 0, .int .i64 0, .slice none 0 0, .slice none 0 0, .slice none 0 0] [(0, 6, Q55)]), o 57 (.append 6 96 Q47 Q56), oM 6 57])) (.ops [oM 45 7, o 46 (.bin .add Q45 (kI 1) tI), oM 7 46]))))))
 (.seq (sQ [oA 58 0 3, oL 59 58] (.block 2 (sQ [o 71 (.bin .eql Q59 (kI 1) tI), oM 70 71] (.cond Q70 .skip (sQ [o 73 (.bin .eql Q59 (kI 2) tI), oM 72 73] (.cond Q72 (.ops [oM 74 5, oM 75 0, o 76 (.nilCheck Q75), oA 77 12 76, oL 78 77, o 79 (.call 73 [Q78]), o 80 (.buildSlice 1 2 [.slice none 0 0, .slice none 0 0] [(0, 1, Q74), (1, 1, Q79)]), oA 81 3 4, oS 1 81 80])
 (.seq (sQ [o 83 (.bin .eql Q59 (kI 12) tI), oM 82 83] (.cond Q82 .skip (.ops [o 84 (.bin .eql Q59 (kI 13) tI), oM 82 84]))) (.cond Q82 (sQ [o 85 (.buildSlice 1 0 [] []), oM 8 85]
 (.ops [oM 86 5, oM 87 0, o 88 (.nilCheck Q87), oA 89 13 88, oL 90 89, oM 92 8, oM 93 0, o 94 (.nilCheck Q93), oA 95 14 94, oL 96 95, o 91 (.call 74 [Q90, (kI 4)]), ⟨none, .again 96 false 1 Q95, none⟩, o 97 (.append 1 1 Q92 Q96), o 98 (.buildSlice 1 3 [.slice none 0 0, .slice none 0 0, .slice none 0 0] [(0, 1, Q86), (1, 1, Q91), (2, 1, Q97)]), oA 99 3 4, oS 1 99 98]))
 (sQ [o 101 (.bin .eql Q59 (kI 15) tI), oM 100 101] (.cond (q 100) (sQ [oM 102 5, oM 103 0, o 104 (.nilCheck (q 103)), oA 105 13 104, oL 106 105, o 107 (.call 74 [.tmp 106, (kI 4)]), o 108 (.buildSlice 1 2 [.slice none 0 0, .slice none 0 0] [(0, 1, (q 102)), (1, 1, (q 107))]), oA 109 3 4, oS 1 109 108] (.ops [oM 110 6, oA 111 4 4, oS 1 111 110]))
 (.seq (sQ [o 113 (.bin .eql Q59 (kI 16) tI), oM 112 113] (.cond (q 112) .skip (.ops [o 114 (.bin .eql Q59 (kI 17) tI), oM 112 114]))) (.cond (q 112) (sQ [oM 115 5, o 116 (.buildSlice 1 1 [.slice none 0 0] [(0, 1, (q 115))]), oA 117 3 4, oS 1 117 116] (.ops [oM 118 6, oA 119 4 4, oS 1 119 118])) (sQ [o 121 (.bin .eql Q59 (kI 18) tI), oM 120 121] (.cond (q 120)
 (sQ [o 122 (.buildSlice 1 0 [] []), oM 9 122]
 (sQ [oM 123 9, oM 124 0, o 125 (.nilCheck (q 124)), oA 126 11 125, oL 127 126, oM 129 0, o 130 (.nilCheck (q 129)), oA 131 13 130, oL 132 131, o 128 (.append 1 1 (q 123) (q 127)), ⟨none, .again 132 false 1 (q 131), none⟩, o 133 (.call 74 [.tmp 132, (kI 4)]), o 134 (.buildSlice 1 2 [.slice none 0 0, .slice none 0 0] [(0, 1, (q 128)), (1, 1, (q 133))]), oA 135 3 4, oS 1 135 134]
 (.ops [oM 136 6, oA 137 4 4, oS 1 137 136]))) (sQ [o 139 (.bin .eql Q59 (kI 19) tI), oM 138 139] (.cond (q 138)
 (sQ [oM 140 5, oM 141 0, o 142 (.nilCheck (q 141)), oA 143 15 142, oL 144 143, oA 145 3 3, oL 146 145, o 147 (.call 75 [.tmp 146]), ⟨none, .again 144 false 1 (q 143), none⟩, o 148 (.call 74 [.tmp 144, .tmp 147]), o 149 (.buildSlice 1 2 [.slice none 0 0, .slice none 0 0] [(0, 1, (q 140)), (1, 1, (q 148))]), oA 150 3 4, oS 1 150 149] (.ops [oM 151 6, oA 152 5 4, oS 1 152 151]))
 (sQ [o 154 (.bin .eql Q59 (kI 20) tI), oM 153 154] (.cond (q 153) (.seq (.any (.done [⟨none, .bad, none⟩]))
 (.ops [o 168 (.load true 6 Q10), oM 169 6, o 170 (.indexAddr 6 (q 169) (kI 0)), o 171 (.load true 6 (q 170)), o 172 (.buildSlice 6 2 [.int .i64 0, .int .i64 0, .int .i64 0, .slice none 0 0, .slice none 0 0, .slice none 0 0, .int .i64 0, .int .i64 0, .int .i64 0, .slice none 0 0, .slice none 0 0, .slice none 0 0] [(0, 6, (q 168)), (6, 6, (q 171))]), oA 173 4 4, oS 1 173 172]))
 (sQ [o 60 (.buildSlice 1 0 [] []), oM 11 60] (.ops [oM 61 5, oM 62 11, oM 63 0, o 64 (.nilCheck Q63), oA 65 12 64, oL 66 65, o 67 (.append 1 1 Q62 Q66), o 68 (.buildSlice 1 2 [.slice none 0 0, .slice none 0 0] [(0, 1, Q61), (1, 1, Q67)]), oA 69 3 4, oS 1 69 68])))))))))))))))))))) (sQ [o 174 (.load true 6 Q4), oS 6 2 174] .ret)))))))))⟩
theorem F24_ok:Bc Tryz.prog 24=some F24:=by kernel_rfl
def fC:List EV:=[.lit (.string ⟨#[120]⟩),.lit (.bool false),.lit (.int .i64 11),.lit (.int .i64 0),.lit (.int .i64 0),.lit (.int .i64 0),.lit (.slice none 0 0)]
def fD:List EV:=[.lit (.string ⟨#[120]⟩),.lit (.bool false),.lit (.int .i64 11),.lit (.int .i64 0),.lit (.int .i64 0),.lit (.int .i64 0),.isl 0 (some 0) []]
def fL:EV:=.isl 2 none (fC++fC)
def NV:List (Nat×FC):=[(3,F3),(4,F4),(5,F5),(6,F6),(7,F7),(8,F8),(9,F9),(10,F10),(11,F11),(12,F12),(13,F13),(14,F14),(15,F15),(16,F16),(17,F17),(18,F18),(19,F19),(20,F20),(21,F21),(22,F22),(23,F23),(24,F24),(25,F25),(26,F26),(27,F27),(28,F28),(29,F29),(30,F30),(31,F31),(32,F32),(33,F33),(34,F34),(35,F35),(36,F36),(37,F37),(38,F38),(39,F39),(40,F40),(41,F41),(42,F42),(43,F43),(44,F44),(45,F45),(46,F46),(47,F47),(48,F48),(49,F49),(50,F50),(51,F51),(52,F52),(53,F53),(54,F54),(55,F55),(56,F56),(57,F57),(58,F58),(59,F59),(60,F60),(61,F61),(62,F62),(63,F63),(64,F64),(65,F65),(66,F66),(67,F67),(68,F68),(69,F69),(70,F70),(71,F71),(72,F72),(73,F73),(74,F74),(75,F75),(76,F76),(77,F77),(78,F78),(80,F80),(81,F81),(82,F82),(83,F83),(84,F84),(85,F85),(86,F86),(87,F87),(90,F90),(91,F91),(92,F92),(93,F93),(94,F94),(95,F95),(96,F96),(97,F97),(98,F98),(99,F99),(101,F101),(102,F102),(103,F103),(104,F104),(105,F105),(106,F106),(107,F107),(108,F108),(109,F109),(110,F110),(111,F111),(112,F112),(113,F113),(114,F114),(115,F115),(116,F116),(117,F117),(118,F118),(119,F119),(120,F120),(121,F121),(122,F122),(123,F123),(124,F124),(125,F125),(129,F129),(132,F132),(135,F135),(136,F136),(137,F137),(138,F138),(139,F139),(142,F142),(143,F143),(144,F144),(145,F145),(146,F146),(147,F147),(148,F148),(149,F149),(150,F150),(152,F152),(154,F154),(155,F155),(156,F156),(157,F157),(158,F158),(159,F159),(160,F160),(161,F161),(162,F162),(163,F163),(164,F164),(165,F165),(166,F166),(167,F167),(168,F168),(169,F169),(170,F170),(171,F171),(172,F172),(173,F173),(174,F174),(175,F175),(176,F176),(177,F177),(178,F178),(179,F179),(180,F180),(181,F181),(182,F182),(183,F183),(184,F184),(185,F185),(187,F187),(188,F188),(190,F190),(192,F192),(193,F193),(194,F194),(195,F195),(196,F196),(197,F197),(198,F198),(199,F199),(201,F201),(202,F202),(204,F204),(209,F209),(210,F210),(211,F211),(212,F212),(213,F213),(214,F214),(215,F215),(216,F216),(217,F217),(218,F218),(219,F219),(220,F220),(221,F221),(222,F222),(224,F224),(225,F225),(226,F226),(227,F227),(228,F228),(229,F229),(230,F230),(231,F231),(232,F232),(233,F233),(234,F234),(235,F235),(236,F236),(237,F237),(238,F238),(239,F239),(240,F240),(241,F241),(242,F242),(243,F243),(244,F244),(245,F245),(246,F246),(247,F247),(248,F248),(249,F249),(250,F250),(252,F252),(254,F254),(256,F256),(257,F257),(258,F258),(259,F259),(260,F260),(262,F262),(263,F263),(272,F272),(273,F273),(274,F274),(275,F275),(276,F276),(277,F277),(278,F278),(279,F279),(280,F280),(281,F281),(282,F282),(283,F283),(284,F284),(285,F285),(286,F286),(287,F287),(288,F288),(289,F289),(290,F290),(291,F291),(292,F292),(297,F297),(301,F301),(302,F302),(303,F303),(304,F304),(306,F306),(307,F307),(308,F308),(309,F309),(310,F310),(312,F312),(313,F313),(314,F314),(315,F315),(317,F317),(318,F318),(319,F319),(325,F325),(326,F326),(327,F327),(328,F328),(329,F329),(358,F358),(362,F362),(364,F364),(365,F365),(366,F366),(367,F367),(368,F368),(373,F373),(374,F374),(375,F375),(391,F391),(392,F392),(394,F394),(395,F395),(407,F407),(409,F409),(412,F412),(413,F413),(414,F414),(415,F415),(416,F416),(417,F417),(423,F423),(424,F424),(425,F425),(426,F426),(427,F427),(428,F428),(429,F429),(430,F430),(431,F431),(432,F432),(433,F433),(434,F434),(435,F435),(436,F436),(437,F437),(438,F438),(439,F439),(440,F440),(441,F441),(442,F442),(443,F443),(444,F444),(445,F445)]
theorem UQ:Gx (Bc Tryz.prog) NV:=⟨F3_ok,F4_ok,F5_ok,F6_ok,F7_ok,F8_ok,F9_ok,F10_ok,F11_ok,F12_ok,F13_ok,F14_ok,F15_ok,F16_ok,F17_ok,F18_ok,F19_ok,F20_ok,F21_ok,F22_ok,F23_ok,F24_ok,F25_ok,F26_ok,F27_ok,F28_ok,F29_ok,F30_ok,F31_ok,F32_ok,F33_ok,F34_ok,F35_ok,F36_ok,F37_ok,F38_ok,F39_ok,F40_ok,F41_ok,F42_ok,F43_ok,F44_ok,F45_ok,F46_ok,F47_ok,F48_ok,F49_ok,F50_ok,F51_ok,F52_ok,F53_ok,F54_ok,F55_ok,F56_ok,F57_ok,F58_ok,F59_ok,F60_ok,F61_ok,F62_ok,F63_ok,F64_ok,F65_ok,F66_ok,F67_ok,F68_ok,F69_ok,F70_ok,F71_ok,F72_ok,F73_ok,F74_ok,F75_ok,F76_ok,F77_ok,F78_ok,F80_ok,F81_ok,F82_ok,F83_ok,F84_ok,F85_ok,F86_ok,F87_ok,F90_ok,F91_ok,F92_ok,F93_ok,F94_ok,F95_ok,F96_ok,F97_ok,F98_ok,F99_ok,F101_ok,F102_ok,F103_ok,F104_ok,F105_ok,F106_ok,F107_ok,F108_ok,F109_ok,F110_ok,F111_ok,F112_ok,F113_ok,F114_ok,F115_ok,F116_ok,F117_ok,F118_ok,F119_ok,F120_ok,F121_ok,F122_ok,F123_ok,F124_ok,F125_ok,F129_ok,F132_ok,F135_ok,F136_ok,F137_ok,F138_ok,F139_ok,F142_ok,F143_ok,F144_ok,F145_ok,F146_ok,F147_ok,F148_ok,F149_ok,F150_ok,F152_ok,F154_ok,F155_ok,F156_ok,F157_ok,F158_ok,F159_ok,F160_ok,F161_ok,F162_ok,F163_ok,F164_ok,F165_ok,F166_ok,F167_ok,F168_ok,F169_ok,F170_ok,F171_ok,F172_ok,F173_ok,F174_ok,F175_ok,F176_ok,F177_ok,F178_ok,F179_ok,F180_ok,F181_ok,F182_ok,F183_ok,F184_ok,F185_ok,F187_ok,F188_ok,F190_ok,F192_ok,F193_ok,F194_ok,F195_ok,F196_ok,F197_ok,F198_ok,F199_ok,F201_ok,F202_ok,F204_ok,F209_ok,F210_ok,F211_ok,F212_ok,F213_ok,F214_ok,F215_ok,F216_ok,F217_ok,F218_ok,F219_ok,F220_ok,F221_ok,F222_ok,F224_ok,F225_ok,F226_ok,F227_ok,F228_ok,F229_ok,F230_ok,F231_ok,F232_ok,F233_ok,F234_ok,F235_ok,F236_ok,F237_ok,F238_ok,F239_ok,F240_ok,F241_ok,F242_ok,F243_ok,F244_ok,F245_ok,F246_ok,F247_ok,F248_ok,F249_ok,F250_ok,F252_ok,F254_ok,F256_ok,F257_ok,F258_ok,F259_ok,F260_ok,F262_ok,F263_ok,F272_ok,F273_ok,F274_ok,F275_ok,F276_ok,F277_ok,F278_ok,F279_ok,F280_ok,F281_ok,F282_ok,F283_ok,F284_ok,F285_ok,F286_ok,F287_ok,F288_ok,F289_ok,F290_ok,F291_ok,F292_ok,F297_ok,F301_ok,F302_ok,F303_ok,F304_ok,F306_ok,F307_ok,F308_ok,F309_ok,F310_ok,F312_ok,F313_ok,F314_ok,F315_ok,F317_ok,F318_ok,F319_ok,F325_ok,F326_ok,F327_ok,F328_ok,F329_ok,F358_ok,F362_ok,F364_ok,F365_ok,F366_ok,F367_ok,F368_ok,F373_ok,F374_ok,F375_ok,F391_ok,F392_ok,F394_ok,F395_ok,F407_ok,F409_ok,F412_ok,F413_ok,F414_ok,F415_ok,F416_ok,F417_ok,F423_ok,F424_ok,F425_ok,F426_ok,F427_ok,F428_ok,F429_ok,F430_ok,F431_ok,F432_ok,F433_ok,F434_ok,F435_ok,F436_ok,F437_ok,F438_ok,F439_ok,F440_ok,F441_ok,F442_ok,F443_ok,F444_ok,F445_ok,trivial⟩
def tabA:Tab:=⟨DC NV,DC Js,DC KL⟩
theorem Lz:tabA.OK Tryz.prog:=⟨EP UQ,EP RC,EP PE⟩
theorem Nm{f:FuncId}{args:List EV}{V:EV}(hv:Gp gs tabA 100000 f args=some V)(hc:clL args=true)(hV:clE V=true)(h:EH):Tri Tryz.prog gs f args h fun v h'=>v=V/\h'=h:=
 Tri.litC (φ:=fun v=>v=V) (fun v hv=>by rw[hv];exact hV) hc ((Tri.closed hd Lz (L9 hv) hV).2.mono fun v h' hx=>hx.1) h
theorem SA:Gp gs tabA 100000 21 [.agg fC]=some (.sb true):=by kernel_rfl
theorem SN:Gp gs tabA 100000 21 [.agg fD]=some (.sb true):=by kernel_rfl
theorem LC{F:List EV}(hF:F=fC\/F=fD)(h:EH):Tri Tryz.prog gs 21 [.agg F] h fun v h'=>v = .sb true/\h'=h:=by
 rcases hF with rfl|rfl
 ·exact Nm SA rfl rfl h
 ·exact Nm SN rfl rfl h
theorem Ey:(ByteArray.mk (Array.mk [])).size=0:=rfl
def nC(n:Int):List EV:=[.lit (.bool false),.lit (.int .i64 n),.lit (.string ⟨#[]⟩),.lit (.slice none 0 0)]
theorem UG(h:EH):Tri Tryz.prog gs 180 [.lit (.int .i64 11)] h fun v h'=>IsP True v/\h'=h:=by
 refine Tri.boolC rfl (Bk F180_ok fun I0 ρ0 w0 Q hρ hQ=>?_) h
 obtain⟨A,hA⟩:∃A,A=stdA:=⟨_,rfl⟩
 with_reducible refine Bf hA hd hQ 200 ?hk ?_
 case hk=>trivial
 conv=>arg 9;cbv
 try simp only[OK]
 repeat' first|((with_reducible refine⟨fun hbr=>?_,fun hbr=>?_⟩)<;>(try simp(disch:=omega)only[hA,Ba]at hbr)<;>(try (with_reducible exfalso;omega)))|((with_reducible refine Be hA hd hQ 200 ?hk ?_);(case hk=>trivial);(conv=>arg 9;cbv);(try simp only[OK]))
 all_goals (try (with_reducible refine FinR.self ?_;first|refine FinR.bl rfl ?_|refine FinR.bs rfl ?_|refine FinR.blh rfl ?_ rfl|refine FinR.bsh rfl ?_ rfl))
 all_goals (try simp(disch:=omega)only[hA,Ba,iff_true])
 all_goals omega
theorem T3(n:Int)(h:EH):Tri Tryz.prog gs 181 [.lit (.int .i64 11),.lit (.int .i64 n)] h fun v h'=>IsP True v/\h'=h:=by
 refine Tri.boolC rfl (Bk F181_ok fun I0 ρ0 w0 Q hρ hQ=>?_) h
 obtain⟨A,hA⟩:∃A,A=stdA:=⟨_,rfl⟩
 with_reducible refine Bf hA hd hQ 200 ?hk ?_
 case hk=>trivial
 conv=>arg 9;cbv
 try simp only[OK]
 repeat' first|((with_reducible refine⟨fun hbr=>?_,fun hbr=>?_⟩)<;>(try simp(disch:=omega)only[hA,Ba]at hbr)<;>(try (with_reducible exfalso;omega)))|((with_reducible refine Be hA hd hQ 200 ?hk ?_);(case hk=>trivial);(conv=>arg 9;cbv);(try simp only[OK]))
 all_goals (try (with_reducible refine FinR.self ?_;first|refine FinR.bl rfl ?_|refine FinR.bs rfl ?_|refine FinR.blh rfl ?_ rfl|refine FinR.bsh rfl ?_ rfl))
 all_goals (try simp(disch:=omega)only[eq_self])
 all_goals omega
theorem To(h:EH):Tri Tryz.prog gs 75 [.lit (.int .i64 11)] h fun v h'=>v = .lit (.int .i64 8)/\h'=h:=by
 refine Tri.valA rfl rfl (Bk F75_ok fun I0 ρ0 w0 Q hρ hQ=>?_) h
 obtain⟨A,hA⟩:∃A,A=stdA:=⟨_,rfl⟩
 with_reducible refine Bf hA hd hQ 200 ?hk ?_
 case hk=>trivial
 conv=>arg 9;cbv
 try simp only[OK]
 repeat' first|((with_reducible refine⟨fun hbr=>?_,fun hbr=>?_⟩)<;>(try simp(disch:=omega)only[hA,Ba,not_true_eq_false]at hbr)<;>(try (with_reducible exfalso;omega)))|((with_reducible refine Be hA hd hQ 200 ?hk ?_);(case hk=>trivial);(conv=>arg 9;cbv);(try simp only[OK]))
 exact fI_ rfl rfl
theorem Nr(n:Int)(h:EH):Tri Tryz.prog gs 121 [.agg (nC n),.lit (.int .i64 4194304)] h fun v h'=>v = .lit (.int .i64 16)/\h'=h:=by
 refine Tri.valA rfl rfl (Bk F121_ok fun I0 ρ0 w0 Q hρ hQ=>?_) h
 obtain⟨A,hA⟩:∃A,A=stdA:=⟨_,rfl⟩
 unfold nC
 with_reducible refine Bf hA hd hQ 200 ?hk ?_
 case hk=>trivial
 conv=>arg 9;cbv
 try simp only[OK]
 repeat' first|(with_reducible refine OKK.loop ?_)|((with_reducible refine⟨fun hbr=>?_,fun hbr=>?_⟩)<;>(try simp(disch:=omega)only[hA,Ba,Ey]at hbr)<;>(try (with_reducible exfalso;omega)))|((with_reducible refine Be hA hd hQ 200 ?hk ?_);(case hk=>trivial);(conv=>arg 9;cbv);(try simp only[OK]))
 refine OKs.loopU ?_
 with_reducible refine Bf hA hd hQ 200 ?hk ?_
 case hk=>trivial
 conv=>arg 9;cbv
 try simp only[OK]
 repeat' first|((with_reducible refine⟨fun hbr=>?_,fun hbr=>?_⟩)<;>(try simp(disch:=omega)only[hA,Ba,Ey]at hbr)<;>(try (with_reducible exfalso;omega)))|((with_reducible refine Be hA hd hQ 200 ?hk ?_);(case hk=>trivial);(conv=>arg 9;cbv);(try simp only[OK]))
 exact fI_ rfl (by rw[hA];rfl)
theorem W4{F:List EV}(hF:F=fC\/F=fD)(n:Int)(h:EH):Tri Tryz.prog gs 122 [.agg F,.agg (nC n)] h fun v h'=>IsP True v/\h'=h:=by
 rcases hF with rfl|rfl
 all_goals
  refine Tri.boolC rfl (Bk F122_ok fun I0 ρ0 w0 Q hρ hQ=>?_) h
  obtain⟨A,hA⟩:∃A,A=stdA:=⟨_,rfl⟩;unfold nC
  first|unfold fC|unfold fD
  with_reducible refine Bf hA hd hQ 200 ?hk ?_
  case hk=>trivial
  conv=>arg 9;cbv
  try simp only[OK]
  repeat' first|((with_reducible refine⟨fun hbr=>?_,fun hbr=>?_⟩)<;>(try simp(disch:=omega)only[hA,Ba,not_true_eq_false,reduceCtorEq]at hbr)<;>(try (with_reducible exfalso;omega)))|((with_reducible refine Be hA hd hQ 200 ?hk ?_);(case hk=>trivial);(conv=>arg 9;cbv);(try simp only[OK]))|((with_reducible refine cO ?hg ?_);(case hg=>with_reducible exact Bi F180_ok);(refine tM (UG _) fun v hh hx=>?_);(obtain⟨⟨b,hv,hb⟩,he⟩:=hx;subst hv;subst he;cases b<;>simp(disch:=omega)only[not_true_eq_false,bF,false_iff,eq_self]at hb)<;>(try (with_reducible exfalso;omega)))|((with_reducible refine cO ?hg ?_);(case hg=>with_reducible exact Bi F181_ok);(refine tM (T3 n _) fun v hh hx=>?_);(obtain⟨⟨b,hv,hb⟩,he⟩:=hx;subst hv;subst he;cases b<;>simp(disch:=omega)only[not_true_eq_false,bF,false_iff,eq_self]at hb)<;>(try (with_reducible exfalso;omega)))
  all_goals (try (with_reducible refine FinR.self ?_;first|refine FinR.bl rfl ?_|refine FinR.bs rfl ?_|refine FinR.blh rfl ?_ rfl|refine FinR.bsh rfl ?_ rfl))
  all_goals (try simp(disch:=omega)only[hA,Ba,eq_self])
  all_goals trace_state
theorem UM{F:List EV}(hF:F=fC\/F=fD)(n:Int)(h:EH):Tri Tryz.prog gs 71 [.agg F,.agg (nC n)] h fun v h'=>IsP True v/\h'=h:=by
 have h2:=W4 hF n
 rcases hF with rfl|rfl
 all_goals
  have h1:=Nr n;unfold nC at *
  first|unfold fC at * | unfold fD at *
  refine Tri.boolC rfl (Bk F71_ok fun I0 ρ0 w0 Q hρ hQ=>?_) h
  obtain⟨A,hA⟩:∃A,A=stdA:=⟨_,rfl⟩
  with_reducible refine Bf hA hd hQ 200 ?hk ?_
  case hk=>trivial
  conv=>arg 9;cbv
  try simp only[OK]
  repeat' first|((with_reducible refine⟨fun hbr=>?_,fun hbr=>?_⟩)<;>(try simp(disch:=omega)only[hA,Ba]at hbr)<;>(try (with_reducible exfalso;omega)))|((with_reducible refine Be hA hd hQ 200 ?hk ?_);(case hk=>trivial);(conv=>arg 9;cbv);(try simp only[OK]))|((with_reducible refine cO ?hg ?_);(case hg=>with_reducible exact Bi F121_ok);refine tM (h1 _) ?_;rintro _ _ ⟨rfl,rfl⟩)|((with_reducible refine cO ?hg ?_);(case hg=>with_reducible exact Bi F122_ok);(refine tM (h2 _) fun v hh hx=>?_);(obtain⟨⟨b,hv,hb⟩,he⟩:=hx;subst hv;subst he;cases b<;>simp(disch:=omega)only[not_true_eq_false,bF,false_iff,eq_self]at hb)<;>(try (with_reducible exfalso;omega)))
  all_goals (try (with_reducible refine FinR.self ?_;first|refine FinR.bl rfl ?_|refine FinR.bs rfl ?_|refine FinR.blh rfl ?_ rfl|refine FinR.bsh rfl ?_ rfl))
  all_goals (try simp(disch:=omega)only[eq_self])
  all_goals trace_state
def Hid(p:Prop):Prop:=p
theorem Hid.mk{p:Prop}(h:p):Hid p:=h
theorem Hid.out{p:Prop}(h:Hid p):p:=h
theorem Kr{a b:Nat}(h:a<=b):((2^a:Nat):Int)<=((2^b:Nat):Int):=Int.ofNat_le.2 (Nat.pow_le_pow_right (by omega) h)
theorem pow_succ(a:Nat):((2^(a+1):Nat):Int)=2*((2^a:Nat):Int):=by rw[Nat.pow_succ];push_cast;omega
theorem CQ(n:Int):stdA.wr .u64 n=n%18446744073709551616:=by
 show IntKind.u64.wrap n=_
 simp only[IntKind.wrap,IntKind.signed,IntKind.bits]
 simp
theorem Cq(a b:Int):stdA.ib .add .u64 a b=(a+b)%18446744073709551616:=CQ _
theorem CE(a b:Int):stdA.ib .sub .u64 a b=(a-b)%18446744073709551616:=CQ _
theorem BZ(a b:Int):stdA.ib .mul .u64 a b=(a*b)%18446744073709551616:=CQ _
theorem C0(a b:Int)(h:0<=a)(h2:a<=18446744073709551615)(hb:0<b):stdA.ib .quo .u64 a b=a/b:=by
 show IntKind.u64.wrap (Int.tdiv a b)=_
 rw[Int.tdiv_eq_ediv_of_nonneg h]
 have h3:0<=a/b:=Int.ediv_nonneg h (by omega)
 have h4:a/b<=a:=Int.ediv_le_self _ h
 exact HP _ h3 (by omega)
theorem Cd(a b:Int)(h:0<=a):stdA.ib .rem .u64 a b=a%b:=Int.tmod_eq_emod_of_nonneg h
theorem N3(a:Int)(k:Nat)(h:0<=a)(hk:k<=64):stdA.sh .shr .u64 a (k:Int)=a/2^k:=by
 show Int.fdiv a (2^(min (k:Int).toNat 64))=_
 rw[show min (k:Int).toNat 64=k by omega,Int.fdiv_eq_ediv_of_nonneg _ (Int.le_of_lt (Int.pow_pos (by omega)))]
theorem Gj(n:Int):stdA.wr .i64 n=(n+9223372036854775808)%18446744073709551616-9223372036854775808:=by
 show IntKind.i64.wrap n=_
 simp only[IntKind.wrap,IntKind.signed,IntKind.bits]
 simp
 split<;>omega
def rU(x:Int):Prop:=0<=x/\x<=18446744073709551615
def W2(n:Int)(v:EV):Prop:=∃x y:Int,v = .agg [.lit (.int .u64 x),.lit (.int .u64 y)]/\rU x/\rU y/\x*18446744073709551616+y=n
theorem BO{k:IntKind}{a b:Int}(h:a=b):EV.lit (.int k a)=EV.lit (.int k b):=by rw[h]
theorem NF{k j:IntKind}{a b c d:Int}(h:a=b)(h':c=d):EV.tup [.lit (.int k a),.lit (.int j c)]=EV.tup [.lit (.int k b),.lit (.int j d)]:=by rw[h,h']
theorem W2.cl{n:Int}{v:EV}(h:W2 n v):clE v=true:=by obtain⟨x,y,rfl,_⟩:=h;rfl
theorem JQ(ah al bh bl:Int)(h1:rU ah)(h2:rU al)(h3:rU bh)(h4:rU bl)(hs:ah*18446744073709551616+al+(bh*18446744073709551616+bl)<340282366920938463463374607431768211456)(h:EH) :
  Tri Tryz.prog gs 241 [.agg [.lit (.int .u64 ah),.lit (.int .u64 al)],.agg [.lit (.int .u64 bh),.lit (.int .u64 bl)]] h fun v h'=>W2 (ah*18446744073709551616+al+(bh*18446744073709551616+bl)) v/\h'=h:=by
 unfold rU at *
 refine Tri.litC (fun v=>W2.cl) rfl (Bk F241_ok fun I0 ρ0 w0 Q hρ hQ=>?_) h
 obtain⟨A,hA⟩:∃A,A=stdA:=⟨_,rfl⟩
 with_reducible refine Bf hA hd hQ 200 ?hk ?_
 case hk=>trivial
 conv=>arg 9;cbv
 try simp only[OK]
 repeat' first|((with_reducible refine⟨fun hbr=>?_,fun hbr=>?_⟩)<;>(try simp(disch:=omega)only[hA,Ba,Cq]at hbr)<;>(try (with_reducible exfalso;omega)))|((with_reducible refine Be hA hd hQ 200 ?hk ?_);(case hk=>trivial);(conv=>arg 9;cbv);(try simp only[OK]))
 all_goals
  refine fI_ rfl ⟨_,_,rfl,?_,?_,?_⟩
  ·unfold rU;simp(disch:=omega)only[hA,Cq]<;>omega
  ·unfold rU;simp(disch:=omega)only[hA,Cq]<;>omega
  ·simp(disch:=omega)only[hA,Cq]<;>omega
theorem Sk(ah al bh bl:Int)(h1:rU ah)(h2:rU al)(h3:rU bh)(h4:rU bl)(hs:bh*18446744073709551616+bl<=ah*18446744073709551616+al)(h:EH) :
  Tri Tryz.prog gs 242 [.agg [.lit (.int .u64 ah),.lit (.int .u64 al)],.agg [.lit (.int .u64 bh),.lit (.int .u64 bl)]] h fun v h'=>W2 (ah*18446744073709551616+al-(bh*18446744073709551616+bl)) v/\h'=h:=by
 unfold rU at *
 refine Tri.litC (fun v=>W2.cl) rfl (Bk F242_ok fun I0 ρ0 w0 Q hρ hQ=>?_) h
 obtain⟨A,hA⟩:∃A,A=stdA:=⟨_,rfl⟩
 with_reducible refine Bf hA hd hQ 200 ?hk ?_
 case hk=>trivial
 conv=>arg 9;cbv
 try simp only[OK]
 repeat' first|((with_reducible refine⟨fun hbr=>?_,fun hbr=>?_⟩)<;>(try simp(disch:=omega)only[hA,Ba]at hbr)<;>(try (with_reducible exfalso;omega)))|((with_reducible refine Be hA hd hQ 200 ?hk ?_);(case hk=>trivial);(conv=>arg 9;cbv);(try simp only[OK]))
 all_goals
  refine fI_ rfl ⟨_,_,rfl,?_,?_,?_⟩
  ·unfold rU;simp(disch:=omega)only[hA,CE]<;>omega
  ·unfold rU;simp(disch:=omega)only[hA,CE]<;>omega
  ·simp(disch:=omega)only[hA,CE]<;>omega
theorem Zs(ah al:Int)(k:Nat)(hk:k<=64)(h1:rU ah)(h2:rU al)(hs:(ah*18446744073709551616+al)*((2^k:Nat):Int)<340282366920938463463374607431768211456)(h:EH) :
  Tri Tryz.prog gs 238 [.agg [.lit (.int .u64 ah),.lit (.int .u64 al)],.lit (.int .i64 k)] h fun v h'=>W2 ((ah*18446744073709551616+al)*((2^k:Nat):Int)) v/\h'=h:=by
 obtain⟨K,hK⟩:∃q:Int,q=k:=⟨_,rfl⟩
 have h1':=h1
 have h2':=h2
 unfold rU at h1' h2'
 obtain⟨N,hN⟩:∃N,N=ah*18446744073709551616+al:=⟨_,rfl⟩
 rw[<-hN]at hs ⊢
 have hN0:0<=N:=by omega
 have hpow:∀j,j<=k->N*((2^j:Nat):Int)<340282366920938463463374607431768211456:=fun j hj=>by
  have:N*((2^j:Nat):Int)<=N*((2^k:Nat):Int):=Int.mul_le_mul_of_nonneg_left (Kr hj) hN0;omega
 have hpow:=Hid.mk hpow
 rw[<-hK]
 refine Tri.litC (fun v=>W2.cl) rfl (Bk F238_ok fun I0 ρ0 w0 Q hρ hQ=>?_) h
 obtain⟨A,hA⟩:∃A,A=stdA:=⟨_,rfl⟩
 with_reducible refine Bf hA hd hQ 200 ?hk ?_
 case hk=>trivial
 conv=>arg 9;cbv
 try simp only[OK]
 repeat' first|(with_reducible refine OKK.loop ?_)
 refine oK_ (msk 15 [1,2,4,5]) ?_
 refine oL_ (fun m st=>∃(i x y:Int),st=⟨mkT 15 [(1,.lit (.int .i64 K)),(2,.ptr 0 0),(4,.ptr 1 0),(5,.lit (.int .i64 i))],[.blk [.lit (.int .u64 x),.lit (.int .u64 y)],.blk [.lit (.int .u64 0),.lit (.int .u64 0)]]⟩/\m=(K-i).toNat/\0<=i/\i<=K/\rU x/\rU y/\x*18446744073709551616+y=N*((2^i.toNat:Nat):Int))
  (fun m st hs' ih=>?_) ⟨0,ah,al,rfl,rfl,by omega,by omega,h1,h2,by rw[<-hN];simp⟩
 obtain⟨i,x,y,rfl,hm,hi1,hi2,hx,hy,hxy⟩:=hs'
 have hdb:i<K->x*18446744073709551616+y+(x*18446744073709551616+y)=N*((2^(i.toNat+1):Nat):Int)/\N*((2^(i.toNat+1):Nat):Int)<340282366920938463463374607431768211456:=fun hlt=>by
  refine⟨?_,hpow.out _ (by omega)⟩
  rw[hxy,pow_succ,Int.mul_left_comm];omega
 replace hdb:=Hid.mk hdb
 by_cases hlt:i<K
 ·obtain⟨d1,d2⟩:=hdb.out hlt
  obtain⟨Z,hZ⟩:∃Z,Z=N*((2^(i.toNat+1):Nat):Int):=⟨_,rfl⟩;rw[<-hZ]at d1 d2;obtain⟨Y,hY⟩:∃Y,Y=N*((2^i.toNat:Nat):Int):=⟨_,rfl⟩;rw[<-hY]at hxy
  with_reducible refine Bf hA hd hQ 200 ?hk ?_
  case hk=>trivial
  conv=>arg 9;cbv
  try simp only[OK]
  repeat' first|(with_reducible refine OKK.again ?_)|((with_reducible refine⟨fun hbr=>?_,fun hbr=>?_⟩)<;>(try simp(disch:=omega)only[hA,Ba]at hbr)<;>(try (with_reducible exfalso;omega)))|((with_reducible refine Be hA hd hQ 200 ?hk ?_);(case hk=>trivial);(conv=>arg 9;cbv);(try simp only[OK]))|((with_reducible refine cO ?hg ?_);(case hg=>with_reducible exact Bi F241_ok);(refine tM (JQ x y x y hx hy hx hy (by omega) _) fun v hh hx=>?_);(obtain⟨⟨x2,y2,hv,hx2,hy2,hxy2⟩,hh'⟩:=hx;subst hv;subst hh'))
  refine oK_ (msk 15 [1,2,4,5]) (OKs.mv [0,1] [] (by rw[hρ];rfl) ⟨by decide,by simp[Bd],by simp⟩ (ih _ _ ⟨A.ib .add .i64 i 1,x2,y2,rfl,rfl,?_,?_,hx2,hy2,?_⟩ ?_))
  ·simp(disch:=omega)only[hA,Ba]<;>omega
  ·simp(disch:=omega)only[hA,Ba]<;>omega
  ·rw[show (A.ib .add .i64 i 1).toNat=i.toNat+1 by simp(disch:=omega)only[hA,Ba]<;>omega,hxy2,d1,hZ]
  ·simp(disch:=omega)only[hA,Ba]<;>omega
 ·have e:i.toNat=k:=by omega
  rw[e]at hxy
  with_reducible refine Bf hA hd hQ 200 ?hk ?_
  case hk=>trivial
  conv=>arg 9;cbv
  try simp only[OK]
  repeat' first|((with_reducible refine⟨fun hbr=>?_,fun hbr=>?_⟩)<;>(try simp(disch:=omega)only[hA,Ba]at hbr)<;>(try (with_reducible exfalso;omega)))|((with_reducible refine Be hA hd hQ 200 ?hk ?_);(case hk=>trivial);(conv=>arg 9;cbv);(try simp only[OK]))
  exact fI_ rfl ⟨x,y,rfl,hx,hy,hxy⟩
theorem R1(a b:Int)(h1:rU a)(h2:rU b)(hs:a<9007199254740992/\b<9007199254740992)(h:EH) :
  Tri Tryz.prog gs 173 [.lit (.int .u64 a),.lit (.int .u64 b)] h fun v h'=>W2 (a*b) v/\h'=h:=by
 have h1':=h1
 have h2':=h2
 unfold rU at h1' h2'
 obtain⟨f,hf⟩:∃f:Nat->Int,∀j,f j=a/((2^j:Nat):Int)*b:=⟨_,fun _=>rfl⟩
 have f0:f 0=a*b:=by rw[hf];simp
 have f64:f 64=0:=by
  have:a/((2^64:Nat):Int)=0:=by omega
  rw[hf,this,Int.zero_mul]
 have fs:∀j,f j=f (j+1)+f (j+1)+(if a/((2^j:Nat):Int)%2=1 then b else 0):=fun j=>by
  rw[hf,hf]
  have e:a/((2^(j+1):Nat):Int)=a/((2^j:Nat):Int)/2:=by
   rw[Int.ediv_ediv_of_nonneg (by exact Int.natCast_nonneg _)];congr 1
  rw[e];generalize a/((2^j:Nat):Int)=q;have e2:q=2*(q/2)+q%2:=(Int.mul_ediv_add_emod q 2).symm;have e3:(2*(q/2)+q%2)*b=q/2*b+q/2*b+q%2*b:=by rw[Int.add_mul,Int.mul_assoc];omega
  rw[<-e2]at e3;rw[e3];congr 1;rcases Int.emod_two_eq q with h|h<;>rw[h]<;>simp
 have fb:∀j,0<=f j/\f j<=81129638414606663681390495662081:=fun j=>by
  rw[hf];have q1:0<=a/((2^j:Nat):Int):=Int.ediv_nonneg h1'.1 (Int.natCast_nonneg _);have q2:a/((2^j:Nat):Int)<=a:=Int.ediv_le_self _ h1'.1;generalize a/((2^j:Nat):Int)=q at *;have q3:q*b<=9007199254740991*9007199254740991:=Int.mul_le_mul (by omega) (by omega) h2'.1 (by omega)
  exact⟨Int.mul_nonneg q1 h2'.1,by omega⟩
 rw[<-f0]
 have hsh:∀i:Int,0<=i->i<=63->stdA.sh .shr .u64 a i=a/((2^i.toNat:Nat):Int):=fun i a1 a2=>by
  have:=N3 a i.toNat h1'.1 (by omega)
  rw[Int.toNat_of_nonneg a1]at this;rw[this];push_cast;rfl
 have hqn:∀j:Nat,0<=a/((2^j:Nat):Int):=fun j=>Int.ediv_nonneg h1'.1 (Int.natCast_nonneg _)
 replace fs:=Hid.mk fs
 replace fb:=Hid.mk fb
 replace hsh:=Hid.mk hsh
 replace hqn:=Hid.mk hqn
 clear hf
 refine Tri.litC (fun v=>W2.cl) rfl (Bk F173_ok fun I0 ρ0 w0 Q hρ hQ=>?_) h
 obtain⟨A,hA⟩:∃A,A=stdA:=⟨_,rfl⟩
 with_reducible refine Bf hA hd hQ 200 ?hk ?_
 case hk=>trivial
 conv=>arg 9;cbv
 try simp only[OK]
 repeat' first|(with_reducible refine OKK.loop ?_)
 refine oK_ (msk 26 [0,1,4,5,6]) ?_
 refine oL_ (fun m st=>∃(i x y:Int),st=⟨mkT 26 [(0,.lit (.int .u64 a)),(1,.lit (.int .u64 b)),(4,.ptr 0 0),(5,.ptr 1 0),(6,.lit (.int .i64 i))],[.blk [.lit (.int .u64 0),.lit (.int .u64 0)],.blk [.lit (.int .u64 x),.lit (.int .u64 y)]]⟩/\m=(i+1).toNat/\ -1<=i/\i<=63/\rU x/\rU y/\x*18446744073709551616+y=f (i+1).toNat)
  (fun m st hs' ih=>?_) ⟨63,0,0,rfl,rfl,by omega,by omega,by unfold rU;omega,by unfold rU;omega,f64.symm⟩
 obtain⟨i,x,y,rfl,hm,hi1,hi2,hx,hy,hxy⟩:=hs'
 by_cases hlt:0<=i
 ·have e1:=fs.out i.toNat
  have b1:=fb.out i.toNat;have b2:=fb.out (i.toNat+1);have q0:=hqn.out i.toNat
  have hs2:stdA.sh .shr .u64 a (i%18446744073709551616)=a/((2^i.toNat:Nat):Int):=by
   rw[Int.emod_eq_of_lt hlt (by omega)];exact hsh.out i hlt hi2
  rw[show (i+1).toNat=i.toNat+1 by omega]at hxy
  generalize a/((2^i.toNat:Nat):Int)=q at *;generalize f (i.toNat+1)=Y at *;have h00:rU 0:=by unfold rU;omega
  generalize hZ:f i.toNat=Z at *
  with_reducible refine Bf hA hd hQ 200 ?hk ?_
  case hk=>trivial
  conv=>arg 9;cbv
  try simp only[OK]
  repeat' first|(with_reducible refine OKK.again ?_)|((with_reducible refine⟨fun hbr=>?_,fun hbr=>?_⟩)<;>(try simp(disch:=omega)only[hA,Ba,CQ,Cd,hs2]at hbr)<;>(try (with_reducible exfalso;omega)))|((with_reducible refine Be hA hd hQ 200 ?hk ?_);(case hk=>trivial);(conv=>arg 9;cbv);(try simp only[OK]))|((with_reducible refine Bn ?hn ?_);(case hn=>((simp(disch:=omega)only[hA,Ba,CQ])<;>omega)))|((with_reducible refine cO ?hg ?_);(case hg=>with_reducible exact Bi F241_ok);(refine tM (JQ _ _ _ _ (by assumption) (by assumption) (by assumption) (by assumption) (by omega) _) fun v hh hx=>?_);(obtain⟨⟨x2,y2,hv,hx2,hy2,hxy2⟩,hh'⟩:=hx;subst hv;subst hh'))
  ·refine oK_ (msk 26 [0,1,4,5,6]) (OKs.mv [0,1] [] (by rw[hρ];rfl) ⟨by decide,by simp[Bd],by simp⟩ (ih _ _ ⟨A.ib .sub .i64 i 1,x2,y2,rfl,rfl,?_,?_,hx2,hy2,?_⟩ ?_))
   ·simp(disch:=omega)only[hA,Ba]<;>omega
   ·simp(disch:=omega)only[hA,Ba]<;>omega
   ·rw[if_pos hbr]at e1
    rw[show (A.ib .sub .i64 i 1+1).toNat=i.toNat by simp(disch:=omega)only[hA,Ba]<;>omega,hZ];omega
   ·simp(disch:=omega)only[hA,Ba]<;>omega
  ·refine oK_ (msk 26 [0,1,4,5,6]) (OKs.mv [0,1] [] (by rw[hρ];rfl) ⟨by decide,by simp[Bd],by simp⟩ (ih _ _ ⟨A.ib .sub .i64 i 1,x2,y2,rfl,rfl,?_,?_,hx2,hy2,?_⟩ ?_))
   ·simp(disch:=omega)only[hA,Ba]<;>omega
   ·simp(disch:=omega)only[hA,Ba]<;>omega
   ·rw[if_neg hbr]at e1
    rw[show (A.ib .sub .i64 i 1+1).toNat=i.toNat by simp(disch:=omega)only[hA,Ba]<;>omega,hZ];omega
   ·simp(disch:=omega)only[hA,Ba]<;>omega
 ·have e:(i+1).toNat=0:=by omega
  rw[e]at hxy
  with_reducible refine Bf hA hd hQ 200 ?hk ?_
  case hk=>trivial
  conv=>arg 9;cbv
  try simp only[OK]
  repeat' first|((with_reducible refine⟨fun hbr=>?_,fun hbr=>?_⟩)<;>(try simp(disch:=omega)only[hA,Ba]at hbr)<;>(try (with_reducible exfalso;omega)))|((with_reducible refine Be hA hd hQ 200 ?hk ?_);(case hk=>trivial);(conv=>arg 9;cbv);(try simp only[OK]))
  exact fI_ rfl ⟨x,y,rfl,hx,hy,hxy⟩
theorem YS(n:Int)(h1:rU n)(h:EH) :
  Tri Tryz.prog gs 289 [.lit (.int .u64 n)] h fun v h'=>v = .lit (.int .i64 (Fl.long n.toNat))/\h'=h:=by
 have hl:∀q:Nat,Fl.long q=if q=0 then 0 else Fl.long (q/2)+1:=fun q=>by
  unfold Fl.long
  by_cases h0:q=0
  ·simp[h0]
  ·rw[if_neg h0,if_neg h0]
   by_cases h2:q/2=0
   ·rw[if_pos h2]
    have:q=1:=by omega
    subst this;decide
   ·rw[if_neg h2]
    congr 1;refine Fl.log2_eq ?_ ?_
    ·have:=Nat.log2_self_le h2
     rw[Nat.pow_succ];omega
    ·have:=@Nat.lt_log2_self (q/2)
     rw[Nat.pow_succ];omega
 have hb:Fl.long n.toNat<=64:=Fl.long_lt _ _ (by unfold rU at h1;omega)
 obtain⟨L,hL⟩:∃L,L=Fl.long n.toNat:=⟨_,rfl⟩
 rw[<-hL]at hb ⊢
 obtain⟨L',hL'⟩:∃q:Int,q=L:=⟨_,rfl⟩
 rw[<-hL']
 replace hl:=Hid.mk hl
 have h2:=h1
 unfold rU at h2
 refine Tri.valA rfl rfl (Bk F289_ok fun I0 ρ0 w0 Q hρ hQ=>?_) h
 obtain⟨A,hA⟩:∃A,A=stdA:=⟨_,rfl⟩
 with_reducible refine Bf hA hd hQ 200 ?hk ?_
 case hk=>trivial
 conv=>arg 9;cbv
 try simp only[OK]
 repeat' first|(with_reducible refine OKK.loop ?_)
 refine oK_ (msk 11 [0,2,3]) ?_
 refine oL_ (fun m st=>∃(q l:Int),st=⟨mkT 11 [(0,.lit (.int .u64 q)),(2,.lit (.int .i64 0)),(3,.lit (.int .i64 l))],[]⟩/\m=q.toNat/\rU q/\0<=l/\l+(Fl.long q.toNat:Nat)=L')
  (fun m st hs' ih=>?_) ⟨n,0,rfl,rfl,h1,by omega,by rw[hL',hL];omega⟩
 obtain⟨q,l,rfl,hm,hq,hl0,hlL⟩:=hs'
 have hq2:=hq
 unfold rU at hq2
 have hlq:=hl.out q.toNat
 by_cases h0:q=0
 ·rw[h0]at hlL
  have e0:Fl.long (Int.toNat 0)=0:=rfl;rw[e0]at hlL
  with_reducible refine Bf hA hd hQ 200 ?hk ?_
  case hk=>trivial
  conv=>arg 9;cbv
  try simp only[OK]
  repeat' first|((with_reducible refine⟨fun hbr=>?_,fun hbr=>?_⟩)<;>(try simp(disch:=omega)only[hA,Ba]at hbr)<;>(try (with_reducible exfalso;omega)))|((with_reducible refine Be hA hd hQ 200 ?hk ?_);(case hk=>trivial);(conv=>arg 9;cbv);(try simp only[OK]))
  exact fI_ rfl (BO (by omega))
 ·rw[if_neg (by omega)]at hlq
  rw[hlq]at hlL;obtain⟨r,hr⟩:∃r,r=Fl.long (q.toNat/2):=⟨_,rfl⟩;rw[<-hr]at hlL hlq
  with_reducible refine Bf hA hd hQ 200 ?hk ?_
  case hk=>trivial
  conv=>arg 9;cbv
  try simp only[OK]
  repeat' first|(with_reducible refine OKK.again ?_)|((with_reducible refine⟨fun hbr=>?_,fun hbr=>?_⟩)<;>(try simp(disch:=omega)only[hA,Ba]at hbr)<;>(try (with_reducible exfalso;omega)))|((with_reducible refine Be hA hd hQ 200 ?hk ?_);(case hk=>trivial);(conv=>arg 9;cbv);(try simp only[OK]))|((with_reducible refine Bn ?hn ?_);(case hn=>((simp(disch:=omega)only[hA,Ba])<;>omega)))
  refine oK_ (msk 11 [0,2,3]) (OKs.mv [] [] (by rw[hρ];rfl) ⟨by simp,by simp[Bd],by simp⟩ (ih _ _ ⟨A.ib .quo .u64 q 2,A.ib .add .i64 l 1,rfl,rfl,?_,?_,?_⟩ ?_))
  ·unfold rU;simp(disch:=omega)only[hA,C0]<;>omega
  ·simp(disch:=omega)only[hA,Ba]<;>omega
  ·rw[show (A.ib .quo .u64 q 2).toNat=q.toNat/2 by simp(disch:=omega)only[hA,C0]<;>omega,<-hr]
   simp(disch:=omega)only[hA,Ba]<;>omega
  ·simp(disch:=omega)only[hA,C0]<;>omega
theorem U9(a:Int)(h1:rU a)(h:EH):Tri Tryz.prog gs 235 [.lit (.int .u64 a)] h fun v h'=>IsP (Fl.infW<a.toNat%2^63) v/\h'=h:=by
 unfold rU at h1
 have e:(Fl.infW<a.toNat%2^63)↔9218868437227405312<a%9223372036854775808:=by unfold Fl.infW;omega
 rw[e]
 refine Tri.boolC rfl (Bk F235_ok fun I0 ρ0 w0 Q hρ hQ=>?_) h
 obtain⟨A,hA⟩:∃A,A=stdA:=⟨_,rfl⟩
 with_reducible refine Bf hA hd hQ 200 ?hk ?_
 case hk=>trivial
 conv=>arg 9;cbv
 try simp only[OK]
 repeat' first|((with_reducible refine Bn ?hn ?_);(case hn=>((simp(disch:=omega)only[hA,Ba])<;>omega)))
 all_goals (try (with_reducible refine FinR.self ?_;first|refine FinR.bl rfl ?_|refine FinR.bs rfl ?_|refine FinR.blh rfl ?_ rfl|refine FinR.bsh rfl ?_ rfl))
 all_goals (try simp(disch:=omega)only[hA,Ba,Cd])
theorem UY(a:Int)(h1:rU a)(h:EH):Tri Tryz.prog gs 236 [.lit (.int .u64 a)] h fun v h'=>IsP (a.toNat%2^63=Fl.infW) v/\h'=h:=by
 unfold rU at h1
 have e:(a.toNat%2^63=Fl.infW)↔a%9223372036854775808=9218868437227405312:=by unfold Fl.infW;omega
 rw[e]
 refine Tri.boolC rfl (Bk F236_ok fun I0 ρ0 w0 Q hρ hQ=>?_) h
 obtain⟨A,hA⟩:∃A,A=stdA:=⟨_,rfl⟩
 with_reducible refine Bf hA hd hQ 200 ?hk ?_
 case hk=>trivial
 conv=>arg 9;cbv
 try simp only[OK]
 repeat' first|((with_reducible refine Bn ?hn ?_);(case hn=>((simp(disch:=omega)only[hA,Ba])<;>omega)))
 all_goals (try (with_reducible refine FinR.self ?_;first|refine FinR.bl rfl ?_|refine FinR.bs rfl ?_|refine FinR.blh rfl ?_ rfl|refine FinR.bsh rfl ?_ rfl))
 all_goals (try simp(disch:=omega)only[hA,Ba,Cd])
theorem Rt(a:Int)(h1:rU a)(h:EH):Tri Tryz.prog gs 239 [.lit (.int .u64 a)] h fun v h'=>v = .sb (Fl.neg a.toNat)/\h'=h:=by
 unfold rU at h1
 have e:Fl.neg a.toNat=decide (9223372036854775808<=a):=by unfold Fl.neg;exact decide_eq_decide.2 (by omega)
 rw[e]
 refine Tri.valA rfl rfl (Bk F239_ok fun I0 ρ0 w0 Q hρ hQ=>?_) h
 obtain⟨A,hA⟩:∃A,A=stdA:=⟨_,rfl⟩
 with_reducible refine Bf hA hd hQ 200 ?hk ?_
 case hk=>trivial
 conv=>arg 9;cbv
 try simp only[OK]
 refine fI_ rfl ?_
 show EV.sb (A.ic .geq a 9223372036854775808)=_
 rw[hA,LU]
theorem GA(a:Int)(h1:rU a)(h:EH):Tri Tryz.prog gs 237 [.lit (.int .u64 a)] h fun v h'=>v = .tup [.lit (.int .u64 (Fl.mant a.toNat)),.lit (.int .i64 (Fl.plc a.toNat))]/\h'=h:=by
 unfold rU at h1
 obtain⟨M,hM⟩:∃q:Int,q=Fl.mant a.toNat:=⟨_,rfl⟩
 obtain⟨X,hX⟩:∃q:Int,q=Fl.plc a.toNat:=⟨_,rfl⟩
 rw[<-hM,<-hX]
 have es:stdA.sh .shr .u64 a 52=a/4503599627370496:=by
  have:=N3 a 52 h1.1 (by omega)
  rw[show ((52:Nat):Int)=52 from rfl]at this;rw[this];rfl
 have e0:a/4503599627370496%2048=0↔a.toNat/2^52%2048=0:=by omega
 have em:M=if a/4503599627370496%2048=0 then a%4503599627370496 else a%4503599627370496+4503599627370496:=by
  rw[hM];unfold Fl.mant;split<;>split<;>omega
 have ex:X=if a/4503599627370496%2048=0 then -1074 else a/4503599627370496%2048-1075:=by
  rw[hX];unfold Fl.plc;split<;>split<;>omega
 clear hM hX e0
 refine Tri.valA rfl rfl (Bk F237_ok fun I0 ρ0 w0 Q hρ hQ=>?_) h
 obtain⟨A,hA⟩:∃A,A=stdA:=⟨_,rfl⟩
 with_reducible refine Bf hA hd hQ 200 ?hk ?_
 case hk=>trivial
 conv=>arg 9;cbv
 try simp only[OK]
 repeat' first|((with_reducible refine⟨fun hbr=>?_,fun hbr=>?_⟩)<;>(try simp(disch:=omega)only[hA,Ba,Cd,es]at hbr)<;>(try (with_reducible exfalso;omega)))|((with_reducible refine Be hA hd hQ 200 ?hk ?_);(case hk=>trivial);(conv=>arg 9;cbv);(try simp only[OK]))|((with_reducible refine Bn ?hn ?_);(case hn=>((simp(disch:=omega)only[hA,Ba])<;>omega)))
 ·rw[if_pos hbr]at em ex
  refine fI_ rfl (NF ?_ ?_)
  ·rw[em];simp(disch:=omega)only[hA,Cd]
  ·rw[ex]
 ·rw[if_neg hbr]at em ex
  refine fI_ rfl (NF ?_ ?_)
  ·rw[em];simp(disch:=omega)only[hA,Cq,Cd]<;>omega
  ·rw[ex];simp(disch:=omega)only[hA,Ba,Cd,es]<;>omega
theorem VO(N k:Nat):N%2^(k+1)=N%2^k+2^k*(N/2^k%2):=by rw[Nat.pow_succ,Nat.mod_mul]
theorem Pa(N k:Nat):N/2^(k+1)=N/2^k/2:=by rw[Nat.pow_succ,Nat.div_div_eq_div_mul]
theorem Rj(N k:Nat)(mo:Bool):(mo||N%2^(k+1) != 0)=((mo||N%2^k != 0)||N/2^k%2==1):=by
 rw[VO]
 have hp:0<2^k:=Nat.pow_pos (by omega)
 rw[Bool.or_assoc]
 congr 1
 rw[Bool.eq_iff_iff]
 simp only[bne_iff_ne,ne_eq,Bool.or_eq_true,beq_iff_eq,Nat.add_eq_zero_iff,Nat.mul_eq_zero]
 omega
def Cg(n j:Nat):Bool:=decide (0<j)&&n/2^(j-1)%2==1
def CR(mo:Bool)(n j:Nat):Bool:=mo||(decide (0<j)&&n%2^(j-1) != 0)
theorem WB(n j:Nat):Cg n (j+1)=(n/2^j%2==1):=by simp[Cg]
theorem Wl(mo:Bool)(n j:Nat):CR mo n (j+1)=(CR mo n j||Cg n j):=by
 unfold CR Cg
 cases j with
 |zero=>simp[Nat.mod_one]
 |succ j=>
  have:=Rj n j false;simp only[Bool.false_or]at this;simp only[Nat.succ_pos,decide_true,Bool.true_and,Nat.add_sub_cancel,this,Bool.or_assoc]
theorem YC(n:Nat)(x:Int)(m1:Bool)(h0:n≠0)(hm:m1=true->2^60<=n)(t:Int)(ht:t=max (x+Fl.long n-53) (-1074))
  (n2 j:Nat) (y:Int) (hc:(t<x/\n2=n*2^(x-t).toNat/\y=t/\j=0)\/(x<=t/\n2=n/\y=x+j/\y<=t/\(y=t\/(n/2^j=0/\Cg n j=false)))) :
  Fl.rnd (if m1 then 2*n+1 else n) (x-(if m1 then 1 else 0))=min ((t+1074).toNat * 2^52+Fl.up (n2/2^j) (Cg n2 j) (CR m1 n2 j)) (2047*2^52)/\
   n2/2^j<2^53/\(n2/2^j<2^52->t = -1074):=by
 have hl:Fl.long n=n.log2+1:=by unfold Fl.long;rw[if_neg h0]
 obtain⟨l1,l2⟩:=Fl.log2_spec h0
 rcases hc with ⟨c1,c2,c3,c4⟩|⟨c1,c2,c3,c4,c5⟩
 ·subst c4
  have a1:¬x<t:=by omega
  rw[Fl.round_fin n x m1 h0 hm t ht n2 false m1 (by rw[if_pos c1];exact c2) (by simp[a1]) (by simp[a1])]
  have e1:Cg n2 0=false:=rfl;have e2:CR m1 n2 0=m1:=by simp[CR]
  rw[Nat.pow_zero,Nat.div_one,e1,e2];refine⟨rfl,?_,?_⟩
  ·rw[c2]
   have:n*2^(x-t).toNat<2^(n.log2+1)*2^(x-t).toNat:=Nat.mul_lt_mul_of_pos_right l2 (Nat.pow_pos (by omega))
   rw[<-Nat.pow_add]at this;have h2:2^(n.log2+1+(x-t).toNat)<=2^53:=Nat.pow_le_pow_right (by omega) (by omega)
   omega
  ·intro hlt
   rw[c2]at hlt;have:2^n.log2*2^(x-t).toNat<=n*2^(x-t).toNat:=Nat.mul_le_mul_right _ l1;rw[<-Nat.pow_add]at this
   have h2:¬52<=n.log2+(x-t).toNat:=fun h=>by
    have:2^52<=2^(n.log2+(x-t).toNat):=Nat.pow_le_pow_right (by omega) h
    omega
   omega
 ·subst c2
  have a1:¬t<x:=by omega
  obtain⟨d,hd'⟩:∃d:Nat,t=x+d:=⟨(t-x).toNat,by omega⟩
  have ed:(t-x).toNat=d:=by omega
  have hM:n2/2^d<2^53:=by
   rw[Nat.div_lt_iff_lt_mul (Nat.pow_pos (by omega)),<-Nat.pow_add]
   have h2:2^(n2.log2+1)<=2^(53+d):=Nat.pow_le_pow_right (by omega) (by omega)
   omega
  have hM2:n2/2^d<2^52->t = -1074:=fun hlt=>by
   rw[Nat.div_lt_iff_lt_mul (Nat.pow_pos (by omega)),<-Nat.pow_add]at hlt
   have h2:¬52+d<=n2.log2:=fun h=>by
    have:2^(52+d)<=2^n2.log2:=Nat.pow_le_pow_right (by omega) h
    omega
   omega
  rw[Fl.round_fin n2 x m1 h0 hm t ht (n2/2^d) (Cg n2 d) (CR m1 n2 d) (by rw[if_neg a1,ed])
   (by unfold Cg;rw[ed];congr 1;exact decide_eq_decide.2 (by omega))
   (by unfold CR;rw[ed];congr 2;exact decide_eq_decide.2 (by omega))]
  rcases c5 with c5|⟨c5,c6⟩
  ·have:j=d:=by omega
   subst this;exact⟨rfl,hM,hM2⟩
  ·have hjd:j<=d:=by omega
   have e1:n2/2^d=0:=by
    have:n2/2^d<=n2/2^j:=Nat.div_le_div_left (Nat.pow_le_pow_right (by omega) hjd) (Nat.pow_pos (by omega))
    rw[c5]at this;exact Nat.le_zero.1 this
   have e2:Cg n2 d=false:=by
    rcases Nat.lt_or_ge j d with h|h
    ·have:n2/2^(d-1)<=n2/2^j:=Nat.div_le_div_left (Nat.pow_le_pow_right (by omega) (by omega)) (Nat.pow_pos (by omega))
     have:n2/2^(d-1)=0:=Nat.le_zero.1 (by rw[c5]at this;exact this)
     unfold Cg;rw[this];simp
    ·have:j=d:=by omega
     rw[<-this];exact c6
   rw[c5,c6,e1,e2];refine⟨rfl,by omega,fun _=>hM2 (by omega)⟩
theorem Uh(M:Nat)(la re:Bool):(M%2=1->Fl.up M la re=M+la.toNat)/\(M%2=0->Fl.up M la re=M+(la&&re).toNat):=by
 unfold Fl.up
 refine⟨fun h=>?_,fun h=>?_⟩<;>simp[h]
theorem Y4(M:Nat)(la re:Bool):M<=Fl.up M la re/\Fl.up M la re<=M+1:=by
 unfold Fl.up
 generalize (la&&(re||M%2==1))=b
 cases b<;>simp
theorem RT(t:Int)(Mn K T:Nat)(hK:Mn<=K/\K<=Mn+1)(h1:T=min ((t+1074).toNat * 2^52+K) (2047*2^52))(h2:Mn<2^53)(h3:Mn<2^52->t = -1074)(ht: -1074<=t) :
  (K=9007199254740992->2047<=t+1+1075->(T:Int)=9218868437227405312)/\(K=9007199254740992->t+1+1075<2047->(T:Int)=(t+1+1075)*4503599627370496)/\(K<4503599627370496->T=K)/\
  (4503599627370496<=K->K≠9007199254740992->2047<=t+1075->(T:Int)=9218868437227405312)/\(4503599627370496<=K->K≠9007199254740992->t+1075<2047->(T:Int)=(t+1075)*4503599627370496+(K-4503599627370496)):=by
 rw[Fl.round_word t K ht (by omega) (fun h=>h3 (by omega))]at h1
 refine⟨fun a b=>?_,fun a b=>?_,fun a=>?_,fun a b c=>?_,fun a b c=>?_⟩
 ·rw[if_pos (by omega),if_pos b]at h1;omega
 ·rw[if_pos (by omega),if_neg (by omega)]at h1;omega
 ·rw[if_neg (by omega),if_pos (by omega)]at h1;omega
 ·rw[if_neg (by omega),if_neg (by omega),if_pos c]at h1;omega
 ·rw[if_neg (by omega),if_neg (by omega),if_neg (by omega)]at h1;omega
theorem Uz(M:Int)(q:Nat)(h:M=q):stdA.ic .eql (stdA.ib .rem .u64 M 2) 1=(q%2==1):=by
 rw[JN,Cd M 2 (by omega),Bool.eq_iff_iff]
 simp only[decide_eq_true_eq,beq_iff_eq]
 omega
theorem SM(a b:Nat)(ha:a<18446744073709551616)(hb:b<18446744073709551616):stdA.ib .or .u64 (a:Int) (b:Int)=((a ||| b:Nat):Int):=by
 show IntKind.u64.wrap _=_
 have e1:∀m:Nat,m<18446744073709551616->(BitVec.ofInt IntKind.u64.bits (m:Int)).toNat=m:=fun m hm=>by
  show (BitVec.ofInt 64 (m:Int)).toNat=m;rw[BitVec.ofInt_natCast,BitVec.toNat_ofNat];exact Nat.mod_eq_of_lt (by omega)
 rw[BitVec.toNat_or,e1 a ha,e1 b hb]
 exact GI _ (Nat.or_lt_two_pow (n:=64) ha hb)
theorem Rz(k:Nat)(a b:Int)(h0:0<=a)(h1:0<=b)(hb:b<((2^k:Nat):Int))(hd:a%((2^k:Nat):Int)=0)(hs:a+b<18446744073709551616):stdA.ib .or .u64 a b=a+b:=by
 obtain⟨x,rfl⟩:=Int.eq_ofNat_of_zero_le h0
 obtain⟨y,rfl⟩:=Int.eq_ofNat_of_zero_le h1
 rw[SM x y (by omega) (by omega)]
 have e:x=2^k*(x/2^k):=by
  have:x%2^k=0:=by omega
  have:=Nat.div_add_mod x (2^k);omega
 have:2^k*(x/2^k)+y=2^k*(x/2^k) ||| y:=Nat.two_pow_add_eq_or_of_lt (by omega) _
 rw[<-e]at this
 rw[<-this,Int.natCast_add]
theorem Dj(a b:Int)(h:a=0\/a=9223372036854775808)(h1:0<=b)(h2:b<9223372036854775808):stdA.ib .or .u64 a b=a+b:=
 Rz 63 a b (by omega) h1 (by omega) (by omega) (by omega)
theorem Pt(a b:Int)(h0:0<=a)(h1:0<=b)(hb:b<4503599627370496)(hd:a%4503599627370496=0)(hs:a+b<18446744073709551616):stdA.ib .or .u64 a b=a+b:=
 Rz 52 a b h0 h1 (by omega) (by omega) hs
theorem LX(a:Int)(h0:0<=a)(h1:a<4096):stdA.sh .shl .u64 a 52=a*4503599627370496:=by
 obtain⟨x,rfl⟩:=Int.eq_ofNat_of_zero_le h0
 have:=Lt x 52 (by omega) (by omega)
 rw[show ((52:Nat):Int)=52 from rfl]at this
 rw[this,Int.natCast_mul];rfl
section
def Du:EC->Nat->EC
 |c,0=>c
 | .seq _ b,n+1=>Du b n
 |c,_+1=>c
def I4:EC->EC
 | .seq a _=>a
 |c=>c
theorem YV{N n k:Nat}(h:n=N/2^k)(h1:2^63<=n)(h2:N<2^128):k<=65:=by
 rcases Nat.lt_or_ge k 66 with h3|h3
 ·omega
 ·have:N/2^k<=N/2^66:=Nat.div_le_div_left (Nat.pow_le_pow_right (by omega) h3) (Nat.pow_pos (by omega))
  omega
def EndR(t:Int)(K T:Nat):Prop:=
 (K=9007199254740992->2047<=t+1+1075->(T:Int)=9218868437227405312)/\(K=9007199254740992->t+1+1075<2047->(T:Int)=(t+1+1075)*4503599627370496)/\(K<4503599627370496->T=K)/\
  (4503599627370496<=K->K≠9007199254740992->2047<=t+1075->(T:Int)=9218868437227405312)/\(4503599627370496<=K->K≠9007199254740992->t+1075<2047->(T:Int)=(t+1075)*4503599627370496+(K-4503599627370496))
theorem EndR.a{t:Int}{K T:Nat}(h:EndR t K T):K=9007199254740992->2047<=t+1+1075->(T:Int)=9218868437227405312:=h.1
theorem EndR.b{t:Int}{K T:Nat}(h:EndR t K T):K=9007199254740992->t+1+1075<2047->(T:Int)=(t+1+1075)*4503599627370496:=h.2.1
theorem EndR.c{t:Int}{K T:Nat}(h:EndR t K T):K<4503599627370496->(T:Int)=K:=fun x=>by rw[h.2.2.1 x]
theorem EndR.d{t:Int}{K T:Nat}(h:EndR t K T):4503599627370496<=K->K≠9007199254740992->2047<=t+1075->(T:Int)=9218868437227405312:=h.2.2.2.1
theorem EndR.e{t:Int}{K T:Nat}(h:EndR t K T):4503599627370496<=K->K≠9007199254740992->t+1075<2047->(T:Int)=(t+1075)*4503599627370496+(K-4503599627370496):=h.2.2.2.2
section
variable {I0:Imm} {ρ0:Ren} {w0:World} {Q:Exit->Act->World->Prop}
theorem YH (g t z M : Int) (la re : Bool) (q K T : Nat) (hg : g = 0 ∨ g = 9223372036854775808) (hM : M = q) (hq : q < 9007199254740992) (ht : -1074 ≤ t ∧ t ≤ 9000) (hz : z ≤ t) (hzl : z = t ∨ la = false)
    (hK : K = Fl.up q la re) (he : EndR t K T) (hQ : EndsQ Tryz.prog gs I0 ρ0 w0 Q (FinR F240.rs fun v _ => v = .lit (.int .u64 (g + T)))) :
    OKs Tryz.prog gs none I0 ρ0 w0 Q [.c (I4 (Du F240.body 11)), .c (Du F240.body 12)] ⟨mkT 122 [(2, .lit (.int .i64 z)), (9, .lit (.int .u64 g)), (11, .lit (.int .i64 t)), (12, .lit (.int .u64 M)), (13, .sb la), (14, .sb re)], []⟩ := by
  have hup := Uh q la re
  rw [← hK] at hup
  obtain ⟨A, hA⟩ : ∃ A, A = stdA := ⟨_, rfl⟩
  replace he := Hid.mk he
  cases la <;> cases re <;> simp only [Bool.and_true, Bool.and_false, Bool.toNat_true, Bool.toNat_false, or_false, or_true, reduceCtorEq] at hup hzl
  all_goals
    with_reducible refine Bf hA hd hQ 200 ?hk ?_
    case hk => trivial
    conv => arg 9; cbv
    try simp only [OK]
    repeat' first | ((with_reducible refine ⟨fun hbr => ?_, fun hbr => ?_⟩) <;> (try simp (disch := omega) only [hA, Ba, Cq, Cd, reduceCtorEq] at hbr) <;> (try (with_reducible exfalso; omega))) | ((with_reducible refine Be hA hd hQ 200 ?hk ?_); (case hk => trivial); (conv => arg 9; cbv); (try simp only [OK])) | ((with_reducible refine Bn ?hn ?_); (case hn => ((simp (disch := omega) only [hA, Ba]) <;> omega)))
  all_goals
    refine fI_ rfl (BO ?_)
    rcases Nat.mod_two_eq_zero_or_one q with hp | hp
    all_goals
      first | have hk := hup.2 hp | have hk := hup.1 hp
      clear hup
      first
        | (exfalso; omega)
        | (have eT := he.out.a (by omega) (by omega)
           rw [eT]
           simp (disch := omega) only [hA, Dj] <;> omega)
        | (have eT := he.out.b (by omega) (by omega)
           rw [eT]
           simp (disch := omega) only [hA, Ba, CE, CQ, Dj, Pt, LX] <;> omega)
        | (have eT := he.out.c (by omega)
           rw [eT]
           simp (disch := omega) only [hA, Cq, Dj] <;> omega)
        | (have eT := he.out.d (by omega) (by omega) (by omega)
           rw [eT]
           simp (disch := omega) only [hA, Dj] <;> omega)
        | (have eT := he.out.e (by omega) (by omega) (by omega)
           rw [eT]
           simp (disch := omega) only [hA, Ba, Cq, CE, CQ, Dj, Pt, LX] <;> omega)
        | trace_state
end
end
section
section
variable {I0:Imm} {ρ0:Ren} {w0:World} {Q:Exit->Act->World->Prop}
theorem Si (g t y M : Int) (mb : Bool) (n2 T : Nat) (hg : g = 0 ∨ g = 9223372036854775808) (hM : M = n2) (hn : n2 < 18446744073709551616) (ht : -1074 ≤ t ∧ t ≤ 9000) (hy : y ≤ t ∧ -9000 ≤ y)
    (hend : ∀ (z : Int) (j : Nat), z = y + j → z ≤ t → (z = t ∨ (n2 / 2 ^ j = 0 ∧ Cg n2 j = false)) → n2 / 2 ^ j < 2 ^ 53 ∧ EndR t (Fl.up (n2 / 2 ^ j) (Cg n2 j) (CR mb n2 j)) T)
    (hρ : ρ0.length = 0) (hQ : EndsQ Tryz.prog gs I0 ρ0 w0 Q (FinR F240.rs fun v _ => v = .lit (.int .u64 (g + T)))) :
    OKs Tryz.prog gs none I0 ρ0 w0 Q [.c (Du F240.body 9)] ⟨mkT 122 [(2, .lit (.int .i64 y)), (3, .sb mb), (9, .lit (.int .u64 g)), (11, .lit (.int .i64 t)), (12, .lit (.int .u64 M))], []⟩ := by
  obtain ⟨A, hA⟩ : ∃ A, A = stdA := ⟨_, rfl⟩
  replace hend := Hid.mk hend
  with_reducible refine Bf hA hd hQ 200 ?hk ?_
  case hk => trivial
  conv => arg 9; cbv
  try simp only [OK]
  repeat' first | (with_reducible refine OKK.loop ?_)
  refine oK_ (msk 122 [2, 9, 11, 12, 13, 14]) (OKs.up 13 (.sb false) (Up.sb false) ?_)
  refine oL_ (fun m st => ∃ (z M : Int) (la re : Bool) (j : Nat), st = ⟨mkT 122 [(2, .lit (.int .i64 z)), (9, .lit (.int .u64 g)), (11, .lit (.int .i64 t)), (12, .lit (.int .u64 M)), (13, .sb la), (14, .sb re)], []⟩ ∧
      m = (t - z).toNat ∧ z = y + j ∧ z ≤ t ∧ M = ((n2 / 2 ^ j : Nat) : Int) ∧ la = Cg n2 j ∧ re = CR mb n2 j)
    (fun m st hs' ih => ?_) ⟨y, M, false, mb, 0, rfl, rfl, by simp, by omega, by simp [hM], rfl, by simp [CR]⟩
  obtain ⟨z, M1, la, re, j, rfl, hm2, hz, hzt, hM1, hla, hre⟩ := hs'
  have hend2 := Hid.mk (hend.out z j hz hzt)
  have hls := WB n2 j
  have hrs := Wl mb n2 j
  have hds := Pa n2 j
  rw [← hla, ← hre] at hrs
  rw [← hla] at hend2
  rw [← hre] at hend2
  have hMb : n2 / 2 ^ j ≤ n2 := Nat.div_le_self _ _
  generalize hQj : n2 / 2 ^ j = q at *
  have fin : (z = t ∨ (q = 0 ∧ la = false)) → OKs Tryz.prog gs none I0 ρ0 w0 Q [.c (I4 (Du F240.body 11)), .c (Du F240.body 12)] ⟨mkT 122 [(2, .lit (.int .i64 z)), (9, .lit (.int .u64 g)), (11, .lit (.int .i64 t)), (12, .lit (.int .u64 M1)), (13, .sb la), (14, .sb re)], []⟩ := fun hx => by
    obtain ⟨f1, f2⟩ := hend2.out hx
    exact YH g t z M1 la re q _ T hg hM1 (by omega) ht hzt (by rcases hx with h | ⟨_, h⟩; exact .inl h; exact .inr h) rfl f2 hQ
  replace fin := Hid.mk fin
  clear hend hend2
  cases la <;> cases re <;> simp only [Bool.or_true, Bool.or_false] at hrs
  all_goals
    with_reducible refine Bf hA hd hQ 1 ?hk ?_
    case hk => trivial
    conv => arg 9; cbv
    try simp only [OK]
    repeat' first | (with_reducible refine OKK.again ?_) | (with_reducible refine OKK.stopS (some 81) ?_) | ((with_reducible refine ⟨fun hbr => ?_, fun hbr => ?_⟩) <;> (try simp (disch := omega) only [hA, Ba, reduceCtorEq] at hbr) <;> (try (with_reducible exfalso; omega))) | ((with_reducible refine Be hA hd hQ 1 ?hk ?_); (case hk => trivial); (conv => arg 9; cbv); (try simp only [OK])) | ((with_reducible refine Bn ?hn ?_); (case hn => ((simp (disch := omega) only [hA, Ba]) <;> omega)))
  all_goals first
    | (refine oK_ (msk 122 [2, 9, 11, 12, 13, 14]) ?_
       exact fin.out (by first | exact .inl (by omega) | exact .inr ⟨by omega, rfl⟩))
    | (refine oK_ (msk 122 [2, 9, 11, 12, 13, 14]) (OKs.mv [] [] (by rw [hρ]; rfl) ⟨by simp, by simp [Bd], by simp⟩ ?_)
       first | refine OKs.up 14 (.sb true) (Up.sb true) ?_ | skip
       refine ih _ _ ⟨A.ib .add .i64 z 1, A.ib .quo .u64 M1 2, _, _, j + 1, rfl, rfl, ?_, ?_, ?_, ?_, ?_⟩ ?_
       · simp (disch := omega) only [hA, Ba] <;> omega
       · simp (disch := omega) only [hA, Ba] <;> omega
       · rw [hds]; simp (disch := omega) only [hA, C0] <;> omega
       · rw [hls, hA]; exact Uz _ _ hM1
       · exact hrs.symm
       · simp (disch := omega) only [hA, Ba] <;> omega)
    | trace_state
theorem WO(g t y hi lo L:Int)(mb:Bool)(n T:Nat)(hg:g=0\/g=9223372036854775808)(hlo:lo=n)(hlo2:lo<=18446744073709551615)(ht: -1074<=t/\t<=9000)(hy: -9000<=y/\y<=9000)(htL:y+L-53<=t)
  (hbnd:∀j:Nat,L+j<=53->n*2^j<2^53) (hL:0<=L)
  (hend:∀(n2:Nat) (y' z:Int) (j:Nat),n2=n*2^(y-y').toNat->y'<=y->(t=y'\/y'=y)->y'<=t->z=y'+j->z<=t->(z=t\/(n2/2^j=0/\Cg n2 j=false))->n2/2^j<2^53/\EndR t (Fl.up (n2/2^j) (Cg n2 j) (CR mb n2 j)) T)
  (hρ:ρ0.length=0) (hQ:EndsQ Tryz.prog gs I0 ρ0 w0 Q (FinR F240.rs fun v _=>v = .lit (.int .u64 (g+T)))) :
  OKs Tryz.prog gs none I0 ρ0 w0 Q [.c (Du F240.body 7)] ⟨mkT 122 [(2,.lit (.int .i64 y)),(3,.sb mb),(5,.ptr 0 0),(9,.lit (.int .u64 g)),(11,.lit (.int .i64 t))],[.blk [.lit (.int .u64 hi),.lit (.int .u64 lo)]]⟩:=by
 obtain⟨A,hA⟩:∃A,A=stdA:=⟨_,rfl⟩
 replace hend:=Hid.mk hend
 replace hbnd:=Hid.mk hbnd
 with_reducible refine Bf hA hd hQ 200 ?hk ?_
 case hk=>trivial
 conv=>arg 9;cbv
 try simp only[OK]
 repeat' first|(with_reducible refine OKK.loop ?_)
 refine oK_ (msk 122 [2,3,9,11,12]) (OKs.mv [] [] (by rw[hρ];rfl) ⟨by simp,by simp[Bd],by simp⟩ ?_)
 refine oL_ (fun m st=>∃(y' M:Int),st=⟨mkT 122 [(2,.lit (.int .i64 y')),(3,.sb mb),(9,.lit (.int .u64 g)),(11,.lit (.int .i64 t)),(12,.lit (.int .u64 M))],[]⟩/\
   m=(y'-t).toNat/\M=((n*2^(y-y').toNat:Nat):Int)/\y'<=y/\(t<=y'\/y'=y))
  (fun m st hs' ih=>?_) ⟨y,lo,rfl,rfl,by simp;omega,by omega,.inr rfl⟩
 obtain⟨y',M,rfl,hm',hM,hy1,hy2⟩:=hs'
 have hb1:=hbnd.out (y-y').toNat
 have hb2:=hbnd.out ((y-y').toNat+1)
 obtain⟨n2,hn2⟩:∃q,q=n*2^(y-y').toNat:=⟨_,rfl⟩
 rw[<-hn2]at hM hb1
 rw[Nat.pow_succ,<-Nat.mul_assoc,<-hn2]at hb2
 by_cases hyt:t<y'
 ·have hb2:=hb2 (by omega)
  with_reducible refine Bf hA hd hQ 200 ?hk ?_
  case hk=>trivial
  conv=>arg 9;cbv
  try simp only[OK]
  repeat' first|(with_reducible refine OKK.again ?_)|((with_reducible refine⟨fun hbr=>?_,fun hbr=>?_⟩)<;>(try simp(disch:=omega)only[hA,Ba]at hbr)<;>(try (with_reducible exfalso;omega)))|((with_reducible refine Be hA hd hQ 200 ?hk ?_);(case hk=>trivial);(conv=>arg 9;cbv);(try simp only[OK]))
  refine oK_ (msk 122 [2,3,9,11,12]) (OKs.mv [] [] (by rw[hρ];rfl) ⟨by simp,by simp[Bd],by simp⟩ (ih _ _ ⟨A.ib .sub .i64 y' 1,A.ib .mul .u64 M 2,rfl,rfl,?_,?_,?_⟩ ?_))
  ·rw[show (y-A.ib .sub .i64 y' 1).toNat=(y-y').toNat+1 by simp(disch:=omega)only[hA,Ba]<;>omega,Nat.pow_succ,<-Nat.mul_assoc,<-hn2]
   simp(disch:=omega)only[hA,BZ]<;>omega
  ·simp(disch:=omega)only[hA,Ba]<;>omega
  ·left;simp(disch:=omega)only[hA,Ba]<;>omega
  ·simp(disch:=omega)only[hA,Ba]<;>omega
 ·have hn64:n2<18446744073709551616:=by
   rcases hy2 with h|h
   ·have:=hb1 (by omega);omega
   ·rw[h]at hn2;simp at hn2;omega
  have hend2:=Hid.mk (fun z j=>hend.out n2 y' z j hn2 hy1 (by omega) (by omega))
  clear hend hbnd hb1 hb2 ih
  with_reducible refine Bf hA hd hQ 1 ?hk ?_
  case hk=>trivial
  conv=>arg 9;cbv
  try simp only[OK]
  repeat' first|(with_reducible refine OKK.stopS (some 59) ?_)|((with_reducible refine⟨fun hbr=>?_,fun hbr=>?_⟩)<;>(try simp(disch:=omega)only[hA,Ba]at hbr)<;>(try (with_reducible exfalso;omega)))|((with_reducible refine Be hA hd hQ 1 ?hk ?_);(case hk=>trivial);(conv=>arg 9;cbv);(try simp only[OK]))
  refine oK_ (msk 122 [2,3,9,11,12]) ?_;exact Si g t y' M mb n2 T hg hM hn64 ht (by omega) hend2.out hρ hQ
end
end
theorem UE(M:Int)(q:Nat)(h0:0<=M)(h:M%2=(q:Int)%2):stdA.ic .eql (stdA.ib .rem .u64 M 2) 1=(q%2==1):=by
 rw[JN,Cd M 2 h0,Bool.eq_iff_iff]
 simp only[decide_eq_true_eq,beq_iff_eq]
 omega
theorem NC(s mo:Bool)(hi0 lo0 x:Int)(N:Nat)(hh:rU hi0)(hlo:rU lo0)(hN:hi0*18446744073709551616+lo0=N)(hN0:N≠0)(hmo:mo=true->2^60<=N)(hx: -4000<=x/\x<=4000)(h:EH) :
  Tri Tryz.prog gs 240 [.sb s,.agg [.lit (.int .u64 hi0),.lit (.int .u64 lo0)],.lit (.int .i64 x),.sb mo] h fun v h'=>
   v = .lit (.int .u64 ((Ieee.double.word s (Fl.rnd (if mo then 2*N+1 else N) (x-(if mo then 1 else 0))):Nat):Int))/\h'=h:=by
 have hN128:N<2^128:=by unfold rU at hh hlo;omega
 obtain⟨T,hT⟩:∃T,T=Fl.rnd (if mo then 2*N+1 else N) (x-(if mo then 1 else 0)):=⟨_,rfl⟩
 rw[<-hT]
 obtain⟨sg,hsg⟩:∃q:Int,q=if s then 9223372036854775808 else 0:=⟨_,rfl⟩
 have hsg2:sg=0\/sg=9223372036854775808:=by cases s<;>simp_all
 have hW:((Ieee.double.word s T:Nat):Int)=sg+T:=by rw[Fl.word_eq,hsg];cases s<;>simp
 rw[hW]
 have hdown:=Hid.mk (fun(k n:Nat) (m1:Bool) (h1:n=N/2^k) (h2:0<k->2^63<=n) (h3:m1=(mo||N%2^k != 0))=>hT.trans (Fl.round_down N k n x mo m1 h1 h2 hmo h3))
 have hks:=Hid.mk (fun(k n:Nat) (h1:n=N/2^k) (h2:2^63<=n)=>YV h1 h2 hN128)
 have hmb:=Hid.mk (fun k=>Rj N k mo)
 have hdb:=Hid.mk (fun k=>Pa N k)
 have hmo':=Hid.mk hmo
 have hsgT:=Hid.mk (fun e:s=true=>(hsg.trans (by rw[if_pos e]):sg=9223372036854775808))
 have hsgF:=Hid.mk (fun e:s=false=>(hsg.trans (by rw[if_neg (by rw[e];decide)]):sg=0))
 clear hT hW hmo
 refine Tri.valA rfl rfl (Bk F240_ok fun I0 ρ0 w0 Q hρ hQ=>?_) h
 obtain⟨A,hA⟩:∃A,A=stdA:=⟨_,rfl⟩
 with_reducible refine Bf hA hd hQ 200 ?hk ?_
 case hk=>trivial
 conv=>arg 9;cbv
 try simp only[OK]
 repeat' first|(with_reducible refine OKK.loop ?_)
 refine oK_ (msk 122 [0,2,3,5,8]) ?_
 refine oL_ (fun m st=>∃(y hi lo:Int) (mb:Bool) (k n:Nat),st=⟨mkT 122 [(0,.sb s),(2,.lit (.int .i64 y)),(3,.sb mb),(5,.ptr 0 0),(8,.lit (.int .u64 0))],[.blk [.lit (.int .u64 hi),.lit (.int .u64 lo)]]⟩/\
   m=hi.toNat/\rU hi/\rU lo/\hi*18446744073709551616+lo=n/\n=N/2^k/\Hid (0<k->2^63<=n)/\y=x+k/\k<=66/\mb=(mo||N%2^k != 0))
  (fun m st hs' ih=>?_) ⟨x,hi0,lo0,mo,0,N,rfl,rfl,hh,hlo,hN,by simp,fun h=>by omega,by simp,by omega,by simp[Nat.mod_one]⟩
 obtain⟨y,hi,lo,mb,k,n,rfl,hm,hhi,hlo',hn,hnk,hk1,hy,hk2,hmbk⟩:=hs'
 have hhi':=hhi
 have hlo2:=hlo'
 unfold rU at hhi' hlo2
 by_cases h0:hi=0
 ·
  have hT2:=hdown.out k n mb hnk hk1.out hmbk
  have hn0:n≠0:=by
   intro h;rcases Nat.eq_zero_or_pos k with hk|hk
   ·rw[hk]at hnk;simp at hnk;omega
   ·have:=hk1.out hk;omega
  have hm1:mb=true->2^60<=n:=fun hb=>by
   rcases Nat.eq_zero_or_pos k with hk|hk
   ·have:=hmo'.out (by rw[hmbk,hk]at hb;simpa[Nat.mod_one]using hb)
    rw[hk]at hnk;simp at hnk;omega
   ·have:=hk1.out hk;omega
  have hll:Fl.long n<=64:=Fl.long_lt _ _ (by omega)
  have hlong:=YS lo hlo';rw[show lo.toNat=n by omega]at hlong
  obtain⟨L,hL⟩:∃q:Int,q=Fl.long n:=⟨_,rfl⟩;rw[<-hL]at hlong
  have hbnd:=Hid.mk (fun(j:Nat) (hj:L+j<=53)=>(by
   have a1:n<2^Fl.long n:=by unfold Fl.long;rw[if_neg hn0];exact(Fl.log2_spec hn0).2
   have a2:n*2^j<2^Fl.long n*2^j:=Nat.mul_lt_mul_of_pos_right a1 (Nat.pow_pos (by omega))
   rw[<-Nat.pow_add]at a2;have a3:2^(Fl.long n+j)<=2^53:=Nat.pow_le_pow_right (by omega) (by omega)
   omega:n*2^j<2^53))
  have hall:=Hid.mk (YC n y mb hn0 hm1);rw[<-hy]at hT2;rw[<-hL]at hall
  have hend:Hid (∀(t:Int),t=max (y+L-53) (-1074)->∀(n2:Nat) (y' z:Int) (j:Nat),n2=n*2^(y-y').toNat->y'<=y->(t=y'\/y'=y)->y'<=t->z=y'+j->z<=t->(z=t\/(n2/2^j=0/\Cg n2 j=false))->n2/2^j<2^53/\EndR t (Fl.up (n2/2^j) (Cg n2 j) (CR mb n2 j)) T):=
   Hid.mk fun t ht n2 y' z j hn2 hy1 hy2 hy3 hz hzt hj=>by
    obtain⟨f1,f2,f3⟩:=hall.out t ht n2 j z (by
     rcases hy2 with h|h
     ·rcases Int.lt_or_le t y with h'|h'
      ·exact .inl ⟨h',by rw[hn2,h],by omega,by omega⟩
      ·have e:y'=y:=by omega
       have e2:n2=n:=by rw[hn2,e];simp
       rw[e2]at hj ⊢;exact .inr ⟨h',rfl,by omega,hzt,hj⟩
     ·have e2:n2=n:=by rw[hn2,h];simp
      rw[e2]at hj ⊢;exact .inr ⟨by omega,rfl,by omega,hzt,hj⟩)
    exact⟨f2,RT t _ _ T (Y4 _ _ _) (hT2.trans f1) f2 f3 (by omega)⟩
  clear hdown hks hmb hdb hmo' hmbk hk1 ih hall hm1 hT2
  with_reducible refine Bf hA hd hQ 1 ?hk ?_
  case hk=>trivial
  conv=>arg 9;cbv
  try simp only[OK]
  repeat' first|(with_reducible refine OKK.stopS (some 50) ?_)|((with_reducible refine⟨fun hbr=>?_,fun hbr=>?_⟩)<;>(try simp(disch:=omega)only[hA,Ba]at hbr)<;>(try (with_reducible exfalso;omega)))|((with_reducible refine Be hA hd hQ 1 ?hk ?_);(case hk=>trivial);(conv=>arg 9;cbv);(try simp only[OK]))|((with_reducible refine cO ?hg ?_);(case hg=>with_reducible exact Bi F289_ok);refine tM (hlong _) ?_;rintro _ _ ⟨rfl,rfl⟩)
  all_goals
   refine oK_ (msk 122 [2,3,5,9,11]) ?_;rw[show sg=_ by first|exact hsgT.out (by assumption)|exact hsgF.out (by assumption)]at hQ
   refine WO _ _ y hi lo L mb n T (by omega) (by omega) (by omega) ?_ (by omega) ?_ hbnd.out (by omega) (hend.out _ ?_) hρ hQ
   all_goals first|omega|(simp(disch:=omega)only[hA,Ba]<;>omega)
 ·skip
  with_reducible refine Bf hA hd hQ 200 ?hk ?_
  case hk=>trivial
  conv=>arg 9;cbv
  try simp only[OK]
  repeat' first|(with_reducible refine OKK.again ?_)|((with_reducible refine⟨fun hbr=>?_,fun hbr=>?_⟩)<;>(try simp(disch:=omega)only[hA,Ba]at hbr)<;>(try (with_reducible exfalso;omega)))|((with_reducible refine Be hA hd hQ 200 ?hk ?_);(case hk=>trivial);(conv=>arg 9;cbv);(try simp only[OK]))|((with_reducible refine Bn ?hn ?_);(case hn=>((simp(disch:=omega)only[hA,Ba])<;>omega)))
  all_goals
   refine oK_ (msk 122 [0,2,3,5,8]) (OKs.mv [0] [] (by rw[hρ];rfl) ⟨by decide,by simp[Bd],by simp⟩ ?_)
   first|refine OKs.up 3 (.sb true) (Up.sb true) ?_|skip
   refine ih _ _ ⟨A.ib .add .i64 y 1,A.ib .quo .u64 hi 2,A.ib .add .u64 (A.ib .quo .u64 lo 2) (A.ib .mul .u64 (A.ib .rem .u64 hi 2) 9223372036854775808),_,k+1,n/2,rfl,rfl,?_,?_,?_,?_,?_,?_,?_,?_⟩ ?_
   ·unfold rU;simp(disch:=omega)only[hA,C0]<;>omega
   ·unfold rU;simp(disch:=omega)only[hA,Cq,BZ,C0,Cd]<;>omega
   ·simp(disch:=omega)only[hA,Cq,BZ,C0,Cd]<;>omega
   ·rw[hdb.out k,<-hnk]
   ·exact Hid.mk fun _=>by omega
   ·simp(disch:=omega)only[hA,Ba]<;>omega
   ·have:=hks.out (k+1) (n/2) (by rw[hdb.out k,<-hnk]) (by omega);omega
   ·have e:=hmb.out k
    rw[<-hmbk,<-hnk]at e;rw[e]
    first
     |(rw[show mb=true by assumption];rfl)
     |exact((by rw[hA];exact UE lo n (by omega) (by omega):A.ic .eql (A.ib .rem .u64 lo 2) 1=(n%2==1)).trans (by rw[show mb=false by assumption];rfl))
     |trace_state
   ·simp(disch:=omega)only[hA,C0]<;>omega
section
def BI(a b:Nat):Nat:=(Ieee.double.add a b).getD Fl.nanW
def B9(a b:Nat):Nat:=(Ieee.double.mul a b).getD Fl.nanW
def B7(a b:Nat):Nat:=(Ieee.double.div a b).getD Fl.nanW
theorem IzO(a b:Nat):BI a b=BI b a:=by unfold BI;rw[Fl.add_comm]
def CJ(a b:Nat):Prop:=Fl.plc a<Fl.plc b\/(Fl.plc a=Fl.plc b/\Fl.mant a<Fl.mant b)
theorem Ja{a:Nat}(h1:a%2^63<Fl.infW)(h:Fl.mant a=0):a%2^63=0/\Fl.plc a = -1074:=by
 have e:=(Fl.mant_zero h1).1 h
 refine⟨e,?_⟩
 unfold Fl.plc
 rw[if_pos (by omega)]
section
variable {a b:Nat}
theorem Vn(h:Fl.infW<a%2^63):BI a b=Fl.nanW:=by unfold BI;rw[Fl.add_nan_l h];rfl
theorem Zr(h:Fl.infW<b%2^63):BI a b=Fl.nanW:=by unfold BI;rw[Fl.add_nan_r h];rfl
theorem Sl(ha:a<2^64)(hb:b<2^64)(h1:a%2^63=Fl.infW)(h2:b%2^63=Fl.infW)(h:a≠b):BI a b=Fl.nanW:=by
 unfold BI;rw[Fl.add_inf_inf ha hb h1 h2,if_neg h];rfl
theorem Lo(ha:a<2^64)(hb:b<2^64)(h1:a%2^63=Fl.infW)(h2:¬Fl.infW<b%2^63)(h:b%2^63=Fl.infW->a=b):BI a b=a:=by
 unfold BI
 by_cases e:b%2^63=Fl.infW
 ·rw[Fl.add_inf_inf ha hb h1 e,if_pos (h e)];rfl
 ·rw[Fl.add_inf ha hb h1 (by omega)];rfl
theorem T4(ha:a<2^64)(hb:b<2^64)(h1:b%2^63=Fl.infW)(h2:¬Fl.infW<a%2^63)(h:¬a%2^63=Fl.infW):BI a b=b:=by
 rw[IzO];exact Lo hb ha h1 h2 (fun e=>absurd e h)
variable (ha:a<2^64) (hb:b<2^64) (h1:a%2^63<Fl.infW) (h2:b%2^63<Fl.infW)
include ha hb h1 h2
theorem Zi(h3:Fl.mant a=0)(h4:Fl.mant b=0):BI a b=if a=2^63/\b=2^63 then 2^63 else 0:=by
 obtain⟨e1,e2⟩:=Ja h1 h3
 obtain⟨e3,e4⟩:=Ja h2 h4
 unfold BI
 rw[Fl.add_fin ha hb h1 h2 0 (by omega) (by omega),h3,h4]
 simp only[Nat.zero_mul,Nat.add_zero,Fl.rnd_zero,Fl.word_eq,Nat.sub_zero,if_true,Option.getD_some]
 unfold Fl.neg
 by_cases n1:2^63<=a<;>by_cases n2:2^63<=b
 ·rw[if_pos (by simp[n1,n2]),if_pos (by simp[n1]),if_pos (by omega)]
 ·rw[if_neg (by simp[n1,n2]),if_neg (by omega)]
 ·rw[if_neg (by simp[n1,n2]),if_neg (by omega)]
 ·rw[if_pos (by simp[n1,n2]),if_neg (by simp[n1]),if_neg (by omega)]
theorem Vy(h3:Fl.mant b=0)(h4:Fl.mant a≠0):BI a b=a:=by
 obtain⟨e3,e4⟩:=Ja h2 h3
 have hp:=Fl.plc_ge a
 obtain⟨far,hf⟩:∃far:Nat,Fl.plc a=Fl.plc b+far:=⟨(Fl.plc a-Fl.plc b).toNat,by omega⟩
 unfold BI
 rw[Fl.add_fin ha hb h1 h2 far hf (by omega),h3,Nat.add_zero,Nat.sub_zero]
 have hz:¬Fl.mant a*2^far=0:=Nat.mul_ne_zero h4 (by have:0<2^far:=Nat.pow_pos (by omega);omega)
 rw[if_neg hz,Fl.rnd_scale,<-hf,Fl.rnd_back h1,Fl.word_back ha]
 simp
theorem N7{far:Nat}(hs:¬CJ a b)(hf:Fl.plc a=Fl.plc b+far)(hsg:Fl.neg a=Fl.neg b):BI a b=Ieee.double.word (Fl.neg a) (Fl.rnd (Fl.mant a*2^far+Fl.mant b) (Fl.plc b))/\Fl.mant b<=Fl.mant a*2^far:=by
 have hm:Fl.mant b<=Fl.mant a*2^far:=by
  unfold CJ at hs;rcases Nat.eq_zero_or_pos far with h|h
  ·subst h;omega
  ·have q1:2^52<=Fl.mant a:=Fl.mant_ge (by have:=Fl.plc_ge b;omega)
   have q2:=Fl.mant_lt b;have q3:Fl.mant a*2^1<=Fl.mant a*2^far:=Nat.mul_le_mul_left _ (Nat.pow_le_pow_right (by omega) h)
   omega
 unfold BI
 rw[Fl.add_fin ha hb h1 h2 far hf hm,if_pos hsg]
 exact⟨rfl,hm⟩
theorem LL{far:Nat}(hs:¬CJ a b)(hf:Fl.plc a=Fl.plc b+far)(hsg:¬Fl.neg a=Fl.neg b):BI a b=(if Fl.mant a*2^far-Fl.mant b=0 then 0 else Ieee.double.word (Fl.neg a) (Fl.rnd (Fl.mant a*2^far-Fl.mant b) (Fl.plc b)))/\Fl.mant b<=Fl.mant a*2^far:=by
 have hm:Fl.mant b<=Fl.mant a*2^far:=by
  unfold CJ at hs;rcases Nat.eq_zero_or_pos far with h|h
  ·subst h;omega
  ·have q1:2^52<=Fl.mant a:=Fl.mant_ge (by have:=Fl.plc_ge b;omega)
   have q2:=Fl.mant_lt b;have q3:Fl.mant a*2^1<=Fl.mant a*2^far:=Nat.mul_le_mul_left _ (Nat.pow_le_pow_right (by omega) h)
   omega
 unfold BI
 rw[Fl.add_fin ha hb h1 h2 far hf hm,if_neg hsg]
 exact⟨rfl,hm⟩
theorem Wo{far:Nat}(hs:¬CJ a b)(hf:Fl.plc a=Fl.plc b+far)(h60:60<far)(h0:Fl.mant b≠0)(hsg:Fl.neg a=Fl.neg b) :
  BI a b=Ieee.double.word (Fl.neg a) (Fl.rnd (2*(Fl.mant a*2^60)+1) (Fl.plc a-60-1))/\2^52<=Fl.mant a:=by
 have q1:2^52<=Fl.mant a:=Fl.mant_ge (by have:=Fl.plc_ge b;omega)
 rw[(N7 ha hb h1 h2 hs hf hsg).1,Fl.far_add _ _ far _ q1 h0 (Fl.mant_lt b) h60]
 exact⟨by congr 2;omega,q1⟩
theorem Vw{far:Nat}(hs:¬CJ a b)(hf:Fl.plc a=Fl.plc b+far)(h60:60<far)(h0:Fl.mant b≠0)(hsg:¬Fl.neg a=Fl.neg b) :
  BI a b=Ieee.double.word (Fl.neg a) (Fl.rnd (2*(Fl.mant a*2^60-1)+1) (Fl.plc a-60-1))/\2^52<=Fl.mant a:=by
 have q1:2^52<=Fl.mant a:=Fl.mant_ge (by have:=Fl.plc_ge b;omega)
 have q2:=Fl.mant_lt b
 have q3:Fl.mant a*2^60<=Fl.mant a*2^far:=Nat.mul_le_mul_left _ (Nat.pow_le_pow_right (by omega) (by omega))
 rw[(LL ha hb h1 h2 hs hf hsg).1,if_neg (by omega),Fl.far_sub _ _ far _ q1 h0 q2 h60]
 exact⟨by congr 2;omega,q1⟩
end
end
theorem JV{a b:Bool}(h:(a==b)=false):¬a=b:=by simpa using h
theorem GC(a az:Int)(h1:rU a)(hz:az=a%9223372036854775808)(h:EH):Tri Tryz.prog gs 235 [.lit (.int .u64 a)] h fun v h'=>IsP (9218868437227405312<az) v/\h'=h:=by
 have:=U9 a h1 h
 rwa [show (Fl.infW<a.toNat%2^63)=(9218868437227405312<az)from propext (by unfold Fl.infW;unfold rU at h1;omega)]at this
theorem Gi(a az:Int)(h1:rU a)(hz:az=a%9223372036854775808)(h:EH):Tri Tryz.prog gs 236 [.lit (.int .u64 a)] h fun v h'=>IsP (az=9218868437227405312) v/\h'=h:=by
 have:=UY a h1 h
 rwa [show (a.toNat%2^63=Fl.infW)=(az=9218868437227405312)from propext (by unfold Fl.infW;unfold rU at h1;omega)]at this
theorem LT(ah al K:Int)(k:Nat)(hK:K=k)(hk:k<=64)(h1:rU ah)(h2:rU al)(hs:(ah*18446744073709551616+al)*((2^k:Nat):Int)<340282366920938463463374607431768211456)(h:EH) :
  Tri Tryz.prog gs 238 [.agg [.lit (.int .u64 ah),.lit (.int .u64 al)],.lit (.int .i64 K)] h fun v h'=>W2 ((ah*18446744073709551616+al)*((2^k:Nat):Int)) v/\h'=h:=by
 subst hK;exact Zs ah al k hk h1 h2 hs h
theorem HG(s mo:Bool)(hi0 lo0 xx x:Int)(N:Nat)(hxx:xx=x)(hh:rU hi0)(hlo:rU lo0)(hN:hi0*18446744073709551616+lo0=N)(hN0:N≠0)(hmo:mo=true->2^60<=N)(hx: -4000<=x/\x<=4000)(h:EH) :
  Tri Tryz.prog gs 240 [.sb s,.agg [.lit (.int .u64 hi0),.lit (.int .u64 lo0)],.lit (.int .i64 xx),.lit (.bool mo)] h fun v h'=>
   IsN .u64 (fun z=>z=((Ieee.double.word s (Fl.rnd (if mo then 2*N+1 else N) (x-(if mo then 1 else 0))):Nat):Int)) v/\h'=h:=by
 subst hxx
 exact tM (Tri.args (NC s mo hi0 lo0 xx N hh hlo hN hN0 hmo hx h) (UpL.cons (Up.refl _) (UpL.cons (Up.refl _) (UpL.cons (Up.refl _) (UpL.cons (Up.sb _) UpL.nil))))) fun v h' hx=>⟨⟨_,hx.1,rfl⟩,hx.2⟩
theorem KH (a b : Int) (ha : rU a) (hb : rU b) (hrec : CJ a.toNat b.toNat → ∀ h, Tri Tryz.prog gs 169 [.lit (.int .u64 b), .lit (.int .u64 a)] h fun v h' => v = .lit (.int .u64 (BI a.toNat b.toNat : Nat)) ∧ h' = h) (h : EH) :
    Tri Tryz.prog gs 169 [.lit (.int .u64 a), .lit (.int .u64 b)] h fun v h' => v = .lit (.int .u64 (BI a.toNat b.toNat : Nat)) ∧ h' = h := by
  obtain ⟨az, haz⟩ : ∃ q : Int, q = a % 9223372036854775808 := ⟨_, rfl⟩
  obtain ⟨bz, hbz⟩ : ∃ q : Int, q = b % 9223372036854775808 := ⟨_, rfl⟩
  have n1 := GC a az ha haz
  have n2 := GC b bz hb hbz
  have i1 := Gi a az ha haz
  have i2 := Gi b bz hb hbz
  have g1 := Rt a ha
  have g2 := Rt b hb
  have p1 := GA a ha
  have p2 := GA b hb
  have ha2 := ha
  have hb2 := hb
  unfold rU at ha2 hb2
  obtain ⟨a', ha'⟩ : ∃ q, q = a.toNat := ⟨_, rfl⟩
  obtain ⟨b', hb'⟩ : ∃ q, q = b.toNat := ⟨_, rfl⟩
  rw [← ha', ← hb'] at hrec
  rw [← ha', ← hb']
  rw [← ha'] at g1 p1
  rw [← hb'] at g2 p2
  have qa : a' < 2 ^ 64 := by omega
  have qb : b' < 2 ^ 64 := by omega
  obtain ⟨S, hS⟩ : ∃ q, q = BI a' b' := ⟨_, rfl⟩
  obtain ⟨X, hX⟩ : ∃ q : Int, q = S := ⟨_, rfl⟩
  rw [← hS, ← hX] at hrec ⊢
  have hinf : (Fl.infW : Int) = 9218868437227405312 := rfl
  have hnan : (Fl.nanW : Int) = 9221120237041090560 := rfl
  have f1 : Hid (9218868437227405312 < az → X = 9221120237041090560) := fun e => by rw [hX, hS, Vn (by omega)]; rfl
  have f2 : Hid (9218868437227405312 < bz → X = 9221120237041090560) := fun e => by rw [hX, hS, Zr (by omega)]; rfl
  have f3 : Hid (az = 9218868437227405312 → bz = 9218868437227405312 → a ≠ b → X = 9221120237041090560) := fun e e2 e3 => by rw [hX, hS, Sl qa qb (by omega) (by omega) (by omega)]; rfl
  have f4 : Hid (az = 9218868437227405312 → ¬ 9218868437227405312 < bz → (bz = 9218868437227405312 → a = b) → X = a) := fun e e2 e3 => by rw [hX, hS, Lo qa qb (by omega) (by omega) (by omega)]; omega
  have f5 : Hid (bz = 9218868437227405312 → ¬ 9218868437227405312 < az → ¬ az = 9218868437227405312 → X = b) := fun e e2 e3 => by rw [hX, hS, T4 qa qb (by omega) (by omega) (by omega)]; omega
  have hfin : Hid (¬ 9218868437227405312 < az → ¬ 9218868437227405312 < bz → ¬ az = 9218868437227405312 → ¬ bz = 9218868437227405312 → a' % 2 ^ 63 < Fl.infW ∧ b' % 2 ^ 63 < Fl.infW) := fun e1 e2 e3 e4 => by omega
  have hMl := Fl.mant_lt a'
  have hKl := Fl.mant_lt b'
  have hx1 := Fl.plc_ge a'
  have hy1 := Fl.plc_ge b'
  have hx2 : Fl.plc a' ≤ 972 := by unfold Fl.plc; split <;> omega
  have hy2 : Fl.plc b' ≤ 972 := by unfold Fl.plc; split <;> omega
  obtain ⟨m, hm⟩ : ∃ q, q = Fl.mant a' := ⟨_, rfl⟩
  obtain ⟨k, hk⟩ : ∃ q, q = Fl.mant b' := ⟨_, rfl⟩
  obtain ⟨x, hx⟩ : ∃ q, q = Fl.plc a' := ⟨_, rfl⟩
  obtain ⟨y, hy⟩ : ∃ q, q = Fl.plc b' := ⟨_, rfl⟩
  obtain ⟨M, hM⟩ : ∃ q : Int, q = m := ⟨_, rfl⟩
  obtain ⟨K, hK⟩ : ∃ q : Int, q = k := ⟨_, rfl⟩
  obtain ⟨sa, hsa⟩ : ∃ q, q = Fl.neg a' := ⟨_, rfl⟩
  obtain ⟨sb, hsb⟩ : ∃ q, q = Fl.neg b' := ⟨_, rfl⟩
  obtain ⟨far, hfar⟩ : ∃ q : Nat, q = (x - y).toNat := ⟨_, rfl⟩
  have w0 : Hid (a' % 2 ^ 63 < Fl.infW ∧ b' % 2 ^ 63 < Fl.infW → M = 0 → K = 0 → X = if a = 9223372036854775808 ∧ b = 9223372036854775808 then 9223372036854775808 else 0) := fun e e1 e2 => by
    rw [hX, hS, Zi qa qb e.1 e.2 (by omega) (by omega)]
    by_cases c : a = 9223372036854775808 ∧ b = 9223372036854775808
    · rw [if_pos (by omega), if_pos c]; rfl
    · rw [if_neg (by omega), if_neg c]; rfl
  have w1 : Hid (a' % 2 ^ 63 < Fl.infW ∧ b' % 2 ^ 63 < Fl.infW → ¬ M = 0 → K = 0 → X = a) := fun e e1 e2 => by
    rw [hX, hS, Vy qa qb e.1 e.2 (by omega) (by omega)]; omega
  have w2 : Hid (a' % 2 ^ 63 < Fl.infW ∧ b' % 2 ^ 63 < Fl.infW → ¬ (x < y ∨ x = y ∧ M < K) → sa = sb → S = Ieee.double.word sa (Fl.rnd (m * 2 ^ far + k) y) ∧ k ≤ m * 2 ^ far) := fun e e1 e2 => by
    rw [hS, hm, hk, hy, hsa]
    exact N7 qa qb e.1 e.2 (by unfold CJ; omega) (by omega) (by rw [← hsa, ← hsb]; exact e2)
  have w3 : Hid (a' % 2 ^ 63 < Fl.infW ∧ b' % 2 ^ 63 < Fl.infW → ¬ (x < y ∨ x = y ∧ M < K) → ¬ sa = sb → S = (if m * 2 ^ far - k = 0 then 0 else Ieee.double.word sa (Fl.rnd (m * 2 ^ far - k) y)) ∧ k ≤ m * 2 ^ far) := fun e e1 e2 => by
    rw [hS, hm, hk, hy, hsa]
    exact LL qa qb e.1 e.2 (by unfold CJ; omega) (by omega) (by rw [← hsa, ← hsb]; exact e2)
  have w4 : Hid (a' % 2 ^ 63 < Fl.infW ∧ b' % 2 ^ 63 < Fl.infW → ¬ (x < y ∨ x = y ∧ M < K) → 60 < far → K ≠ 0 → sa = sb → S = Ieee.double.word sa (Fl.rnd (2 * (m * 2 ^ 60) + 1) (x - 60 - 1)) ∧ 2 ^ 52 ≤ m) := fun e e1 e3 e4 e2 => by
    rw [hS, hm, hx, hsa]
    exact Wo qa qb e.1 e.2 (far := far) (by unfold CJ; omega) (by omega) e3 (by omega) (by rw [← hsa, ← hsb]; exact e2)
  have w5 : Hid (a' % 2 ^ 63 < Fl.infW ∧ b' % 2 ^ 63 < Fl.infW → ¬ (x < y ∨ x = y ∧ M < K) → 60 < far → K ≠ 0 → ¬ sa = sb → S = Ieee.double.word sa (Fl.rnd (2 * (m * 2 ^ 60 - 1) + 1) (x - 60 - 1)) ∧ 2 ^ 52 ≤ m) := fun e e1 e3 e4 e2 => by
    rw [hS, hm, hx, hsa]
    exact Vw qa qb e.1 e.2 (far := far) (by unfold CJ; omega) (by omega) e3 (by omega) (by rw [← hsa, ← hsb]; exact e2)
  have hrec2 : Hid (x < y ∨ x = y ∧ M < K → ∀ h, Tri Tryz.prog gs 169 [.lit (.int .u64 b), .lit (.int .u64 a)] h fun v h' => v = .lit (.int .u64 X) ∧ h' = h) := fun e => hrec (by unfold CJ; omega)
  rw [← hm, ← hx, ← hM] at p1
  rw [← hk, ← hy, ← hK] at p2
  rw [← hsa] at g1
  rw [← hsb] at g2
  rw [← hm] at hMl
  rw [← hk] at hKl
  rw [← hx] at hx1 hx2
  rw [← hy] at hy1 hy2
  obtain ⟨P, hP⟩ : ∃ q, q = m * 2 ^ far := ⟨_, rfl⟩
  have hPb : Hid (far ≤ 60 → P < 2 ^ 113) := fun e => by
    have e1 : m * 2 ^ far ≤ m * 2 ^ 60 := Nat.mul_le_mul_left _ (Nat.pow_le_pow_right (by omega) e)
    omega
  have hPi : Hid ((0 * 18446744073709551616 + M) * ((2 ^ far : Nat) : Int) = P) := by
    show (0 * 18446744073709551616 + M) * ((2 ^ far : Nat) : Int) = P
    rw [hP, Int.zero_mul, Int.zero_add, hM, ← Int.natCast_mul]
  rw [← hP] at w2 w3
  have hMr : rU M := by unfold rU; omega
  have hKr : rU K := by unfold rU; omega
  have h00 : rU 0 := by unfold rU; omega
  have h11 : rU 1 := by unfold rU; omega
  clear hrec hS hm hk hx hy hsa hsb hinf hnan qa qb hP
  refine Tri.valA rfl rfl (Bk F169_ok fun I0 ρ0 w0' Q hρ hQ => ?_) h
  obtain ⟨A, hA⟩ : ∃ A, A = stdA := ⟨_, rfl⟩
  with_reducible refine Bf hA hd hQ 200 ?hk ?_
  case hk => trivial
  conv => arg 9; cbv
  try simp only [OK]
  repeat' first | ((with_reducible refine ⟨fun hbr => ?_, fun hbr => ?_⟩) <;> (try simp (disch := omega) only [hA, Ba, reduceCtorEq] at hbr) <;> (try (with_reducible exfalso; omega))) | ((with_reducible refine Be hA hd hQ 200 ?hk ?_); (case hk => trivial); (conv => arg 9; cbv); (try simp only [OK])) | ((with_reducible refine cO ?hg ?_); (case hg => with_reducible exact Bi F235_ok); (refine tM (n1 _) fun v hh hx => ?_); (obtain ⟨⟨b, hv, hb⟩, he⟩ := hx; subst hv; subst he; cases b <;> simp (disch := omega) only [bF, true_iff, false_iff, eq_self] at hb) <;> (try (with_reducible exfalso; omega))) | ((with_reducible refine cO ?hg ?_); (case hg => with_reducible exact Bi F235_ok); (refine tM (n2 _) fun v hh hx => ?_); (obtain ⟨⟨b, hv, hb⟩, he⟩ := hx; subst hv; subst he; cases b <;> simp (disch := omega) only [bF, true_iff, false_iff, eq_self] at hb) <;> (try (with_reducible exfalso; omega))) | ((with_reducible refine cO ?hg ?_); (case hg => with_reducible exact Bi F236_ok); (refine tM (i1 _) fun v hh hx => ?_); (obtain ⟨⟨b, hv, hb⟩, he⟩ := hx; subst hv; subst he; cases b <;> simp (disch := omega) only [bF, true_iff, false_iff, eq_self] at hb) <;> (try (with_reducible exfalso; omega))) | ((with_reducible refine cO ?hg ?_); (case hg => with_reducible exact Bi F236_ok); (refine tM (i2 _) fun v hh hx => ?_); (obtain ⟨⟨b, hv, hb⟩, he⟩ := hx; subst hv; subst he; cases b <;> simp (disch := omega) only [bF, true_iff, false_iff, eq_self] at hb) <;> (try (with_reducible exfalso; omega))) | ((with_reducible refine cO ?hg ?_); (case hg => with_reducible exact Bi F237_ok); refine tM (p1 _) ?_; rintro _ _ ⟨rfl, rfl⟩) | ((with_reducible refine cO ?hg ?_); (case hg => with_reducible exact Bi F237_ok); refine tM (p2 _) ?_; rintro _ _ ⟨rfl, rfl⟩) | ((with_reducible refine cO ?hg ?_); (case hg => with_reducible exact Bi F169_ok); refine tM (hrec2.out (by omega) _) ?_; rintro _ _ ⟨rfl, rfl⟩)
  all_goals try first
    | exact fI_ rfl rfl
    | exact fI_ rfl (BO (f1.out (by omega)).symm)
    | exact fI_ rfl (BO (f2.out (by omega)).symm)
    | exact fI_ rfl (BO (f3.out (by omega) (by omega) (by omega)).symm)
    | exact fI_ rfl (BO (f4.out (by omega) (by omega) (by omega)).symm)
    | exact fI_ rfl (BO (f5.out (by omega) (by omega) (by omega)).symm)
    | (have hf := hfin.out (by omega) (by omega) (by omega) (by omega)
       refine fI_ rfl (BO ?_)
       first
         | exact (w1.out hf (by omega) (by omega)).symm
         | (rw [w0.out hf (by omega) (by omega), if_pos (by omega)])
         | (rw [w0.out hf (by omega) (by omega), if_neg (by omega)]))
  all_goals
    have hf := hfin.out (by omega) (by omega) (by omega) (by omega)
    have hns : ¬ (x < y ∨ x = y ∧ M < K) := by omega
    have w2' := Hid.mk (w2.out hf hns)
    have w3' := Hid.mk (w3.out hf hns)
    have w4' := Hid.mk (w4.out hf hns)
    have w5' := Hid.mk (w5.out hf hns)
    clear f1 f2 f3 f4 f5 hfin w0 w1 w2 w3 w4 w5 hrec2
    have hfx : x - y = far := by omega
    first
      | (have h60 : 60 < far := by omega
         have hm52 : 2 ^ 52 ≤ m := by
           by_cases e : sa = sb
           · exact (w4'.out h60 (by omega) e).2
           · exact (w5'.out h60 (by omega) e).2
         refine cO (Bi F238_ok) (tM (LT 0 M 60 60 rfl (by omega) h00 hMr (by omega) _) fun v hh hx => ?_)
         obtain ⟨⟨x2, y2, hv, hx2, hy2, hxy2⟩, hh'⟩ := hx
         subst hv; subst hh')
      | (have h60 : far ≤ 60 := by omega
         have hPb2 := hPb.out h60
         have hkP : k ≤ P := by
           by_cases e : sa = sb
           · exact (w2'.out e).2
           · exact (w3'.out e).2
         refine cO (Bi F238_ok) (tM (LT 0 M _ far (by simp (disch := omega) only [hA, Ba] <;> omega) (by omega) h00 hMr (by rw [hPi.out]; omega) _) fun v hh hx => ?_)
         rw [hPi.out] at hx
         obtain ⟨⟨x2, y2, hv, hx2, hy2, hxy2⟩, hh'⟩ := hx
         subst hv; subst hh')
    clear hPb hPi
    with_reducible refine Be hA hd hQ 1 ?hk ?_
    case hk => trivial
    conv => arg 9; cbv
    try simp only [OK]
    repeat' first | (with_reducible refine And.intro trivial ?_) | ((with_reducible refine ⟨fun hbr => ?_, fun hbr => ?_⟩) <;> (try simp (disch := omega) only [hA, Ba, beq_iff_eq] at hbr) <;> (try (with_reducible exfalso; omega))) | ((with_reducible refine Be hA hd hQ 200 ?hk ?_); (case hk => trivial); (conv => arg 9; cbv); (try simp only [OK])) | ((with_reducible refine cO ?hg ?_); (case hg => with_reducible exact Bi F239_ok); refine tM (g1 _) ?_; rintro _ _ ⟨rfl, rfl⟩) | ((with_reducible refine cO ?hg ?_); (case hg => with_reducible exact Bi F239_ok); refine tM (g2 _) ?_; rintro _ _ ⟨rfl, rfl⟩) | ((with_reducible refine cO ?hg ?_); (case hg => with_reducible exact Bi F241_ok); (refine tM (JQ _ _ _ _ (by assumption) (by assumption) (by assumption) (by assumption) (by omega) _) fun v hh hx => ?_); (obtain ⟨⟨x3, y3, hv, hx3, hy3, hxy3⟩, hh'⟩ := hx; subst hv; subst hh')) | ((with_reducible refine cO ?hg ?_); (case hg => with_reducible exact Bi F242_ok); (refine tM (Sk _ _ _ _ (by assumption) (by assumption) (by assumption) (by assumption) (by omega) _) fun v hh hx => ?_); (obtain ⟨⟨x3, y3, hv, hx3, hy3, hxy3⟩, hh'⟩ := hx; subst hv; subst hh'))
  all_goals first
    | (refine fI_ rfl (BO ?_)
       rw [hX, (w3'.out (JV (by assumption))).1, if_pos (by omega)]
       rfl)
    | (have q3 := hx3
       have q4 := hy3
       unfold rU at q3 q4
       refine cO (Bi F240_ok) (tM (HG sa true x3 y3 _ (x - 60) (m * 2 ^ 60) (by first | rfl | (simp (disch := omega) only [hA, Ba] <;> omega)) hx3 hy3 (by omega) (by omega) (fun e => by first | omega | cases e) (by omega) _) fun v hh hx => ?_)
       obtain ⟨⟨z, hv, hz⟩, hh'⟩ := hx
       subst hv; subst hh'
       with_reducible refine Be hA hd hQ 1 ?hk ?_
       case hk => trivial
       conv => arg 9; cbv
       try simp only [OK]
       repeat' first | ((with_reducible refine Be hA hd hQ 200 ?hk ?_); (case hk => trivial); (conv => arg 9; cbv); (try simp only [OK]))
       refine fI_ rfl (BO ?_)
       rw [hz, hX, (w4'.out (by omega) (by omega) (by assumption)).1]
       simp)
    | (have q3 := hx3
       have q4 := hy3
       unfold rU at q3 q4
       refine cO (Bi F240_ok) (tM (HG sa true x3 y3 _ (x - 60) (m * 2 ^ 60 - 1) (by first | rfl | (simp (disch := omega) only [hA, Ba] <;> omega)) hx3 hy3 (by omega) (by omega) (fun e => by first | omega | cases e) (by omega) _) fun v hh hx => ?_)
       obtain ⟨⟨z, hv, hz⟩, hh'⟩ := hx
       subst hv; subst hh'
       with_reducible refine Be hA hd hQ 1 ?hk ?_
       case hk => trivial
       conv => arg 9; cbv
       try simp only [OK]
       repeat' first | ((with_reducible refine Be hA hd hQ 200 ?hk ?_); (case hk => trivial); (conv => arg 9; cbv); (try simp only [OK]))
       refine fI_ rfl (BO ?_)
       rw [hz, hX, (w5'.out (by omega) (by omega) (JV (by assumption))).1]
       simp)
    | (have q3 := hx3
       have q4 := hy3
       unfold rU at q3 q4
       refine cO (Bi F240_ok) (tM (HG sa false x3 y3 _ (y) (P + k) (by first | rfl | (simp (disch := omega) only [hA, OK, Ba, Int.reduceToNat, Cq, CE, BZ, CQ, Gj, C0, Cd, beq_iff_eq] <;> omega)) hx3 hy3 (by omega) (by omega) (fun e => by first | omega | cases e) (by omega) _) fun v hh hx => ?_)
       obtain ⟨⟨z, hv, hz⟩, hh'⟩ := hx
       subst hv; subst hh'
       with_reducible refine Be hA hd hQ 1 ?hk ?_
       case hk => trivial
       conv => arg 9; cbv
       try simp only [OK]
       repeat' first | ((with_reducible refine Be hA hd hQ 200 ?hk ?_); (case hk => trivial); (conv => arg 9; cbv); (try simp only [OK]))
       refine fI_ rfl (BO ?_)
       rw [hz, hX, (w2'.out (by assumption)).1]
       simp)
    | (have q3 := hx3
       have q4 := hy3
       unfold rU at q3 q4
       have z1 : ((P - k : Nat) : Int) = x3 * 18446744073709551616 + y3 := by omega
       have z2 : P - k ≠ 0 := by omega
       refine cO (Bi F240_ok) (tM (HG sa false x3 y3 _ y (P - k) (by first | rfl | (simp (disch := omega) only [hA, OK, Ba, Int.reduceToNat, Cq, CE, BZ, CQ, Gj, C0, Cd, beq_iff_eq] <;> omega)) hx3 hy3 (by omega) (by omega) (fun e => by first | omega | cases e) (by omega) _) fun v hh hx => ?_)
       have eS := (w3'.out (JV (by assumption))).1
       rw [if_neg z2] at eS
       obtain ⟨⟨z, hv, hz⟩, hh'⟩ := hx
       subst hv; subst hh'
       with_reducible refine Be hA hd hQ 1 ?hk ?_
       case hk => trivial
       conv => arg 9; cbv
       try simp only [OK]
       repeat' first | ((with_reducible refine Be hA hd hQ 200 ?hk ?_); (case hk => trivial); (conv => arg 9; cbv); (try simp only [OK]))
       refine fI_ rfl (BO ?_)
       rw [hz, hX, eS]
       simp)
theorem P8(a b:Int)(ha:rU a)(hb:rU b)(h:EH) :
  Tri Tryz.prog gs 169 [.lit (.int .u64 a),.lit (.int .u64 b)] h fun v h'=>v = .lit (.int .u64 (BI a.toNat b.toNat:Nat))/\h'=h:=by
 by_cases hs:CJ a.toNat b.toNat
 ·refine KH a b ha hb (fun _ h=>?_) h
  rw[IzO];refine KH b a hb ha (fun hs2=>?_) h
  unfold CJ at hs hs2;omega
 ·exact KH a b ha hb (fun hs2=>absurd hs2 hs) h
end Go.Proofs.YtkjhfefbklcciaaGreatDoor.Stats
