/- YtmckingimnhoaaaGreatDoorMa: the texts Sca, Scb, brought together. No conditions. -/
import Derived.Test.YtmckingimnhoaaaGreatDoorX22
import Derived.Test.YtmckingimnhoaaaGreatDoorProg
import Derived.KernelRfl
set_option linter.unusedVariables false
set_option linter.unusedSimpArgs false
namespace Go.Proofs.YtmckingimnhoaaaGreatDoor.Stats
open Go Go.Proofs.YtmckingimnhoaaaGreatDoor Go.Proofs.YtmckingimnhoaaaGreatDoor.Em
def gs : List (List EV) := [[], [.lit (.string ⟨#[]⟩), .lit (.int .i64 0), .lit (.int .i64 0), .lit (.bool false), .lit (.string ⟨#[110, 117, 108, 108]⟩), .lit (.int .i64 0), .lit (.int .i64 0), .lit (.bool false), .lit (.string ⟨#[98, 111, 111, 108]⟩), .lit (.int .i64 0), .lit (.int .i64 2), .lit (.bool false), .lit (.string ⟨#[105, 110, 116, 56]⟩), .lit (.int .i64 1), .lit (.int .i64 2), .lit (.bool true), .lit (.string ⟨#[105, 110, 116, 49, 54]⟩), .lit (.int .i64 2), .lit (.int .i64 2), .lit (.bool true), .lit (.string ⟨#[105, 110, 116, 51, 50]⟩), .lit (.int .i64 4), .lit (.int .i64 2), .lit (.bool true), .lit (.string ⟨#[105, 110, 116, 54, 52]⟩), .lit (.int .i64 8), .lit (.int .i64 2), .lit (.bool true), .lit (.string ⟨#[117, 105, 110, 116, 56]⟩), .lit (.int .i64 1), .lit (.int .i64 2), .lit (.bool true), .lit (.string ⟨#[117, 105, 110, 116, 49, 54]⟩), .lit (.int .i64 2), .lit (.int .i64 2), .lit (.bool true), .lit (.string ⟨#[117, 105, 110, 116, 51, 50]⟩), .lit (.int .i64 4), .lit (.int .i64 2), .lit (.bool true), .lit (.string ⟨#[117, 105, 110, 116, 54, 52]⟩), .lit (.int .i64 8), .lit (.int .i64 2), .lit (.bool true), .lit (.string ⟨#[102, 108, 111, 97, 116, 54, 52]⟩), .lit (.int .i64 8), .lit (.int .i64 2), .lit (.bool false), .lit (.string ⟨#[116, 101, 120, 116]⟩), .lit (.int .i64 0), .lit (.int .i64 3), .lit (.bool false), .lit (.string ⟨#[98, 121, 116, 101, 115]⟩), .lit (.int .i64 0), .lit (.int .i64 3), .lit (.bool false), .lit (.string ⟨#[102, 105, 120, 101, 100]⟩), .lit (.int .i64 0), .lit (.int .i64 2), .lit (.bool false), .lit (.string ⟨#[108, 105, 115, 116]⟩), .lit (.int .i64 0), .lit (.int .i64 2), .lit (.bool false), .lit (.string ⟨#[115, 112, 97, 110]⟩), .lit (.int .i64 0), .lit (.int .i64 1), .lit (.bool false), .lit (.string ⟨#[115, 116, 114, 117, 99, 116]⟩), .lit (.int .i64 0), .lit (.int .i64 1), .lit (.bool false), .lit (.string ⟨#[99, 104, 111, 105, 99, 101]⟩), .lit (.int .i64 0), .lit (.int .i64 2), .lit (.bool false), .lit (.string ⟨#[100, 105, 99, 116]⟩), .lit (.int .i64 0), .lit (.int .i64 2), .lit (.bool false), .lit (.string ⟨#[114, 117, 110, 115]⟩), .lit (.int .i64 0), .lit (.int .i64 0), .lit (.bool false)], [], [], [.lit (.int .u8 128), .lit (.int .u8 191), .lit (.int .u8 160), .lit (.int .u8 191), .lit (.int .u8 128), .lit (.int .u8 159), .lit (.int .u8 144), .lit (.int .u8 191), .lit (.int .u8 128), .lit (.int .u8 143), .lit (.int .u8 0), .lit (.int .u8 0), .lit (.int .u8 0), .lit (.int .u8 0), .lit (.int .u8 0), .lit (.int .u8 0), .lit (.int .u8 0), .lit (.int .u8 0), .lit (.int .u8 0), .lit (.int .u8 0), .lit (.int .u8 0), .lit (.int .u8 0), .lit (.int .u8 0), .lit (.int .u8 0), .lit (.int .u8 0), .lit (.int .u8 0), .lit (.int .u8 0), .lit (.int .u8 0), .lit (.int .u8 0), .lit (.int .u8 0), .lit (.int .u8 0), .lit (.int .u8 0)]]
abbrev o (n : Nat) (i : EI) : EOp := ⟨some n, i, none⟩
abbrev q (n : Nat) : Operand := .tmp n
abbrev oM (n m : Nat) : EOp := ⟨some n, .mov (.tmp m), none⟩
abbrev oA (n k m : Nat) : EOp := ⟨some n, .fieldAddr k (.tmp m), none⟩
abbrev oL (n m : Nat) : EOp := ⟨some n, .load false 1 (.tmp m), none⟩
abbrev oS (k n m : Nat) : EOp := ⟨none, .store k (.tmp n) (.tmp m), none⟩
abbrev og (n : Nat) (i : EI) (g : Nat) (b : Bool) : EOp := ⟨some n, i, some (g, b)⟩
abbrev tI : Option TypeDesc := some (.int .i64)
abbrev kI (n : Int) : Operand := .const (.int .i64 n)
abbrev kT : Operand := .const (.bool true)
abbrev kF : Operand := .const (.bool false)
abbrev sQ (l : List EOp) (c : EC) : EC := .seq (.ops l) c
abbrev zaZ : List Value := [(.string ⟨#[]⟩), (.bool false), (.int .i64 0), (.int .i64 0), (.int .i64 0), (.int .i64 0), (.slice none 0 0)]
abbrev zbZ : List Value := [(.string ⟨#[]⟩), (.bool false), (.int .i64 0), (.int .i64 0), (.int .i64 0), (.int .i64 0), (.slice none 0 0), (.string ⟨#[]⟩), (.bool false), (.int .i64 0), (.int .i64 0), (.int .i64 0), (.int .i64 0), (.slice none 0 0)]
abbrev zcZ : List Value := [(.bool false), (.int .i64 0), (.string ⟨#[]⟩), (.slice none 0 0)]
abbrev zdZ : List Value := [(.slice none 0 0), (.slice none 0 0), (.string ⟨#[]⟩), (.bool false), (.int .i64 0), (.int .i64 0), (.int .i64 0), (.int .i64 0), (.slice none 0 0), (.bool false)]
abbrev zeZ : List Value := [(.slice none 0 0), (.string ⟨#[]⟩), (.bool false), (.int .i64 0), (.int .i64 0), (.int .i64 0), (.int .i64 0), (.slice none 0 0), (.slice none 0 0), (.bool false)]
abbrev zfZ : List Value := [(.string ⟨#[]⟩), (.bool false), (.int .i64 0), (.int .i64 0), (.int .i64 0), (.int .i64 0), (.slice none 0 0), (.int .i64 0), (.int .i64 0), (.slice none 0 0), (.int .i64 0), (.bool false), (.int .i64 0), (.string ⟨#[]⟩), (.slice none 0 0), (.bool false)]
abbrev zgZ : List Value := [(.string ⟨#[]⟩), (.bool false), (.int .i64 0), (.int .i64 0), (.int .i64 0), (.int .i64 0), (.slice none 0 0), (.int .i64 0), (.int .i64 0), (.slice none 0 0), (.int .i64 0), (.bool false), (.int .i64 0), (.string ⟨#[]⟩), (.slice none 0 0), (.bool false), (.slice none 0 0), (.slice none 0 0)]
abbrev zhZ : List Value := [(.string ⟨#[]⟩), (.bool false), (.int .i64 0), (.int .i64 0), (.int .i64 0), (.int .i64 0), (.slice none 0 0), (.int .i64 0), (.int .i64 0), (.slice none 0 0), (.int .i64 0), (.bool false), (.int .i64 0), (.string ⟨#[]⟩), (.slice none 0 0), (.bool false), (.slice none 0 0)]
abbrev ziZ : List Value := [(.string ⟨#[]⟩), (.bool false), (.int .i64 0), (.int .i64 0), (.int .i64 0), (.int .i64 0), (.slice none 0 0), (.int .i64 0), (.int .i64 0), (.slice none 0 0), (.int .i64 0), (.bool false), (.int .i64 0), (.string ⟨#[]⟩), (.slice none 0 0), (.bool false), (.slice none 0 0), (.slice none 0 0), (.slice none 0 0)]
abbrev Q9 : Operand := .tmp 9
abbrev Q15 : Operand := .tmp 15
abbrev Q21 : Operand := .tmp 21
abbrev Q22 : Operand := .tmp 22
abbrev Q5 : Operand := .tmp 5
abbrev Q7 : Operand := .tmp 7
abbrev Q24 : Operand := .tmp 24
abbrev Q27 : Operand := .tmp 27
abbrev Q29 : Operand := .tmp 29
abbrev Q30 : Operand := .tmp 30
abbrev Q10 : Operand := .tmp 10
abbrev Q11 : Operand := .tmp 11
abbrev Q16 : Operand := .tmp 16
abbrev Q17 : Operand := .tmp 17
abbrev Q25 : Operand := .tmp 25
abbrev Q26 : Operand := .tmp 26
abbrev Q6 : Operand := .tmp 6
abbrev Q12 : Operand := .tmp 12
abbrev Q18 : Operand := .tmp 18
abbrev Q20 : Operand := .tmp 20
abbrev Q31 : Operand := .tmp 31
abbrev Q32 : Operand := .tmp 32
abbrev Q35 : Operand := .tmp 35
abbrev Q36 : Operand := .tmp 36
abbrev Q38 : Operand := .tmp 38
abbrev Q39 : Operand := .tmp 39
abbrev Q40 : Operand := .tmp 40
abbrev Q44 : Operand := .tmp 44
abbrev Q43 : Operand := .tmp 43
abbrev Q45 : Operand := .tmp 45
abbrev Q49 : Operand := .tmp 49
abbrev Q48 : Operand := .tmp 48
abbrev Q50 : Operand := .tmp 50
abbrev Q54 : Operand := .tmp 54
abbrev Q53 : Operand := .tmp 53
abbrev Q55 : Operand := .tmp 55
abbrev Q28 : Operand := .tmp 28
abbrev Q57 : Operand := .tmp 57
abbrev Q60 : Operand := .tmp 60
abbrev Q61 : Operand := .tmp 61
abbrev Q62 : Operand := .tmp 62
abbrev Q64 : Operand := .tmp 64
abbrev Q69 : Operand := .tmp 69
abbrev Q70 : Operand := .tmp 70
abbrev Q73 : Operand := .tmp 73
abbrev Q74 : Operand := .tmp 74
abbrev Q75 : Operand := .tmp 75
abbrev Q76 : Operand := .tmp 76
abbrev Q13 : Operand := .tmp 13
abbrev Q77 : Operand := .tmp 77
abbrev Q78 : Operand := .tmp 78
abbrev Q72 : Operand := .tmp 72
abbrev Q79 : Operand := .tmp 79
abbrev Q81 : Operand := .tmp 81
abbrev Q82 : Operand := .tmp 82
abbrev Q90 : Operand := .tmp 90
abbrev Q92 : Operand := .tmp 92
abbrev Q91 : Operand := .tmp 91
abbrev Q93 : Operand := .tmp 93
abbrev Q88 : Operand := .tmp 88
abbrev Q94 : Operand := .tmp 94
abbrev Q96 : Operand := .tmp 96
abbrev Q98 : Operand := .tmp 98
abbrev Q19 : Operand := .tmp 19
abbrev Q33 : Operand := .tmp 33
abbrev Q41 : Operand := .tmp 41
abbrev Q89 : Operand := .tmp 89
abbrev Q0 : Operand := .tmp 0
abbrev Q1 : Operand := .tmp 1
abbrev Q14 : Operand := .tmp 14
abbrev Q2 : Operand := .tmp 2
abbrev Q3 : Operand := .tmp 3
abbrev Q23 : Operand := .tmp 23
abbrev Q34 : Operand := .tmp 34
abbrev Q37 : Operand := .tmp 37
abbrev Q42 : Operand := .tmp 42
abbrev Q47 : Operand := .tmp 47
abbrev Q46 : Operand := .tmp 46
abbrev Q52 : Operand := .tmp 52
abbrev Q51 : Operand := .tmp 51
abbrev Q56 : Operand := .tmp 56
abbrev Q8 : Operand := .tmp 8
abbrev Q58 : Operand := .tmp 58
abbrev Q59 : Operand := .tmp 59
abbrev Q63 : Operand := .tmp 63
abbrev Q65 : Operand := .tmp 65
abbrev Q4 : Operand := .tmp 4
abbrev Q67 : Operand := .tmp 67
abbrev Q68 : Operand := .tmp 68
abbrev Q71 : Operand := .tmp 71
abbrev Q66 : Operand := .tmp 66
abbrev Q83 : Operand := .tmp 83
abbrev Q84 : Operand := .tmp 84
abbrev Q87 : Operand := .tmp 87
abbrev Q99 : Operand := .tmp 99
abbrev Q80 : Operand := .tmp 80
abbrev Q85 : Operand := .tmp 85
abbrev Q86 : Operand := .tmp 86
abbrev Q95 : Operand := .tmp 95
abbrev Q97 : Operand := .tmp 97
def F3 : FC := ⟨32, [.tmp 4], (sQ [o 4 (.mov kF)] (sQ [oM 10 0, oM 11 1, o 12 (.call 4 [Q10, Q11]), oM 9 12, o 13 (.extract Q9 0), o 14 (.extract Q9 1), o 5 (.alloc zaZ), oS 7 5 13, oM 6 14] (sQ [oM 16 0, oM 17 1, o 18 (.call 5 [Q16, Q17]), oM 15 18, o 19 (.extract Q15 0), o 20 (.extract Q15 1), o 7 (.alloc zaZ), oS 7 7 19, oM 8 20]
 (sQ [oM 21 6, oM 22 8, o 23 (.bin .eql Q21 Q22 tI), oM 24 23, og 25 (.load true 7 Q5) 24 true, og 26 (.load true 7 Q7) 24 true, og 27 (.call 6 [Q25, Q26]) 24 true, o 28 (.pick Q24 Q27 kF), oM 29 28, og 30 (.call 7 []) 29 true, o 31 (.pick Q29 Q30 kF), oM 4 31] .ret))))⟩
theorem F3_ok : compF Tryz.prog 3 = some F3 := by kernel_rfl
def F4 : FC := ⟨19, [.cell 4 true 7, .tmp 5], (sQ [o 4 (.alloc zaZ), o 5 (.mov (kI 0))] (sQ [oM 10 0, o 11 (.call 9 [Q10]), oM 12 1, o 13 (.call 8 [Q11, Q12]), oM 9 13, o 14 (.extract Q9 0), o 15 (.extract Q9 1), o 16 (.extract Q9 2), o 6 (.alloc zaZ), oS 7 6 14, oM 7 15, oM 8 16] (sQ [o 17 (.load true 7 Q6), oM 18 8, oS 7 4 17, oM 5 18] .ret)))⟩
theorem F4_ok : compF Tryz.prog 4 = some F4 := by kernel_rfl
def F5 : FC := ⟨263, [.cell 4 true 7, .tmp 5], (sQ [o 4 (.alloc zaZ), o 5 (.mov (kI 0))] (.seq (sQ [oM 17 1, o 18 (.len 1 Q17), oM 19 0, o 20 (.call 10 [Q19]), o 21 (.bin .neq Q18 Q20 tI)] (.cond Q21 (sQ [o 22 (.build zaZ []), oS 7 4 22, o 5 (.mov (kI 1))] .ret) .skip)) (sQ [o 23 (.buildSlice 7 0 [] []), oM 6 23] (sQ [o 7 (.mov kF), o 8 (.mov kT)] (.seq (sQ [o 9 (.mov (kI 0))]
 (.block 0 (.loop (.seq (sQ [oM 24 9, oM 25 1, o 26 (.len 1 Q25), o 27 (.bin .lss Q24 Q26 tI)] (.cond Q27 .skip (.exit 0))) (.seq (.block 1 (sQ [oM 30 1, oM 31 9, o 32 (.indexAddr 7 Q30 Q31), o 33 (.load true 7 Q32), o 34 (.call 11 [Q33]), oM 10 34] (.seq (sQ [oM 35 10, o 36 (.un .not Q35)] (.cond Q36 (sQ [o 37 (.build zaZ []), oS 7 4 37, o 5 (.mov (kI 5))] .ret) .skip))
 (sQ [oM 38 1, oM 39 9, o 40 (.indexAddr 7 Q38 Q39), o 41 (.load true 7 Q40), o 42 (.call 12 [Q41]), o 11 (.alloc zaZ), oS 7 11 42] (sQ [oM 43 6, o 44 (.load true 7 Q11), o 45 (.buildSlice 7 1 zaZ [(0, 7, Q44)]), o 46 (.append 7 80 Q43 Q45), oM 6 46] (sQ [oM 47 7, oM 48 47, og 49 (.fieldAddr 1 Q11) 48 false, og 50 (.load false 1 Q49) 48 false, o 51 (.pick Q48 kT Q50), oM 7 51]
 (.ops [oM 52 8, oM 53 52, og 54 (.fieldAddr 1 Q11) 53 true, og 55 (.load false 1 Q54) 53 true, o 56 (.pick Q53 Q55 kF), oM 8 56]))))))) (.ops [oM 28 9, o 29 (.bin .add Q28 (kI 1) tI), oM 9 29]))))))
 (sQ [oM 57 1, o 58 (.indexAddr 7 Q57 (kI 0)), oA 59 0 58, oL 60 59, oM 61 7, o 62 (.build [.int .i64 0, .int .i64 0, .int .i64 0, .int .i64 0, .slice none 0 0] [(0, 1, (kI 2))]), o 63 (.build zaZ [(0, 1, Q60), (1, 1, Q61), (2, 5, Q62)]), o 12 (.alloc zaZ), oS 7 12 63] (sQ [oM 64 6, o 65 (.indexAddr 7 Q64 (kI 0)), oA 66 2 65, oA 67 0 66, oL 68 67, oM 13 68]
 (sQ [oM 69 6, o 70 (.len 1 Q69), o 71 (.bin .gtr Q70 (kI 1) tI), oM 72 71, og 73 (.mov Q6) 72 true, og 74 (.indexAddr 7 Q73 (kI 1)) 72 true, og 75 (.fieldAddr 2 Q74) 72 true, og 76 (.fieldAddr 0 Q75) 72 true, og 77 (.load false 1 Q76) 72 true, og 78 (.mov Q13) 72 true, og 79 (.bin .eql Q77 Q78 tI) 72 true, o 80 (.pick Q72 Q79 kF), oM 14 80] (sQ [o 15 (.mov kF)] (.seq (sQ [oM 81 0]
 (.block 2 (.seq (sQ [o 83 (.bin .eql Q81 (kI 1) tI), oM 82 83] (.cond Q82 .skip (sQ [o 84 (.bin .eql Q81 (kI 2) tI), oM 82 84] (.cond Q82 .skip (sQ [o 85 (.bin .eql Q81 (kI 3) tI), oM 82 85] (.cond Q82 .skip (.ops [o 86 (.bin .eql Q81 (kI 4) tI), oM 82 86]))))))) (.cond Q82
 (sQ [oM 87 14, oM 88 87, og 89 (.mov Q13) 88 true, og 90 (.call 13 [Q89]) 88 true, og 91 (.mov Q90) 88 true, og 92 (.mov Q13) 91 false, og 93 (.bin .eql Q92 (kI 11) tI) 91 false, og 94 (.pick Q91 kT Q93) 88 true, o 95 (.pick Q88 Q94 kF), oM 15 95] (.ops [oM 96 6, o 97 (.indexAddr 7 Q96 (kI 0)), oA 98 2 97, o 99 (.load true 5 Q98), oA 100 2 12, oS 5 100 99]))
 (sQ [o 102 (.bin .eql Q81 (kI 5) tI), oM 101 102] (.cond (q 101) (sQ [oM 103 14, oM 104 103, og 105 (.mov Q13) 104 true, og 106 (.call 13 [.tmp 105]) 104 true, o 107 (.pick (q 104) (q 106) kF), oM 15 107] (.ops [oM 108 6, o 109 (.indexAddr 7 (q 108) (kI 0)), oA 110 2 109, o 111 (.load true 5 (q 110)), oA 112 2 12, oS 5 112 111])) (sQ [o 114 (.bin .eql Q81 (kI 6) tI), oM 113 114] (.cond (q 113)
 (sQ [oM 115 13, o 116 (.bin .geq (q 115) (kI 3) tI), oM 117 116, og 118 (.mov Q13) 117 true, og 119 (.bin .leq (q 118) (kI 6) tI) 117 true, o 120 (.pick (q 117) (q 119) kF), oM 121 120, og 122 (.mov Q13) 121 false, og 123 (.bin .eql (q 122) (kI 11) tI) 121 false, o 124 (.pick (q 121) kT (q 123)), oM 15 124]
 (.ops [oM 125 6, o 126 (.indexAddr 7 (q 125) (kI 0)), oA 127 2 126, o 128 (.load true 5 (q 127)), oA 129 2 12, oS 5 129 128])) (.seq (sQ [o 131 (.bin .eql Q81 (kI 7) tI), oM 130 131] (.cond (q 130) .skip (sQ [o 132 (.bin .eql Q81 (kI 8) tI), oM 130 132] (.cond (q 130) .skip (sQ [o 133 (.bin .eql Q81 (kI 9) tI), oM 130 133] (.cond (q 130) .skip (sQ [o 134 (.bin .eql Q81 (kI 10) tI), oM 130 134]
 (.cond (q 130) .skip (sQ [o 135 (.bin .eql Q81 (kI 11) tI), oM 130 135] (.cond (q 130) .skip (.ops [o 136 (.bin .eql Q81 (kI 12) tI), oM 130 136]))))))))))) (.cond (q 130)
 (.ops [oM 137 6, o 138 (.indexAddr 7 (q 137) (kI 0)), oA 139 2 138, o 140 (.load true 5 (q 139)), oM 141 6, o 142 (.indexAddr 7 (q 141) (kI 1)), oA 143 2 142, o 144 (.load true 5 (q 143)), o 145 (.call 14 [.tmp 140, .tmp 144]), oM 15 145]) (.seq (sQ [o 147 (.bin .eql Q81 (kI 13) tI), oM 146 147] (.cond (q 146) .skip (.ops [o 148 (.bin .eql Q81 (kI 14) tI), oM 146 148]))) (.cond (q 146)
 (.ops [oM 149 14, oM 150 149, og 151 (.mov Q13) 150 true, og 152 (.bin .eql (q 151) (kI 2) tI) 150 true, o 153 (.pick (q 150) (q 152) kF), oM 15 153]) (sQ [o 155 (.bin .eql Q81 (kI 15) tI), oM 154 155] (.cond (q 154) (.ops [oM 156 13, o 157 (.bin .eql (q 156) (kI 2) tI), oM 15 157]) (sQ [o 159 (.bin .eql Q81 (kI 16) tI), oM 158 159] (.cond (q 158) (sQ [o 15 (.mov kT)]
 (.ops [oA 160 1 12, ⟨none, .store 1 (q 160) kF, none⟩])) (sQ [o 162 (.bin .eql Q81 (kI 17) tI), oM 161 162] (.cond (q 161) (sQ [oM 163 6, o 164 (.indexAddr 7 (q 163) (kI 0)), oA 165 2 164, o 166 (.load true 5 (q 165)), oM 167 6, o 168 (.indexAddr 7 (q 167) (kI 1)), oA 169 2 168, o 170 (.load true 5 (q 169)), o 171 (.call 14 [.tmp 166, .tmp 170]), oM 15 171]
 (sQ [oM 172 6, o 173 (.indexAddr 7 (q 172) (kI 0)), oA 174 2 173, o 175 (.load true 5 (q 174)), oA 176 2 12, oS 5 176 175] (.ops [oM 177 8, oA 178 1 12, oS 1 178 177]))) (sQ [o 180 (.bin .eql Q81 (kI 18) tI), oM 179 180] (.cond (q 179)
 (sQ [oM 181 13, o 182 (.bin .eql (q 181) (kI 2) tI), oM 183 182, og 184 (.mov Q6) 183 true, og 185 (.indexAddr 7 (q 184) (kI 1)) 183 true, og 186 (.fieldAddr 2 (q 185)) 183 true, og 187 (.load true 5 (q 186)) 183 true, og 188 (.mov Q6) 183 true, og 189 (.indexAddr 7 (q 188) (kI 2)) 183 true, og 190 (.fieldAddr 2 (q 189)) 183 true, og 191 (.load true 5 (q 190)) 183 true, og 192 (.call 14 [.tmp 187, .tmp 191]) 183 true, o 193 (.pick (q 183) (q 192) kF), oM 15 193]
 (sQ [oM 194 6, o 195 (.indexAddr 7 (q 194) (kI 1)), oA 196 2 195, o 197 (.load true 5 (q 196)), oA 198 2 12, oS 5 198 197]
 (.ops [oM 199 6, o 200 (.indexAddr 7 (q 199) (kI 1)), oA 201 1 200, oL 202 201, oM 203 202, og 204 (.mov Q6) 203 false, og 205 (.indexAddr 7 (q 204) (kI 2)) 203 false, og 206 (.fieldAddr 1 (q 205)) 203 false, og 207 (.load false 1 (q 206)) 203 false, o 208 (.pick (q 203) kT (q 207)), oA 209 1 12, oS 1 209 208]))) (sQ [o 211 (.bin .eql Q81 (kI 19) tI), oM 210 211] (.cond (q 210)
 (sQ [oM 212 14, oM 213 212, og 214 (.mov Q13) 213 true, og 215 (.call 15 [.tmp 214]) 213 true, o 216 (.pick (q 213) (q 215) kF), oM 15 216] (.ops [oM 217 6, o 218 (.indexAddr 7 (q 217) (kI 0)), oA 219 2 218, o 220 (.load true 5 (q 219)), oA 221 2 12, oS 5 221 220])) (sQ [o 223 (.bin .eql Q81 (kI 20) tI), oM 222 223] (.cond (q 222)
 (sQ [oM 224 13, o 225 (.call 15 [.tmp 224]), oM 226 225, og 227 (.mov Q13) 226 false, og 228 (.bin .eql (q 227) (kI 14) tI) 226 false, o 229 (.pick (q 226) kT (q 228)), oM 230 229, og 231 (.mov Q13) 230 false, og 232 (.bin .eql (q 231) (kI 15) tI) 230 false, o 233 (.pick (q 230) kT (q 232)), oM 234 233, og 235 (.mov Q13) 234 false, og 236 (.bin .eql (q 235) (kI 16) tI) 234 false, o 237 (.pick (q 234) kT (q 236)), oM 15 237]
 (.ops [oA 238 2 12, oA 239 0 238, ⟨none, .store 1 (q 239) (kI 6), none⟩])) (.seq (sQ [o 241 (.bin .eql Q81 (kI 21) tI), oM 240 241] (.cond (q 240) .skip (.ops [o 242 (.bin .eql Q81 (kI 22) tI), oM 240 242]))) (.cond (q 240) (.ops [oM 243 14, oM 244 243, og 245 (.mov Q13) 244 true, og 246 (.call 15 [.tmp 245]) 244 true, o 247 (.pick (q 244) (q 246) kF), oM 15 247]) .skip))))))))))))))))))))))))))
 (.seq (sQ [oM 248 15, o 249 (.un .not (q 248))] (.cond (q 249) (sQ [o 250 (.build zaZ []), oS 7 4 250, o 5 (.mov (kI 5))] .ret) .skip)) (sQ [oA 251 2 12, oA 252 4 251, oL 253 252, o 254 (.call 16 [.tmp 253]), oA 255 2 12, oA 256 4 255, oS 1 256 254] (sQ [o 257 (.load true 7 Q12), o 258 (.call 11 [.tmp 257]), oM 16 258] (.seq (sQ [oM 259 16, o 260 (.un .not (q 259))] (.cond (q 260)
 (sQ [o 261 (.build zaZ []), oS 7 4 261, o 5 (.mov (kI 5))] .ret) .skip)) (sQ [o 262 (.load true 7 Q12), oS 7 4 262, o 5 (.mov (kI 0))] .ret)))))))))))))))⟩
theorem F5_ok : compF Tryz.prog 5 = some F5 := by kernel_rfl
def F6 : FC := ⟨58, [.tmp 4], (sQ [o 2 (.box Q0), o 3 (.box Q1), o 4 (.mov kF)] (sQ [oA 7 2 2, o 8 (.load true 5 Q7), oA 9 2 3, o 10 (.load true 5 Q9), o 5 (.alloc [.int .i64 0, .int .i64 0, .int .i64 0, .int .i64 0, .slice none 0 0]), oS 5 5 8, ⟨none, .again 10 true 5 Q9, none⟩, o 6 (.alloc [.int .i64 0, .int .i64 0, .int .i64 0, .int .i64 0, .slice none 0 0]), oS 5 6 10]
 (sQ [oA 11 0 2, oL 12 11, oA 13 0 3, oL 14 13, o 15 (.bin .eql Q12 Q14 (some .string)), oM 16 15, og 17 (.fieldAddr 1 Q2) 16 true, og 18 (.load false 1 Q17) 16 true, og 19 (.fieldAddr 1 Q3) 16 true, og 20 (.load false 1 Q19) 16 true, og 21 (.bin .eql Q18 Q20 (some .bool)) 16 true, o 22 (.pick Q16 Q21 kF), oM 23 22, og 24 (.fieldAddr 0 Q5) 23 true, og 25 (.load false 1 Q24) 23 true, og 26 (.fieldAddr 0 Q6) 23 true, og 27 (.load false 1 Q26) 23 true, og 28 (.bin .eql Q25 Q27 tI) 23 true, o 29 (.pick Q23 Q28 kF), oM 30 29, og 31 (.fieldAddr 1 Q5) 30 true, og 32 (.load false 1 Q31) 30 true, og 33 (.fieldAddr 1 Q6) 30 true, og 34 (.load false 1 Q33) 30 true, og 35 (.bin .eql Q32 Q34 tI) 30 true, o 36 (.pick Q30 Q35 kF), oM 37 36, og 38 (.fieldAddr 2 Q5) 37 true, og 39 (.load false 1 Q38) 37 true, og 40 (.fieldAddr 2 Q6) 37 true, og 41 (.load false 1 Q40) 37 true, og 42 (.bin .eql Q39 Q41 tI) 37 true, o 43 (.pick Q37 Q42 kF), oM 44 43, og 45 (.fieldAddr 3 Q5) 44 true, og 46 (.load false 1 Q45) 44 true, og 47 (.fieldAddr 3 Q6) 44 true, og 48 (.load false 1 Q47) 44 true, og 49 (.bin .eql Q46 Q48 tI) 44 true, o 50 (.pick Q44 Q49 kF), oM 51 50, og 52 (.fieldAddr 4 Q5) 51 true, og 53 (.load false 1 Q52) 51 true, og 54 (.fieldAddr 4 Q6) 51 true, og 55 (.load false 1 Q54) 51 true, og 56 (.call 17 [Q53, Q55]) 51 true, o 57 (.pick Q51 Q56 kF), oM 4 57]
 .ret)))⟩
theorem F6_ok : compF Tryz.prog 6 = some F6 := by kernel_rfl
def F7 : FC := ⟨35, [.tmp 0], (sQ [o 0 (.mov kF)] (sQ [o 6 (.build [.int .i64 0, .int .i64 0, .int .i64 0, .int .i64 0, .slice none 0 0] [(0, 1, (kI 3))]), o 7 (.build zaZ [(0, 1, (.const (.string ⟨#[97]⟩))), (2, 5, Q6)]), o 1 (.alloc zaZ), oS 7 1 7]
 (sQ [o 8 (.buildSlice 1 2 [.int .u8 0, .int .u8 0] [(0, 1, (.const (.int .u8 3))), (1, 1, (.const (.int .u8 4)))]), o 9 (.buildSlice 1 2 [.slice none 0 0, .slice none 0 0] [(0, 1, (.const (.slice none 0 0))), (1, 1, Q8)]), o 10 (.build [.int .i64 0, .int .i64 0, .int .i64 0, .slice none 0 0, .slice none 0 0, .slice none 0 0] [(0, 1, (kI 2)), (3, 1, Q9)]), o 2 (.alloc [.int .i64 0, .int .i64 0, .int .i64 0, .slice none 0 0, .slice none 0 0, .slice none 0 0]), oS 6 2 10]
 (sQ [o 12 (.load true 7 Q1), o 13 (.load true 7 Q1), o 14 (.buildSlice 7 2 zbZ [(0, 7, Q12), (7, 7, Q13)]), o 15 (.load true 6 Q2), o 16 (.load true 6 Q2), o 17 (.buildSlice 6 2 [.int .i64 0, .int .i64 0, .int .i64 0, .slice none 0 0, .slice none 0 0, .slice none 0 0, .int .i64 0, .int .i64 0, .int .i64 0, .slice none 0 0, .slice none 0 0, .slice none 0 0] [(0, 6, Q15), (6, 6, Q16)]), o 18 (.call 18 [(kI 3), Q14, Q17]), oM 11 18, o 19 (.extract Q11 0), o 20 (.extract Q11 1), o 21 (.extract Q11 2), o 3 (.alloc [.int .i64 0, .int .i64 0, .int .i64 0, .slice none 0 0, .slice none 0 0, .slice none 0 0]), oS 6 3 19, oM 4 20, oM 5 21]
 (sQ [oM 22 4, o 23 (.bin .eql Q22 (kI 0) tI), oM 24 23, og 25 (.mov Q5) 24 true, og 26 (.bin .eql Q25 (kI 0) tI) 24 true, o 27 (.pick Q24 Q26 kF), oM 28 27, og 29 (.load true 6 Q3) 28 true, og 30 (.buildSlice 1 2 [.int .u8 0, .int .u8 0] [(0, 1, (.const (.int .u8 9))), (1, 1, (.const (.int .u8 16)))]) 28 true, og 31 (.buildSlice 1 2 [.slice none 0 0, .slice none 0 0] [(0, 1, (.const (.slice none 0 0))), (1, 1, Q30)]) 28 true, og 32 (.build [.int .i64 0, .int .i64 0, .int .i64 0, .slice none 0 0, .slice none 0 0, .slice none 0 0] [(0, 1, (kI 2)), (3, 1, Q31)]) 28 true, og 33 (.call 19 [Q29, Q32]) 28 true, o 34 (.pick Q28 Q33 kF), oM 0 34]
 .ret)))))⟩
theorem F7_ok : compF Tryz.prog 7 = some F7 := by kernel_rfl
def F8 : FC := ⟨69, [.cell 4 true 7, .tmp 5, .tmp 6], (sQ [o 2 (.box Q0), o 4 (.alloc zaZ), o 5 (.mov (.const (.slice none 0 0))), o 6 (.mov (kI 0))]
 (.seq (sQ [oA 13 0 2, oL 14 13, o 15 (.bin .eql Q14 (kI 0) tI), oM 16 15, og 17 (.mov Q1) 16 false, og 18 (.len 1 Q17) 16 false, og 19 (.fieldAddr 0 Q2) 16 false, og 20 (.load false 1 Q19) 16 false, og 21 (.bin .neq Q18 Q20 tI) 16 false, o 22 (.pick Q16 kT Q21)] (.cond Q22 (sQ [o 23 (.build zaZ []), oS 7 4 23, o 5 (.mov (.const (.slice none 0 0))), o 6 (.mov (kI 1))] .ret) .skip))
 (sQ [o 7 (.mov (.const (.slice none 0 0)))] (.seq (sQ [oM 24 1, o 25 (.len 1 Q24), o 26 (.mov (kI 0))] (.block 0 (.loop (sQ [o 27 (.bin .lss Q26 Q25 tI)] (.seq (.cond Q27 .skip (.exit 0)) (.seq (.block 1 (sQ [o 28 (.indexAddr 7 Q24 Q26), o 29 (.load true 7 Q28), o 9 (.alloc zaZ), oS 7 9 29]
 (.seq (sQ [o 30 (.load true 7 Q9), o 31 (.call 20 [Q30]), o 32 (.field false 0 1 Q31), o 33 (.bin .neq Q32 (kI 0) tI)] (.cond Q33 (sQ [o 34 (.build zaZ []), oS 7 4 34, o 5 (.mov (.const (.slice none 0 0))), o 6 (.mov (kI 5))] .ret) .skip)) (.ops [oM 35 7, o 36 (.load true 7 Q9), o 37 (.call 21 [Q36]), o 38 (.buildSlice 7 1 zaZ [(0, 7, Q37)]), o 39 (.append 7 80 Q35 Q38), oM 7 39]))))
 (.ops [o 40 (.bin .add Q26 (kI 1) tI), oM 26 40]))))))) (sQ [oA 42 1 2, oL 43 42, oM 44 7, o 45 (.callv Q43 [Q44]), oM 41 45, o 46 (.extract Q41 0), o 47 (.extract Q41 1), o 10 (.alloc [.int .i64 0, .int .i64 0, .int .i64 0, .int .i64 0, .slice none 0 0]), oS 5 10 46, oM 11 47] (.seq (sQ [oM 48 11, o 49 (.un .not Q48)] (.cond Q49
 (sQ [o 50 (.build zaZ []), oS 7 4 50, o 5 (.mov (.const (.slice none 0 0))), o 6 (.mov (kI 5))] .ret) .skip))
 (sQ [oM 51 1, o 52 (.indexAddr 7 Q51 (kI 0)), oA 53 0 52, oL 54 53, oA 55 2 2, oL 56 55, oM 57 7, o 59 (.load true 5 Q10), o 58 (.callv Q56 [Q57]), ⟨none, .again 59 true 5 Q10, none⟩, ⟨none, .again 54 false 1 Q53, none⟩, o 60 (.build zaZ [(0, 1, Q54), (1, 1, Q58), (2, 5, Q59)]), o 61 (.call 22 [Q60]), o 12 (.alloc zaZ), oS 7 12 61]
 (.seq (sQ [o 62 (.load true 7 Q12), o 63 (.call 20 [Q62]), o 64 (.field false 0 1 Q63), o 65 (.bin .neq Q64 (kI 0) tI)] (.cond Q65 (sQ [o 66 (.build zaZ []), oS 7 4 66, o 5 (.mov (.const (.slice none 0 0))), o 6 (.mov (kI 5))] .ret) .skip)) (sQ [o 67 (.load true 7 Q12), oM 68 7, oS 7 4 67, oM 5 68, o 6 (.mov (kI 0))] .ret)))))))))⟩
theorem F8_ok : compF Tryz.prog 8 = some F8 := by kernel_rfl
def F9 : FC := ⟨63, [.cell 2 true 5], (sQ [o 2 (.alloc [(.int .i64 0), .nilFunc, .nilFunc, (.bool false), .nilFunc])] (.seq (sQ [oM 3 0] (.block 0 (.seq (sQ [o 5 (.bin .eql Q3 (kI 1) tI), oM 4 5] (.cond Q4 .skip (sQ [o 6 (.bin .eql Q3 (kI 2) tI), oM 4 6] (.cond Q4 .skip (sQ [o 7 (.bin .eql Q3 (kI 3) tI), oM 4 7] (.cond Q4 .skip (.ops [o 8 (.bin .eql Q3 (kI 4) tI), oM 4 8]))))))) (.cond Q4
 (sQ [oM 9 0, o 10 (.call 25 [Q9]), o 11 (.build [(.int .i64 0), .nilFunc, .nilFunc, (.bool false), .nilFunc] [(0, 1, (kI 2)), (1, 1, (.func 23)), (2, 1, (.func 24)), (3, 1, kF), (4, 1, Q10)]), oS 5 2 11] .ret) (sQ [o 13 (.bin .eql Q3 (kI 5) tI), oM 12 13] (.cond Q12
 (sQ [oM 14 0, o 15 (.call 25 [Q14]), o 16 (.build [(.int .i64 0), .nilFunc, .nilFunc, (.bool false), .nilFunc] [(0, 1, (kI 2)), (1, 1, (.func 26)), (2, 1, (.func 24)), (3, 1, kF), (4, 1, Q15)]), oS 5 2 16] .ret) (sQ [o 18 (.bin .eql Q3 (kI 6) tI), oM 17 18] (.cond Q17
 (sQ [o 19 (.build [(.int .i64 0), .nilFunc, .nilFunc, (.bool false), .nilFunc] [(0, 1, (kI 1)), (1, 1, (.func 27)), (2, 1, (.func 24)), (3, 1, kF), (4, 1, (.func 28))]), oS 5 2 19] .ret) (.seq (sQ [o 21 (.bin .eql Q3 (kI 7) tI), oM 20 21] (.cond Q20 .skip (sQ [o 22 (.bin .eql Q3 (kI 8) tI), oM 20 22] (.cond Q20 .skip (sQ [o 23 (.bin .eql Q3 (kI 9) tI), oM 20 23] (.cond Q20 .skip
 (sQ [o 24 (.bin .eql Q3 (kI 10) tI), oM 20 24] (.cond Q20 .skip (sQ [o 25 (.bin .eql Q3 (kI 11) tI), oM 20 25] (.cond Q20 .skip (.ops [o 26 (.bin .eql Q3 (kI 12) tI), oM 20 26]))))))))))) (.cond Q20
 (sQ [oM 27 0, o 28 (.call 30 [Q27]), o 29 (.build [(.int .i64 0), .nilFunc, .nilFunc, (.bool false), .nilFunc] [(0, 1, (kI 2)), (1, 1, (.func 29)), (2, 1, (.func 24)), (3, 1, kF), (4, 1, Q28)]), oS 5 2 29] .ret) (.seq (sQ [o 31 (.bin .eql Q3 (kI 13) tI), oM 30 31] (.cond Q30 .skip (.ops [o 32 (.bin .eql Q3 (kI 14) tI), oM 30 32]))) (.cond Q30
 (sQ [oM 33 0, o 34 (.bin .eql Q33 (kI 13) tI), o 35 (.call 32 [Q34]), o 36 (.build [(.int .i64 0), .nilFunc, .nilFunc, (.bool false), .nilFunc] [(0, 1, (kI 2)), (1, 1, (.func 31)), (2, 1, (.func 24)), (3, 1, kT), (4, 1, Q35)]), oS 5 2 36] .ret) (sQ [o 38 (.bin .eql Q3 (kI 15) tI), oM 37 38] (.cond Q37
 (sQ [o 39 (.build [(.int .i64 0), .nilFunc, .nilFunc, (.bool false), .nilFunc] [(0, 1, (kI 1)), (1, 1, (.func 31)), (2, 1, (.func 24)), (3, 1, kF), (4, 1, (.func 33))]), oS 5 2 39] .ret) (sQ [o 41 (.bin .eql Q3 (kI 16) tI), oM 40 41] (.cond Q40
 (sQ [o 42 (.build [(.int .i64 0), .nilFunc, .nilFunc, (.bool false), .nilFunc] [(0, 1, (kI 1)), (1, 1, (.func 34)), (2, 1, (.func 35)), (3, 1, kT), (4, 1, (.func 36))]), oS 5 2 42] .ret) (sQ [o 44 (.bin .eql Q3 (kI 17) tI), oM 43 44] (.cond Q43
 (sQ [o 45 (.build [(.int .i64 0), .nilFunc, .nilFunc, (.bool false), .nilFunc] [(0, 1, (kI 2)), (1, 1, (.func 37)), (2, 1, (.func 38)), (3, 1, kT), (4, 1, (.func 39))]), oS 5 2 45] .ret) (sQ [o 47 (.bin .eql Q3 (kI 18) tI), oM 46 47] (.cond Q46
 (sQ [o 48 (.build [(.int .i64 0), .nilFunc, .nilFunc, (.bool false), .nilFunc] [(0, 1, (kI 3)), (1, 1, (.func 40)), (2, 1, (.func 41)), (3, 1, kT), (4, 1, (.func 42))]), oS 5 2 48] .ret) (sQ [o 50 (.bin .eql Q3 (kI 19) tI), oM 49 50] (.cond Q49
 (sQ [o 51 (.build [(.int .i64 0), .nilFunc, .nilFunc, (.bool false), .nilFunc] [(0, 1, (kI 2)), (1, 1, (.func 43)), (2, 1, (.func 24)), (3, 1, kF), (4, 1, (.func 44))]), oS 5 2 51] .ret) (sQ [o 53 (.bin .eql Q3 (kI 20) tI), oM 52 53] (.cond Q52
 (sQ [o 54 (.build [(.int .i64 0), .nilFunc, .nilFunc, (.bool false), .nilFunc] [(0, 1, (kI 1)), (1, 1, (.func 45)), (2, 1, (.func 24)), (3, 1, kF), (4, 1, (.func 46))]), oS 5 2 54] .ret) (.seq (sQ [o 56 (.bin .eql Q3 (kI 21) tI), oM 55 56] (.cond Q55 .skip (.ops [o 57 (.bin .eql Q3 (kI 22) tI), oM 55 57]))) (.cond Q55
 (sQ [oM 58 0, o 59 (.bin .eql Q58 (kI 22) tI), o 60 (.call 48 [Q59]), o 61 (.build [(.int .i64 0), .nilFunc, .nilFunc, (.bool false), .nilFunc] [(0, 1, (kI 2)), (1, 1, (.func 47)), (2, 1, (.func 24)), (3, 1, kF), (4, 1, Q60)]), oS 5 2 61] .ret) .skip)))))))))))))))))))))))))) (sQ [o 62 (.build [(.int .i64 0), .nilFunc, .nilFunc, (.bool false), .nilFunc] []), oS 5 2 62] .ret)))⟩
theorem F9_ok : compF Tryz.prog 9 = some F9 := by kernel_rfl
def F10 : FC := ⟨17, [.tmp 2], (sQ [o 2 (.mov (kI 0))] (.seq (sQ [oM 3 0] (.block 0 (.seq (sQ [o 5 (.bin .eql Q3 (kI 6) tI), oM 4 5] (.cond Q4 .skip (sQ [o 6 (.bin .eql Q3 (kI 15) tI), oM 4 6] (.cond Q4 .skip (sQ [o 7 (.bin .eql Q3 (kI 16) tI), oM 4 7] (.cond Q4 .skip (.ops [o 8 (.bin .eql Q3 (kI 20) tI), oM 4 8]))))))) (.cond Q4 (sQ [o 2 (.mov (kI 1))] .ret)
 (sQ [o 10 (.bin .eql Q3 (kI 18) tI), oM 9 10] (.cond Q9 (sQ [o 2 (.mov (kI 3))] .ret) .skip)))))) (.seq (sQ [oM 11 0, o 12 (.bin .geq Q11 (kI 1) tI), oM 13 12, og 14 (.mov Q0) 13 true, og 15 (.bin .leq Q14 (kI 22) tI) 13 true, o 16 (.pick Q13 Q15 kF)] (.cond Q16 (sQ [o 2 (.mov (kI 2))] .ret) .skip)) (sQ [o 2 (.mov (kI (-1)))] .ret))))⟩
theorem F10_ok : compF Tryz.prog 10 = some F10 := by kernel_rfl
def F11 : FC := ⟨7, [.tmp 2], (sQ [o 1 (.box Q0), o 2 (.mov kF)] (sQ [o 3 (.load true 7 Q1), o 4 (.call 49 [Q3]), o 5 (.field false 0 1 Q4), o 6 (.bin .eql Q5 (kI 0) tI), oM 2 6] .ret))⟩
theorem F11_ok : compF Tryz.prog 11 = some F11 := by kernel_rfl
def F12 : FC := ⟨43, [.cell 2 true 7], (sQ [o 1 (.box Q0), o 2 (.alloc zaZ)]
 (.seq (.block 0 (.loop (.seq (sQ [oA 5 2 1, oA 6 0 5, oL 7 6, o 8 (.bin .eql Q7 (kI 19) tI), oM 9 8, og 10 (.fieldAddr 2 Q1) 9 false, og 11 (.fieldAddr 0 Q10) 9 false, og 12 (.load false 1 Q11) 9 false, og 13 (.bin .eql Q12 (kI 20) tI) 9 false, o 14 (.pick Q9 kT Q13), oM 15 14, og 16 (.fieldAddr 2 Q1) 15 true, og 17 (.fieldAddr 4 Q16) 15 true, og 18 (.load false 1 Q17) 15 true, og 19 (.len 1 Q18) 15 true, og 20 (.bin .eql Q19 (kI 1) tI) 15 true, o 21 (.pick Q15 Q20 kF)]
 (.cond Q21 .skip (.exit 0))) (.block 1 (sQ [oA 22 2 1, oA 23 4 22, oL 24 23, o 25 (.indexAddr 7 Q24 (kI 0)), o 26 (.load true 7 Q25), o 3 (.alloc zaZ), oS 7 3 26] (sQ [oA 27 0 1, oL 28 27, oA 29 1 3, oL 30 29, oA 31 2 3, o 32 (.load true 5 Q31), o 33 (.build zaZ [(0, 1, Q28), (1, 1, Q30), (2, 5, Q32)]), o 4 (.alloc zaZ), oS 7 4 33]
 (.seq (sQ [oA 34 2 1, oA 35 0 34, oL 36 35, o 37 (.bin .eql Q36 (kI 19) tI)] (.cond Q37 (.ops [oA 38 1 1, oL 39 38, oA 40 1 4, oS 1 40 39]) .skip)) (.ops [o 41 (.load true 7 Q4), oS 7 1 41])))))))) (sQ [o 42 (.load true 7 Q1), oS 7 2 42] .ret)))⟩
theorem F12_ok : compF Tryz.prog 12 = some F12 := by kernel_rfl
def F13 : FC := ⟨9, [.tmp 2], (sQ [o 2 (.mov kF)] (sQ [oM 3 0, o 4 (.bin .geq Q3 (kI 3) tI), oM 5 4, og 6 (.mov Q0) 5 true, og 7 (.bin .leq Q6 (kI 10) tI) 5 true, o 8 (.pick Q5 Q7 kF), oM 2 8] .ret))⟩
theorem F13_ok : compF Tryz.prog 13 = some F13 := by kernel_rfl
def F15 : FC := ⟨9, [.tmp 2], (sQ [o 2 (.mov kF)] (sQ [oM 3 0, o 4 (.bin .eql Q3 (kI 12) tI), oM 5 4, og 6 (.mov Q0) 5 false, og 7 (.bin .eql Q6 (kI 13) tI) 5 false, o 8 (.pick Q5 kT Q7), oM 2 8] .ret))⟩
theorem F15_ok : compF Tryz.prog 15 = some F15 := by kernel_rfl
def F16 : FC := ⟨23, [.tmp 2], (sQ [o 2 (.mov (.const (.slice none 0 0)))] (sQ [oM 5 0, o 6 (.len 1 Q5), o 7 (.mkSlice 7 80 zaZ Q6 Q6), oM 3 7] (.seq (sQ [oM 8 0, o 9 (.len 1 Q8), o 10 (.mov (kI 0))] (.block 0 (.loop (sQ [o 11 (.bin .lss Q10 Q9 tI)] (.seq (.cond Q11 .skip (.exit 0)) (.seq (.block 1 (sQ [oM 12 10, oM 4 12]
 (.ops [oM 13 3, oM 14 4, oM 15 0, oM 16 4, o 17 (.indexAddr 7 Q15 Q16), o 18 (.load true 7 Q17), o 19 (.call 53 [Q18]), o 20 (.indexAddr 7 Q13 Q14), oS 7 20 19]))) (.ops [o 21 (.bin .add Q10 (kI 1) tI), oM 10 21]))))))) (sQ [oM 22 3, oM 2 22] .ret))))⟩
theorem F16_ok : compF Tryz.prog 16 = some F16 := by kernel_rfl
def F17 : FC := ⟨27, [.tmp 4], (sQ [o 4 (.mov kF)] (.seq (sQ [oM 6 0, o 7 (.len 1 Q6), oM 8 1, o 9 (.len 1 Q8), o 10 (.bin .neq Q7 Q9 tI)] (.cond Q10 (sQ [o 4 (.mov kF)] .ret) .skip)) (.seq (sQ [oM 11 0, o 12 (.len 1 Q11), o 13 (.mov (kI 0))] (.block 0 (.loop (sQ [o 14 (.bin .lss Q13 Q12 tI)] (.seq (.cond Q14 .skip (.exit 0)) (.seq (.block 1 (sQ [oM 15 13, oM 5 15]
 (sQ [oM 16 0, oM 17 5, o 18 (.indexAddr 7 Q16 Q17), o 19 (.load true 7 Q18), oM 20 1, oM 21 5, o 22 (.indexAddr 7 Q20 Q21), o 23 (.load true 7 Q22), o 24 (.call 6 [Q19, Q23]), o 25 (.un .not Q24)] (.cond Q25 (sQ [o 4 (.mov kF)] .ret) .skip)))) (.ops [o 26 (.bin .add Q13 (kI 1) tI), oM 13 26]))))))) (sQ [o 4 (.mov kT)] .ret))))⟩
theorem F17_ok : compF Tryz.prog 17 = some F17 := by kernel_rfl
def F18 : FC := ⟨110, [.cell 6 true 6, .tmp 7, .tmp 8], (sQ [o 6 (.alloc [.int .i64 0, .int .i64 0, .int .i64 0, .slice none 0 0, .slice none 0 0, .slice none 0 0]), o 7 (.mov (kI 0)), o 8 (.mov (kI 0))] (.seq (sQ [oM 18 2, o 19 (.len 1 Q18), oM 20 1, o 21 (.len 1 Q20), o 22 (.bin .neq Q19 Q21 tI)] (.cond Q22
 (sQ [o 23 (.build [.int .i64 0, .int .i64 0, .int .i64 0, .slice none 0 0, .slice none 0 0, .slice none 0 0] []), oS 6 6 23, o 7 (.mov (kI 1)), o 8 (.mov (kI 0))] .ret) .skip)) (sQ [oM 24 0, o 25 (.call 9 [Q24]), o 9 (.alloc [(.int .i64 0), .nilFunc, .nilFunc, (.bool false), .nilFunc]), oS 5 9 25]
 (sQ [o 27 (.load true 5 Q9), oM 28 1, o 29 (.call 8 [Q27, Q28]), oM 26 29, o 30 (.extract Q26 0), o 31 (.extract Q26 1), o 32 (.extract Q26 2), o 10 (.alloc zaZ), oS 7 10 30, oM 11 31, oM 12 32] (.seq (sQ [oM 33 12, o 34 (.bin .neq Q33 (kI 0) tI)] (.cond Q34
 (sQ [o 35 (.build [.int .i64 0, .int .i64 0, .int .i64 0, .slice none 0 0, .slice none 0 0, .slice none 0 0] []), oM 36 12, oS 6 6 35, oM 7 36, o 8 (.mov (kI 0))] .ret) .skip)) (sQ [oM 38 1, oM 39 2, o 40 (.call 54 [Q38, Q39]), oM 37 40, o 41 (.extract Q37 0), o 42 (.extract Q37 1), oM 13 41, oM 12 42] (.seq (sQ [oM 43 12, o 44 (.bin .neq Q43 (kI 0) tI)] (.cond Q44
 (sQ [o 45 (.build [.int .i64 0, .int .i64 0, .int .i64 0, .slice none 0 0, .slice none 0 0, .slice none 0 0] []), oM 46 12, oS 6 6 45, oM 7 46, o 8 (.mov (kI 0))] .ret) .skip)) (sQ [oM 47 13, o 48 (.indexAddr 1 Q47 (kI 0)), oL 49 48, o 50 (.len 1 Q49), o 51 (.mkSlice 4 56 zcZ Q50 Q50), oM 14 51] (sQ [oM 52 13, o 53 (.len 1 Q52), o 54 (.mkSlice 4 56 zcZ Q53 Q53), oM 15 54]
 (.seq (sQ [oM 55 14, o 56 (.len 1 Q55), o 57 (.mov (kI 0))] (.block 0 (.loop (sQ [o 58 (.bin .lss Q57 Q56 tI)] (.seq (.cond Q58 .skip (.exit 0)) (.seq (.block 1 (sQ [oM 59 57, oM 16 59] (.seq (sQ [oM 60 13, o 61 (.len 1 Q60), o 62 (.mov (kI 0))] (.block 2 (.loop (sQ [o 63 (.bin .lss Q62 Q61 tI)] (.seq (.cond Q63 .skip (.exit 2)) (.seq (.block 3 (sQ [oM 64 62, oM 17 64]
 (.ops [oM 65 15, oM 66 17, oM 67 13, oM 68 17, o 69 (.indexAddr 1 Q67 Q68), oL 70 69, oM 71 16, o 72 (.indexAddr 4 Q70 Q71), o 73 (.load true 4 Q72), o 74 (.indexAddr 4 Q65 Q66), oS 4 74 73]))) (.ops [o 75 (.bin .add Q62 (kI 1) tI), oM 62 75]))))))) (.seq (sQ [oA 76 3 9, oL 77 76, o 78 (.un .not Q77), oM 79 78, og 80 (.mov Q15) 79 true, og 81 (.call 55 [Q80]) 79 true, o 82 (.pick Q79 Q81 kF)]
 (.cond Q82 (sQ [oM 83 14, oM 84 16, o 85 (.build zcZ [(0, 1, kT)]), o 86 (.indexAddr 4 Q83 Q84), oS 4 86 85] (.exit 1)) .skip)) (sQ [oM 88 14, oM 89 16, oA 90 4 9, oL 91 90, oM 92 11, oM 93 15, o 94 (.callv Q91 [Q92, Q93]), oM 87 94, o 95 (.extract Q87 0), o 96 (.extract Q87 1), o 97 (.indexAddr 4 Q88 Q89), oS 4 97 95, oM 12 96] (sQ [oM 98 12, o 99 (.bin .neq Q98 (kI 0) tI)] (.cond Q99
 (sQ [o 100 (.build [.int .i64 0, .int .i64 0, .int .i64 0, .slice none 0 0, .slice none 0 0, .slice none 0 0] []), oM 101 12, oM 102 16, oS 6 6 100, oM 7 101, oM 8 102] .ret) .skip))))))) (.ops [o 103 (.bin .add Q57 (kI 1) tI), oM 57 103])))))))
 (sQ [o 104 (.load true 7 Q10), oM 105 14, o 106 (.call 56 [.tmp 104, .tmp 105]), o 107 (.extract (q 106) 0), o 108 (.extract (q 106) 1), o 109 (.extract (q 106) 2), oS 6 6 107, oM 7 108, oM 8 109] .ret)))))))))))⟩
theorem F18_ok : compF Tryz.prog 18 = some F18 := by kernel_rfl
def F19 : FC := ⟨66, [.tmp 4], (sQ [o 2 (.box Q0), o 3 (.box Q1), o 4 (.mov kF)]
 (.seq (sQ [oA 6 0 2, oL 7 6, oA 8 0 3, oL 9 8, o 10 (.bin .neq Q7 Q9 tI), oM 11 10, og 12 (.fieldAddr 1 Q2) 11 false, og 13 (.load false 1 Q12) 11 false, og 14 (.fieldAddr 1 Q3) 11 false, og 15 (.load false 1 Q14) 11 false, og 16 (.bin .neq Q13 Q15 tI) 11 false, o 17 (.pick Q11 kT Q16), oM 18 17, og 19 (.fieldAddr 2 Q2) 18 false, og 20 (.load false 1 Q19) 18 false, og 21 (.fieldAddr 2 Q3) 18 false, og 22 (.load false 1 Q21) 18 false, og 23 (.bin .neq Q20 Q22 tI) 18 false, o 24 (.pick Q18 kT Q23), oM 25 24, og 26 (.fieldAddr 3 Q2) 25 false, og 27 (.load false 1 Q26) 25 false, og 28 (.len 1 Q27) 25 false, og 29 (.fieldAddr 3 Q3) 25 false, og 30 (.load false 1 Q29) 25 false, og 31 (.len 1 Q30) 25 false, og 32 (.bin .neq Q28 Q31 tI) 25 false, o 33 (.pick Q25 kT Q32)]
 (.cond Q33 (sQ [o 4 (.mov kF)] .ret) .skip)) (.seq (sQ [o 5 (.mov (kI 0))] (.block 0 (.loop (.seq (sQ [oM 34 5, oA 35 3 2, oL 36 35, o 37 (.len 1 Q36), o 38 (.bin .lss Q34 Q37 tI)] (.cond Q38 .skip (.exit 0)))
 (.seq (.block 1 (sQ [oA 41 3 2, oL 42 41, oM 43 5, o 44 (.indexAddr 1 Q42 Q43), oL 45 44, o 46 (.b2s Q45), oA 47 3 3, oL 48 47, oM 49 5, o 50 (.indexAddr 1 Q48 Q49), oL 51 50, o 52 (.b2s Q51), o 53 (.bin .neq Q46 Q52 (some .string))] (.cond Q53 (sQ [o 4 (.mov kF)] .ret) .skip))) (.ops [oM 39 5, o 40 (.bin .add Q39 (kI 1) tI), oM 5 40]))))))
 (sQ [oA 54 4 2, oL 55 54, oA 56 4 3, oL 57 56, o 58 (.call 57 [Q55, Q57]), oM 59 58, og 60 (.fieldAddr 5 Q2) 59 true, og 61 (.load false 1 Q60) 59 true, og 62 (.fieldAddr 5 Q3) 59 true, og 63 (.load false 1 Q62) 59 true, og 64 (.call 57 [Q61, Q63]) 59 true, o 65 (.pick Q59 Q64 kF), oM 4 65] .ret))))⟩
theorem F19_ok : compF Tryz.prog 19 = some F19 := by kernel_rfl
def F20 : FC := ⟨17, [.cell 2 true 3], (sQ [o 1 (.box Q0), o 2 (.alloc [.int .i64 0, .slice none 0 0, .int .i64 0])] (sQ [o 4 (.load true 7 Q1), o 5 (.buildSlice 7 1 zaZ [(0, 7, Q4)]), o 6 (.build [.slice none 0 0, .slice none 0 0] [(0, 1, Q5)]), o 7 (.call 58 [Q6]), o 3 (.alloc [.int .i64 0, .slice none 0 0, .int .i64 0]), oS 3 3 7]
 (.seq (sQ [oA 8 1 3, oL 9 8, o 10 (.len 1 Q9), o 11 (.bin .gtr Q10 (kI 0) tI)] (.cond Q11 (.ops [oA 12 1 3, oL 13 12, o 14 (.slice 1 Q13 (some (kI 1)) none none), oA 15 1 3, oS 1 15 14]) .skip)) (sQ [o 16 (.load true 3 Q3), oS 3 2 16] .ret))))⟩
theorem F20_ok : compF Tryz.prog 20 = some F20 := by kernel_rfl
def F21 : FC := ⟨31, [.cell 2 true 7], (sQ [o 1 (.box Q0), o 2 (.alloc zaZ)] (.seq (.block 0 (.loop (.seq (sQ [oA 4 2 1, oA 5 0 4, oL 6 5, o 7 (.bin .eql Q6 (kI 19) tI), oM 8 7, og 9 (.fieldAddr 2 Q1) 8 false, og 10 (.fieldAddr 0 Q9) 8 false, og 11 (.load false 1 Q10) 8 false, og 12 (.bin .eql Q11 (kI 20) tI) 8 false, o 13 (.pick Q8 kT Q12)] (.cond Q13 .skip (.exit 0)))
 (.block 1 (sQ [oA 14 2 1, oA 15 4 14, oL 16 15, o 17 (.indexAddr 7 Q16 (kI 0)), o 18 (.load true 7 Q17), o 3 (.alloc zaZ), oS 7 3 18] (.seq (sQ [oA 19 2 1, oA 20 0 19, oL 21 20, o 22 (.bin .eql Q21 (kI 19) tI)] (.cond Q22 (.ops [oA 23 1 1, oL 24 23, oA 25 1 3, oS 1 25 24]) .skip)) (sQ [oA 26 0 1, oL 27 26, oA 28 0 3, oS 1 28 27] (.ops [o 29 (.load true 7 Q3), oS 7 1 29]))))))))
 (sQ [o 30 (.load true 7 Q1), oS 7 2 30] .ret)))⟩
theorem F21_ok : compF Tryz.prog 21 = some F21 := by kernel_rfl
def F22 : FC := ⟨24, [.cell 2 true 7], (sQ [o 1 (.box Q0), o 2 (.alloc zaZ)] (sQ [o 3 (.mov (.const (.slice none 0 0)))] (.seq (sQ [oA 6 2 1, oA 7 4 6, oL 8 7, o 9 (.len 1 Q8), o 10 (.mov (kI 0))] (.block 0 (.loop (sQ [o 11 (.bin .lss Q10 Q9 tI)] (.seq (.cond Q11 .skip (.exit 0)) (.seq (.block 1 (sQ [o 12 (.indexAddr 7 Q8 Q10), o 13 (.load true 7 Q12), o 5 (.alloc zaZ), oS 7 5 13]
 (.ops [oM 14 3, o 15 (.load true 7 Q5), o 16 (.call 22 [Q15]), o 17 (.buildSlice 7 1 zaZ [(0, 7, Q16)]), o 18 (.append 7 80 Q14 Q17), oM 3 18]))) (.ops [o 19 (.bin .add Q10 (kI 1) tI), oM 10 19]))))))) (sQ [oM 20 3, oA 21 2 1, oA 22 4 21, oS 1 22 20] (sQ [o 23 (.load true 7 Q1), oS 7 2 23] .ret)))))⟩
theorem F22_ok : compF Tryz.prog 22 = some F22 := by kernel_rfl
def F23 : FC := ⟨33, [.cell 2 true 5, .tmp 3], (sQ [o 2 (.alloc [.int .i64 0, .int .i64 0, .int .i64 0, .int .i64 0, .slice none 0 0]), o 3 (.mov kF)] (sQ [oM 7 0, o 8 (.indexAddr 7 Q7 (kI 0)), oA 9 2 8, oA 10 0 9, oL 11 10, oM 4 11] (.seq (sQ [oM 12 0, o 13 (.len 1 Q12), o 14 (.mov (kI 0))] (.block 0 (.loop (sQ [o 15 (.bin .lss Q14 Q13 tI)] (.seq (.cond Q15 .skip (.exit 0))
 (.seq (.block 1 (sQ [o 16 (.indexAddr 7 Q12 Q14), o 17 (.load true 7 Q16), o 6 (.alloc zaZ), oS 7 6 17] (sQ [oA 18 2 6, oA 19 0 18, oL 20 19, oM 21 4, o 22 (.bin .neq Q20 Q21 tI)] (.cond Q22 (sQ [o 23 (.build [.int .i64 0, .int .i64 0, .int .i64 0, .int .i64 0, .slice none 0 0] []), oS 5 2 23, o 3 (.mov kF)] .ret) .skip)))) (.ops [o 24 (.bin .add Q14 (kI 1) tI), oM 14 24])))))))
 (sQ [oM 25 4, o 26 (.build [.int .i64 0, .int .i64 0, .int .i64 0, .int .i64 0, .slice none 0 0] [(0, 1, Q25)]), oM 27 4, o 28 (.call 59 [Q27]), oM 29 28, og 30 (.mov Q4) 29 false, og 31 (.bin .eql Q30 (kI 11) tI) 29 false, o 32 (.pick Q29 kT Q31), oS 5 2 26, oM 3 32] .ret))))⟩
theorem F23_ok : compF Tryz.prog 23 = some F23 := by kernel_rfl
def F24 : FC := ⟨14, [.tmp 2], (sQ [o 2 (.mov kF)] (.seq (sQ [oM 5 0, o 6 (.len 1 Q5), o 7 (.mov (kI 0))] (.block 0 (.loop (sQ [o 8 (.bin .lss Q7 Q6 tI)] (.seq (.cond Q8 .skip (.exit 0)) (.seq (.block 1 (sQ [o 9 (.indexAddr 7 Q5 Q7), o 10 (.load true 7 Q9), o 4 (.alloc zaZ), oS 7 4 10] (sQ [oA 11 1 4, oL 12 11] (.cond Q12 (sQ [o 2 (.mov kT)] .ret) .skip))))
 (.ops [o 13 (.bin .add Q7 (kI 1) tI), oM 7 13]))))))) (sQ [o 2 (.mov kF)] .ret)))⟩
theorem F24_ok : compF Tryz.prog 24 = some F24 := by kernel_rfl
def F25 : FC := ⟨4, [.tmp 2], (sQ [o 1 (.box Q0), o 2 (.mov (.const .nilFunc))] (sQ [o 3 (.mkFunc (.func 60) [] [Q1]), oM 2 3] .ret))⟩
theorem F25_ok : compF Tryz.prog 25 = some F25 := by kernel_rfl
def F26 : FC := ⟨18, [.cell 2 true 5, .tmp 3], (sQ [o 2 (.alloc [.int .i64 0, .int .i64 0, .int .i64 0, .int .i64 0, .slice none 0 0]), o 3 (.mov kF)] (sQ [oM 7 0, o 8 (.call 23 [Q7]), oM 6 8, o 9 (.extract Q6 0), o 10 (.extract Q6 1), o 4 (.alloc [.int .i64 0, .int .i64 0, .int .i64 0, .int .i64 0, .slice none 0 0]), oS 5 4 9, oM 5 10]
 (sQ [o 11 (.load true 5 Q4), oM 12 5, oM 13 12, og 14 (.fieldAddr 0 Q4) 13 true, og 15 (.load false 1 Q14) 13 true, og 16 (.call 59 [Q15]) 13 true, ⟨none, .again 11 true 5 Q4, none⟩, o 17 (.pick Q13 Q16 kF), oS 5 2 11, oM 3 17] .ret)))⟩
theorem F26_ok : compF Tryz.prog 26 = some F26 := by kernel_rfl
def F27 : FC := ⟨23, [.cell 2 true 5, .tmp 3], (sQ [o 2 (.alloc [.int .i64 0, .int .i64 0, .int .i64 0, .int .i64 0, .slice none 0 0]), o 3 (.mov kF)] (sQ [oM 7 0, o 8 (.call 23 [Q7]), oM 6 8, o 9 (.extract Q6 0), o 10 (.extract Q6 1), o 4 (.alloc [.int .i64 0, .int .i64 0, .int .i64 0, .int .i64 0, .slice none 0 0]), oS 5 4 9, oM 5 10]
 (sQ [o 11 (.load true 5 Q4), oM 12 5, oM 13 12, og 14 (.fieldAddr 0 Q4) 13 true, og 15 (.load false 1 Q14) 13 true, og 16 (.call 63 [Q15]) 13 true, ⟨none, .again 11 true 5 Q4, none⟩, og 17 (.mov Q16) 13 true, og 18 (.fieldAddr 0 Q4) 17 false, og 19 (.load false 1 Q18) 17 false, og 20 (.bin .eql Q19 (kI 11) tI) 17 false, og 21 (.pick Q17 kT Q20) 13 true, o 22 (.pick Q13 Q21 kF), oS 5 2 11, ⟨none, .again 19 false 1 Q18, some (17, false)⟩, oM 3 22]
 .ret)))⟩
theorem F27_ok : compF Tryz.prog 27 = some F27 := by kernel_rfl
def F29 : FC := ⟨14, [.cell 2 true 5, .tmp 3], (sQ [o 2 (.alloc [.int .i64 0, .int .i64 0, .int .i64 0, .int .i64 0, .slice none 0 0]), o 3 (.mov kF)]
 (sQ [o 4 (.build [.int .i64 0, .int .i64 0, .int .i64 0, .int .i64 0, .slice none 0 0] [(0, 1, (kI 2))]), oM 5 0, o 6 (.indexAddr 7 Q5 (kI 0)), oA 7 2 6, o 8 (.load true 5 Q7), oM 9 0, o 10 (.indexAddr 7 Q9 (kI 1)), oA 11 2 10, o 12 (.load true 5 Q11), o 13 (.call 64 [Q8, Q12]), oS 5 2 4, oM 3 13] .ret))⟩
theorem F29_ok : compF Tryz.prog 29 = some F29 := by kernel_rfl
def F30 : FC := ⟨4, [.tmp 2], (sQ [o 1 (.box Q0), o 2 (.mov (.const .nilFunc))] (sQ [o 3 (.mkFunc (.func 65) [] [Q1]), oM 2 3] .ret))⟩
theorem F30_ok : compF Tryz.prog 30 = some F30 := by kernel_rfl
def F31 : FC := ⟨19, [.cell 2 true 5, .tmp 3], (sQ [o 2 (.alloc [.int .i64 0, .int .i64 0, .int .i64 0, .int .i64 0, .slice none 0 0]), o 3 (.mov kF)] (.seq (sQ [oM 6 0, o 7 (.len 1 Q6), o 8 (.mov (kI 0))] (.block 0 (.loop (sQ [o 9 (.bin .lss Q8 Q7 tI)] (.seq (.cond Q9 .skip (.exit 0)) (.seq (.block 1 (sQ [o 10 (.indexAddr 7 Q6 Q8), o 11 (.load true 7 Q10), o 5 (.alloc zaZ), oS 7 5 11]
 (sQ [oA 12 2 5, oA 13 0 12, oL 14 13, o 15 (.bin .neq Q14 (kI 2) tI)] (.cond Q15 (sQ [o 16 (.build [.int .i64 0, .int .i64 0, .int .i64 0, .int .i64 0, .slice none 0 0] []), oS 5 2 16, o 3 (.mov kF)] .ret) .skip)))) (.ops [o 17 (.bin .add Q8 (kI 1) tI), oM 8 17])))))))
 (sQ [o 18 (.build [.int .i64 0, .int .i64 0, .int .i64 0, .int .i64 0, .slice none 0 0] [(0, 1, (kI 2))]), oS 5 2 18, o 3 (.mov kT)] .ret)))⟩
theorem F31_ok : compF Tryz.prog 31 = some F31 := by kernel_rfl
def F32 : FC := ⟨9, [.tmp 2], (sQ [o 2 (.mov (.const .nilFunc))] (sQ [oM 4 0, o 5 (.un .not Q4), o 6 (.call 67 [Q5]), o 7 (.field false 1 1 Q6), o 3 (.alloc [.int .i64 0]), oS 1 3 7] (sQ [o 8 (.mkFunc (.func 68) [] [Q3]), oM 2 8] .ret)))⟩
theorem F32_ok : compF Tryz.prog 32 = some F32 := by kernel_rfl
def F34 : FC := ⟨5, [.cell 2 true 5, .tmp 3], (sQ [o 2 (.alloc [.int .i64 0, .int .i64 0, .int .i64 0, .int .i64 0, .slice none 0 0]), o 3 (.mov kF)] (sQ [o 4 (.build [.int .i64 0, .int .i64 0, .int .i64 0, .int .i64 0, .slice none 0 0] [(0, 1, (kI 2))]), oS 5 2 4, o 3 (.mov kT)] .ret))⟩
theorem F34_ok : compF Tryz.prog 34 = some F34 := by kernel_rfl
def F35 : FC := ⟨3, [.tmp 2], (sQ [o 2 (.mov kF)] (sQ [o 2 (.mov kF)] .ret))⟩
theorem F35_ok : compF Tryz.prog 35 = some F35 := by kernel_rfl
def F37 : FC := ⟨17, [.cell 2 true 5, .tmp 3], (sQ [o 2 (.alloc [.int .i64 0, .int .i64 0, .int .i64 0, .int .i64 0, .slice none 0 0]), o 3 (.mov kF)]
 (sQ [oM 4 0, o 5 (.indexAddr 7 Q4 (kI 0)), oA 6 2 5, o 7 (.load true 5 Q6), oM 8 0, o 9 (.indexAddr 7 Q8 (kI 0)), oA 10 2 9, o 11 (.load true 5 Q10), oM 12 0, o 13 (.indexAddr 7 Q12 (kI 1)), oA 14 2 13, o 15 (.load true 5 Q14), o 16 (.call 64 [Q11, Q15]), ⟨none, .again 7 true 5 Q6, none⟩, oS 5 2 7, oM 3 16] .ret))⟩
theorem F37_ok : compF Tryz.prog 37 = some F37 := by kernel_rfl
def F38 : FC := ⟨13, [.tmp 2], (sQ [o 2 (.mov kF)] (sQ [oM 3 0, o 4 (.indexAddr 7 Q3 (kI 0)), oA 5 1 4, oL 6 5, oM 7 6, og 8 (.mov Q0) 7 true, og 9 (.indexAddr 7 Q8 (kI 1)) 7 true, og 10 (.fieldAddr 1 Q9) 7 true, og 11 (.load false 1 Q10) 7 true, o 12 (.pick Q7 Q11 kF), oM 2 12] .ret))⟩
theorem F38_ok : compF Tryz.prog 38 = some F38 := by kernel_rfl
def F40 : FC := ⟨22, [.cell 2 true 5, .tmp 3], (sQ [o 2 (.alloc [.int .i64 0, .int .i64 0, .int .i64 0, .int .i64 0, .slice none 0 0]), o 3 (.mov kF)] (sQ [oM 7 0, o 8 (.slice 7 Q7 (some (kI 1)) none none), o 9 (.call 37 [Q8]), oM 6 9, o 10 (.extract Q6 0), o 11 (.extract Q6 1), o 4 (.alloc [.int .i64 0, .int .i64 0, .int .i64 0, .int .i64 0, .slice none 0 0]), oS 5 4 10, oM 5 11]
 (sQ [o 12 (.load true 5 Q4), oM 13 5, oM 14 13, og 15 (.mov Q0) 14 true, og 16 (.indexAddr 7 Q15 (kI 0)) 14 true, og 17 (.fieldAddr 2 Q16) 14 true, og 18 (.fieldAddr 0 Q17) 14 true, og 19 (.load false 1 Q18) 14 true, og 20 (.bin .eql Q19 (kI 2) tI) 14 true, o 21 (.pick Q14 Q20 kF), oS 5 2 12, ⟨none, .again 19 false 1 Q18, some (14, true)⟩, oM 3 21] .ret)))⟩
theorem F40_ok : compF Tryz.prog 40 = some F40 := by kernel_rfl
def F41 : FC := ⟨6, [.tmp 2], (sQ [o 2 (.mov kF)] (sQ [oM 3 0, o 4 (.slice 7 Q3 (some (kI 1)) none none), o 5 (.call 24 [Q4]), oM 2 5] .ret))⟩
theorem F41_ok : compF Tryz.prog 41 = some F41 := by kernel_rfl
def F43 : FC := ⟨29, [.cell 2 true 5, .tmp 3], (sQ [o 2 (.alloc [.int .i64 0, .int .i64 0, .int .i64 0, .int .i64 0, .slice none 0 0]), o 3 (.mov kF)]
 (sQ [oM 4 0, o 5 (.indexAddr 7 Q4 (kI 0)), oA 6 2 5, oA 7 0 6, oL 8 7, o 9 (.build [.int .i64 0, .int .i64 0, .int .i64 0, .int .i64 0, .slice none 0 0] [(0, 1, Q8)]), oM 10 0, o 11 (.indexAddr 7 Q10 (kI 0)), oA 12 2 11, oA 13 0 12, oL 14 13, o 15 (.call 69 [Q14]), ⟨none, .again 8 false 1 Q7, none⟩, oM 16 15, og 17 (.mov Q0) 16 true, og 18 (.indexAddr 7 Q17 (kI 0)) 16 true, og 19 (.fieldAddr 2 Q18) 16 true, og 20 (.fieldAddr 0 Q19) 16 true, og 21 (.load false 1 Q20) 16 true, og 22 (.mov Q0) 16 true, og 23 (.indexAddr 7 Q22 (kI 1)) 16 true, og 24 (.fieldAddr 2 Q23) 16 true, og 25 (.fieldAddr 0 Q24) 16 true, og 26 (.load false 1 Q25) 16 true, og 27 (.bin .eql Q21 Q26 tI) 16 true, o 28 (.pick Q16 Q27 kF), oS 5 2 9, ⟨none, .again 26 false 1 Q25, some (16, true)⟩, ⟨none, .again 21 false 1 Q20, some (16, true)⟩, oM 3 28]
 .ret))⟩
theorem F43_ok : compF Tryz.prog 43 = some F43 := by kernel_rfl
def F45 : FC := ⟨17, [.cell 2 true 5, .tmp 3], (sQ [o 2 (.alloc [.int .i64 0, .int .i64 0, .int .i64 0, .int .i64 0, .slice none 0 0]), o 3 (.mov kF)] (.seq (sQ [oM 4 0, o 5 (.indexAddr 7 Q4 (kI 0)), oA 6 2 5, oA 7 0 6, oL 8 7] (.block 0 (.seq (sQ [o 10 (.bin .eql Q8 (kI 12) tI), oM 9 10] (.cond Q9 .skip (sQ [o 11 (.bin .eql Q8 (kI 13) tI), oM 9 11] (.cond Q9 .skip
 (sQ [o 12 (.bin .eql Q8 (kI 14) tI), oM 9 12] (.cond Q9 .skip (sQ [o 13 (.bin .eql Q8 (kI 15) tI), oM 9 13] (.cond Q9 .skip (.ops [o 14 (.bin .eql Q8 (kI 16) tI), oM 9 14]))))))))) (.cond Q9 (sQ [o 15 (.build [.int .i64 0, .int .i64 0, .int .i64 0, .int .i64 0, .slice none 0 0] [(0, 1, (kI 6))]), oS 5 2 15, o 3 (.mov kT)] .ret) .skip))))
 (sQ [o 16 (.build [.int .i64 0, .int .i64 0, .int .i64 0, .int .i64 0, .slice none 0 0] []), oS 5 2 16, o 3 (.mov kF)] .ret)))⟩
theorem F45_ok : compF Tryz.prog 45 = some F45 := by kernel_rfl
def F47 : FC := ⟨13, [.cell 2 true 5, .tmp 3], (sQ [o 2 (.alloc [.int .i64 0, .int .i64 0, .int .i64 0, .int .i64 0, .slice none 0 0]), o 3 (.mov kF)] (sQ [oM 7 0, o 8 (.call 43 [Q7]), oM 6 8, o 9 (.extract Q6 0), o 10 (.extract Q6 1), o 4 (.alloc [.int .i64 0, .int .i64 0, .int .i64 0, .int .i64 0, .slice none 0 0]), oS 5 4 9, oM 5 10]
 (sQ [o 11 (.build [.int .i64 0, .int .i64 0, .int .i64 0, .int .i64 0, .slice none 0 0] [(0, 1, (kI 2))]), oM 12 5, oS 5 2 11, oM 3 12] .ret)))⟩
theorem F47_ok : compF Tryz.prog 47 = some F47 := by kernel_rfl
def F48 : FC := ⟨4, [.tmp 2], (sQ [o 1 (.box Q0), o 2 (.mov (.const .nilFunc))] (sQ [o 3 (.mkFunc (.func 70) [] [Q1]), oM 2 3] .ret))⟩
theorem F48_ok : compF Tryz.prog 48 = some F48 := by kernel_rfl
def F49 : FC := ⟨17, [.cell 2 true 3], (sQ [o 1 (.box Q0), o 2 (.alloc [.int .i64 0, .slice none 0 0, .int .i64 0])] (sQ [o 4 (.load true 7 Q1), o 5 (.buildSlice 7 1 zaZ [(0, 7, Q4)]), o 6 (.build [.slice none 0 0, .slice none 0 0] [(0, 1, Q5)]), o 7 (.call 73 [Q6]), o 3 (.alloc [.int .i64 0, .slice none 0 0, .int .i64 0]), oS 3 3 7]
 (.seq (sQ [oA 8 1 3, oL 9 8, o 10 (.len 1 Q9), o 11 (.bin .gtr Q10 (kI 0) tI)] (.cond Q11 (.ops [oA 12 1 3, oL 13 12, o 14 (.slice 1 Q13 (some (kI 1)) none none), oA 15 1 3, oS 1 15 14]) .skip)) (sQ [o 16 (.load true 3 Q3), oS 3 2 16] .ret))))⟩
theorem F49_ok : compF Tryz.prog 49 = some F49 := by kernel_rfl
def F50 : FC := ⟨6, [.tmp 2], (sQ [o 1 (.box Q0), o 2 (.mov kF)] (sQ [o 3 (.load true 5 Q1), o 4 (.call 52 [Q3]), o 5 (.call 11 [Q4]), oM 2 5] .ret))⟩
theorem F50_ok : compF Tryz.prog 50 = some F50 := by kernel_rfl
def F51 : FC := ⟨73, [.tmp 6], (sQ [o 6 (.mov kF)] (sQ [oM 11 0, o 12 (.call 74 [Q11, (.const (.slice none 0 0)), kF, (.const (.slice none 0 0))]), oM 13 1, o 14 (.call 74 [Q13, (.const (.slice none 0 0)), kF, (.const (.slice none 0 0))]), oM 7 12, oM 8 14]
 (.seq (sQ [oM 15 0, o 16 (.len 1 Q15), oM 17 1, o 18 (.len 1 Q17), o 19 (.bin .neq Q16 Q18 tI), oM 20 19, og 21 (.mov Q7) 20 false, og 22 (.len 1 Q21) 20 false, og 23 (.mov Q8) 20 false, og 24 (.len 1 Q23) 20 false, og 25 (.bin .neq Q22 Q24 tI) 20 false, o 26 (.pick Q20 kT Q25)] (.cond Q26 (sQ [o 6 (.mov kF)] .ret) .skip)) (.seq (sQ [oM 27 7, o 28 (.len 1 Q27), o 29 (.mov (kI 0))]
 (.block 0 (.loop (sQ [o 30 (.bin .lss Q29 Q28 tI)] (.seq (.cond Q30 .skip (.exit 0)) (.seq (.block 1 (sQ [oM 31 29, oM 9 31]
 (sQ [oM 32 2, oM 33 32, og 34 (.mov Q7) 33 false, og 35 (.mov Q9) 33 false, og 36 (.indexAddr 10 Q34 Q35) 33 false, og 37 (.fieldAddr 0 Q36) 33 false, og 38 (.load false 1 Q37) 33 false, og 39 (.len 1 Q38) 33 false, og 40 (.bin .gtr Q39 (kI 1) tI) 33 false, o 41 (.pick Q33 kT Q40), oM 10 41]
 (sQ [oM 42 7, oM 43 9, o 44 (.indexAddr 10 Q42 Q43), oA 45 1 44, o 46 (.load true 7 Q45), oM 47 8, oM 48 9, o 49 (.indexAddr 10 Q47 Q48), oA 50 1 49, o 51 (.load true 7 Q50), o 52 (.call 75 [Q46, Q51]), o 53 (.un .not Q52), oM 54 53, og 55 (.mov Q10) 54 false, og 56 (.mov Q55) 54 false, og 57 (.mov Q7) 56 true, og 58 (.mov Q9) 56 true, og 59 (.indexAddr 10 Q57 Q58) 56 true, og 60 (.fieldAddr 1 Q59) 56 true, og 61 (.fieldAddr 0 Q60) 56 true, og 62 (.load false 1 Q61) 56 true, og 63 (.mov Q8) 56 true, og 64 (.mov Q9) 56 true, og 65 (.indexAddr 10 Q63 Q64) 56 true, og 66 (.fieldAddr 1 Q65) 56 true, og 67 (.fieldAddr 0 Q66) 56 true, og 68 (.load false 1 Q67) 56 true, og 69 (.bin .neq Q62 Q68 (some .string)) 56 true, og 70 (.pick Q56 Q69 kF) 54 false, o 71 (.pick Q54 kT Q70)]
 (.cond Q71 (sQ [o 6 (.mov kF)] .ret) .skip))))) (.ops [o 72 (.bin .add Q29 (kI 1) tI), oM 29 72]))))))) (sQ [o 6 (.mov kT)] .ret)))))⟩
theorem F51_ok : compF Tryz.prog 51 = some F51 := by kernel_rfl
def F52 : FC := ⟨29, [.cell 2 true 7], (sQ [o 1 (.box Q0), o 2 (.alloc zaZ)] (sQ [o 4 (.load true 5 Q1), o 5 (.build zaZ [(0, 1, (.const (.string ⟨#[97]⟩))), (2, 5, Q4)]), o 3 (.alloc zaZ), oS 7 3 5]
 (sQ [oA 6 0 1, oL 7 6, o 8 (.bin .eql Q7 (kI 1) tI), oM 9 8, og 10 (.fieldAddr 0 Q1) 9 false, og 11 (.load false 1 Q10) 9 false, og 12 (.bin .eql Q11 (kI 20) tI) 9 false, og 13 (.mov Q12) 9 false, og 14 (.fieldAddr 4 Q1) 13 true, og 15 (.load false 1 Q14) 13 true, og 16 (.len 1 Q15) 13 true, og 17 (.bin .eql Q16 (kI 1) tI) 13 true, og 18 (.pick Q13 Q17 kF) 9 false, og 19 (.mov Q18) 9 false, og 20 (.fieldAddr 4 Q1) 19 true, og 21 (.load false 1 Q20) 19 true, og 22 (.indexAddr 7 Q21 (kI 0)) 19 true, og 23 (.fieldAddr 1 Q22) 19 true, og 24 (.load false 1 Q23) 19 true, og 25 (.pick Q19 Q24 kF) 9 false, o 26 (.pick Q9 kT Q25), oA 27 1 3, oS 1 27 26]
 (sQ [o 28 (.load true 7 Q3), oS 7 2 28] .ret))))⟩
theorem F52_ok : compF Tryz.prog 52 = some F52 := by kernel_rfl
def F53 : FC := ⟨10, [.cell 2 true 7], (sQ [o 1 (.box Q0), o 2 (.alloc zaZ)] (sQ [oA 3 2 1, oA 4 4 3, oL 5 4, o 6 (.call 16 [Q5]), oA 7 2 1, oA 8 4 7, oS 1 8 6] (sQ [o 9 (.load true 7 Q1), oS 7 2 9] .ret)))⟩
theorem F53_ok : compF Tryz.prog 53 = some F53 := by kernel_rfl
def F54 : FC := ⟨55, [.tmp 4, .tmp 5], (sQ [o 4 (.mov (.const (.slice none 0 0))), o 5 (.mov (kI 0))] (sQ [o 6 (.mov (.const (.slice none 0 0)))] (.seq (sQ [oM 13 1, o 14 (.len 1 Q13), o 15 (.mov (kI 0))] (.block 0 (.loop (sQ [o 16 (.bin .lss Q15 Q14 tI)] (.seq (.cond Q16 .skip (.exit 0))
 (.seq (.block 1 (sQ [oM 17 15, o 18 (.indexAddr 6 Q13 Q15), o 19 (.load true 6 Q18), o 8 (.alloc [.int .i64 0, .int .i64 0, .int .i64 0, .slice none 0 0, .slice none 0 0, .slice none 0 0]), oM 7 17, oS 6 8 19]
 (sQ [oM 21 0, oM 22 7, o 23 (.indexAddr 7 Q21 Q22), o 24 (.load true 7 Q23), o 25 (.load true 6 Q8), o 26 (.call 76 [Q24, Q25]), oM 20 26, o 27 (.extract Q20 0), o 28 (.extract Q20 1), oM 9 27, o 10 (.alloc [.int .i64 0, .slice none 0 0, .int .i64 0]), oS 3 10 28] (.seq (sQ [oA 29 0 10, oL 30 29, o 31 (.bin .neq Q30 (kI 0) tI)] (.cond Q31
 (sQ [oA 32 0 10, oL 33 32, o 4 (.mov (.const (.slice none 0 0))), oM 5 33] .ret) .skip)) (.ops [oM 34 6, oM 35 9, o 36 (.call 77 [Q35]), o 37 (.buildSlice 1 1 [.slice none 0 0] [(0, 1, Q36)]), o 38 (.append 1 24 Q34 Q37), oM 6 38]))))) (.ops [o 39 (.bin .add Q15 (kI 1) tI), oM 15 39]))))))) (.seq (sQ [oM 40 6, o 41 (.len 1 Q40), o 42 (.mov (kI 0))]
 (.block 2 (.loop (sQ [o 43 (.bin .lss Q42 Q41 tI)] (.seq (.cond Q43 .skip (.exit 2)) (.seq (.block 3 (sQ [o 44 (.indexAddr 1 Q40 Q42), oL 45 44, oM 12 45] (sQ [oM 46 12, o 47 (.len 1 Q46), oM 48 6, o 49 (.indexAddr 1 Q48 (kI 0)), oL 50 49, o 51 (.len 1 Q50), o 52 (.bin .neq Q47 Q51 tI)] (.cond Q52 (sQ [o 4 (.mov (.const (.slice none 0 0))), o 5 (.mov (kI 6))] .ret) .skip))))
 (.ops [o 53 (.bin .add Q42 (kI 1) tI), oM 42 53]))))))) (sQ [oM 54 6, oM 4 54, o 5 (.mov (kI 0))] .ret)))))⟩
theorem F54_ok : compF Tryz.prog 54 = some F54 := by kernel_rfl
def F55 : FC := ⟨14, [.tmp 2], (sQ [o 2 (.mov kF)] (.seq (sQ [oM 5 0, o 6 (.len 1 Q5), o 7 (.mov (kI 0))] (.block 0 (.loop (sQ [o 8 (.bin .lss Q7 Q6 tI)] (.seq (.cond Q8 .skip (.exit 0)) (.seq (.block 1 (sQ [o 9 (.indexAddr 4 Q5 Q7), o 10 (.load true 4 Q9), o 4 (.alloc zcZ), oS 4 4 10] (sQ [oA 11 0 4, oL 12 11] (.cond Q12 (sQ [o 2 (.mov kT)] .ret) .skip))))
 (.ops [o 13 (.bin .add Q7 (kI 1) tI), oM 7 13]))))))) (sQ [o 2 (.mov kF)] .ret)))⟩
theorem F55_ok : compF Tryz.prog 55 = some F55 := by kernel_rfl
def F56 : FC := ⟨45, [.cell 4 true 6, .tmp 5, .tmp 6], (sQ [o 2 (.box Q0), o 4 (.alloc [.int .i64 0, .int .i64 0, .int .i64 0, .slice none 0 0, .slice none 0 0, .slice none 0 0]), o 5 (.mov (kI 0)), o 6 (.mov (kI 0))] (sQ [o 15 (.load true 7 Q2), o 16 (.call 78 [Q15]), oM 14 16, o 17 (.extract Q14 0), o 18 (.extract Q14 1), oM 7 17, oM 8 18] (.seq (sQ [oM 19 8, o 20 (.bin .neq Q19 (kI 0) tI)]
 (.cond Q20 (sQ [o 21 (.build [.int .i64 0, .int .i64 0, .int .i64 0, .slice none 0 0, .slice none 0 0, .slice none 0 0] []), oM 22 8, oS 6 4 21, oM 5 22, o 6 (.mov (kI 0))] .ret) .skip)) (.seq (sQ [oM 23 1, o 24 (.len 1 Q23), o 25 (.mov (kI 0))] (.block 0 (.loop (sQ [o 26 (.bin .lss Q25 Q24 tI)] (.seq (.cond Q26 .skip (.exit 0))
 (.seq (.block 1 (sQ [oM 27 25, o 28 (.indexAddr 4 Q23 Q25), o 29 (.load true 4 Q28), o 10 (.alloc zcZ), oM 9 27, oS 4 10 29] (sQ [oM 30 7, o 31 (.load true 4 Q10), o 32 (.call 79 [Q30, Q31]), oM 11 32] (sQ [oM 33 11, o 34 (.bin .neq Q33 (kI 0) tI)] (.cond Q34
 (sQ [o 35 (.build [.int .i64 0, .int .i64 0, .int .i64 0, .slice none 0 0, .slice none 0 0, .slice none 0 0] []), oM 36 11, oM 37 9, oS 6 4 35, oM 5 36, oM 6 37] .ret) .skip))))) (.ops [o 38 (.bin .add Q25 (kI 1) tI), oM 25 38])))))))
 (sQ [oM 40 7, o 41 (.call 80 [Q40]), oM 39 41, o 42 (.extract Q39 0), o 43 (.extract Q39 1), o 12 (.alloc [.int .i64 0, .int .i64 0, .int .i64 0, .slice none 0 0, .slice none 0 0, .slice none 0 0]), oS 6 12 42, oM 13 43] (sQ [o 44 (.load true 6 Q12), oS 6 4 44, o 5 (.mov (kI 0)), o 6 (.mov (kI 0))] .ret))))))⟩
theorem F56_ok : compF Tryz.prog 56 = some F56 := by kernel_rfl
def F57 : FC := ⟨27, [.tmp 4], (sQ [o 4 (.mov kF)] (.seq (sQ [oM 6 0, o 7 (.len 1 Q6), oM 8 1, o 9 (.len 1 Q8), o 10 (.bin .neq Q7 Q9 tI)] (.cond Q10 (sQ [o 4 (.mov kF)] .ret) .skip)) (.seq (sQ [o 5 (.mov (kI 0))] (.block 0 (.loop (.seq (sQ [oM 11 5, oM 12 0, o 13 (.len 1 Q12), o 14 (.bin .lss Q11 Q13 tI)] (.cond Q14 .skip (.exit 0)))
 (.seq (.block 1 (sQ [oM 17 0, oM 18 5, o 19 (.indexAddr 6 Q17 Q18), o 20 (.load true 6 Q19), oM 21 1, oM 22 5, o 23 (.indexAddr 6 Q21 Q22), o 24 (.load true 6 Q23), o 25 (.call 19 [Q20, Q24]), o 26 (.un .not Q25)] (.cond Q26 (sQ [o 4 (.mov kF)] .ret) .skip))) (.ops [oM 15 5, o 16 (.bin .add Q15 (kI 1) tI), oM 5 16])))))) (sQ [o 4 (.mov kT)] .ret))))⟩
theorem F57_ok : compF Tryz.prog 57 = some F57 := by kernel_rfl
def F58 : FC := ⟨71, [.cell 2 true 3], (sQ [o 1 (.box Q0), o 2 (.alloc [.int .i64 0, .slice none 0 0, .int .i64 0])] (.seq (.block 0 (sQ [oA 10 0 1, oL 11 10, o 12 (.len 1 Q11), o 13 (.bin .gtr Q12 (kI 32) tI), oM 9 13] (.cond Q9 (sQ [o 14 (.build [.int .i64 0, .slice none 0 0, .int .i64 0] [(0, 1, (kI 34)), (2, 1, (kI 32))]), oS 3 2 14] .ret)
 (sQ [oA 16 1 1, oL 17 16, o 18 (.len 1 Q17), o 19 (.bin .gtr Q18 (kI 16) tI), oM 15 19] (.cond Q15 (sQ [o 20 (.build [.int .i64 0, .slice none 0 0, .int .i64 0] [(0, 1, (kI 34)), (2, 1, (kI 16))]), oS 3 2 20] .ret) .skip))))) (.seq (sQ [oA 21 1 1, oL 22 21, o 23 (.len 1 Q22), o 24 (.mov (kI 0))] (.block 1 (.loop (sQ [o 25 (.bin .lss Q24 Q23 tI)] (.seq (.cond Q25 .skip (.exit 1))
 (.seq (.block 2 (sQ [oM 26 24, o 27 (.indexAddr 2 Q22 Q24), o 28 (.load true 2 Q27), o 4 (.alloc [(.string ⟨#[]⟩), (.string ⟨#[]⟩)]), oM 3 26, oS 2 4 28]
 (sQ [oA 29 0 4, oL 30 29, o 31 (.len 0 Q30), o 32 (.bin .gtr Q31 (kI 256) tI), oM 33 32, og 34 (.fieldAddr 1 Q4) 33 false, og 35 (.load false 1 Q34) 33 false, og 36 (.len 0 Q35) 33 false, og 37 (.bin .gtr Q36 (kI 256) tI) 33 false, o 38 (.pick Q33 kT Q37)] (.cond Q38 (sQ [oM 39 3, o 40 (.build [.int .i64 0, .slice none 0 0, .int .i64 0] [(0, 1, (kI 37)), (2, 1, Q39)]), oS 3 2 40] .ret) .skip))))
 (.ops [o 41 (.bin .add Q24 (kI 1) tI), oM 24 41]))))))) (sQ [o 5 (.alloc [.int .i64 0]), ⟨none, .store 1 Q5 (kI 0), none⟩] (sQ [o 42 (.mkMap), o 6 (.alloc [.map none]), oS 1 6 42] (.seq (sQ [oA 43 0 1, oL 44 43, o 45 (.call 81 [Q44, (kI 65)])] (.block 3 (.rf Q45 [46] (.ops [o 7 (.alloc zdZ), oS 10 7 46])
 (.block 4 (.seq (sQ [o 47 (.load true 10 Q7), oL 48 5, oL 49 6, o 50 (.call 82 [Q47, Q48, Q49]), oM 8 50] (sQ [oM 51 8, o 52 (.bin .neq Q51 (kI 0) tI)] (.cond Q52 (sQ [oM 53 8, oA 54 0 7, oL 55 54, o 56 (.build [.int .i64 0, .slice none 0 0, .int .i64 0] [(0, 1, Q53), (1, 1, Q55)]), oS 3 2 56] .ret) .skip))) (sQ [oL 57 5, o 58 (.bin .add Q57 (kI 1) tI), oS 1 5 58]
 (sQ [oA 59 2 7, oA 60 2 59, oA 61 0 60, oL 62 61, o 63 (.bin .eql Q62 (kI 19) tI)] (.cond Q63 (.ops [oL 64 6, oA 65 2 7, oA 66 2 65, oA 67 2 66, oL 68 67, oL 69 5, ⟨none, .mapSet 0 Q64 Q68 Q69, none⟩]) .skip)))))))) (sQ [o 70 (.build [.int .i64 0, .slice none 0 0, .int .i64 0] []), oS 3 2 70] .ret)))))))⟩
theorem F58_ok : compF Tryz.prog 58 = some F58 := by kernel_rfl
def F59 : FC := ⟨9, [.tmp 2], (sQ [o 2 (.mov kF)] (sQ [oM 3 0, o 4 (.bin .geq Q3 (kI 3) tI), oM 5 4, og 6 (.mov Q0) 5 true, og 7 (.bin .leq Q6 (kI 10) tI) 5 true, o 8 (.pick Q5 Q7 kF), oM 2 8] .ret))⟩
theorem F59_ok : compF Tryz.prog 59 = some F59 := by kernel_rfl
def F60 : FC := ⟨38, [.cell 5 true 4, .tmp 6], (sQ [o 5 (.alloc zcZ), o 6 (.mov (kI 0))] (.seq (sQ [oM 8 0, o 9 (.indexAddr 7 Q8 (kI 0)), oA 10 2 9, oA 11 0 10, oL 12 11, oM 7 12] (sQ [oM 13 7, o 14 (.bin .neq Q13 (kI 11) tI)] (.cond Q14
 (sQ [oL 15 2, oM 16 7, oM 17 1, o 18 (.indexAddr 4 Q17 (kI 0)), oA 19 1 18, oL 20 19, oM 21 1, o 22 (.indexAddr 4 Q21 (kI 1)), oA 23 1 22, oL 24 23, o 25 (.call 61 [Q15, Q16, Q20, Q24]), o 26 (.extract Q25 0), o 27 (.extract Q25 1), oS 4 5 26, oM 6 27] .ret) .skip)))
 (sQ [oL 28 2, oM 29 1, o 30 (.indexAddr 4 Q29 (kI 0)), oA 31 1 30, oL 32 31, oM 33 1, o 34 (.indexAddr 4 Q33 (kI 1)), oA 35 1 34, oL 36 35, o 37 (.call 62 [Q28, Q32, Q36]), oS 4 5 37, o 6 (.mov (kI 0))] .ret)))⟩
theorem F60_ok : compF Tryz.prog 60 = some F60 := by kernel_rfl
def F61 : FC := ⟨68, [.cell 8 true 4, .tmp 9], (sQ [o 8 (.alloc zcZ), o 9 (.mov (kI 0))] (sQ [oM 13 1, oM 14 2, o 15 (.call 83 [Q13, Q14]), oM 16 1, oM 17 3, o 18 (.call 83 [Q16, Q17]), o 19 (.alloc [.bool false, .slice none 0 0]), oM 10 15, oM 11 18, oM 12 19]
 (.seq (sQ [oM 20 0, o 21 (.bin .eql Q20 (kI 4) tI), oM 22 21, og 23 (.mov Q0) 22 false, og 24 (.bin .eql Q23 (kI 5) tI) 22 false, o 25 (.pick Q22 kT Q24), oM 26 25, og 27 (.mov Q11) 26 true, og 28 (.call 84 [Q27]) 26 true, og 29 (.bin .eql Q28 (kI 0) tI) 26 true, o 30 (.pick Q26 Q29 kF)] (.cond Q30 (sQ [o 31 (.build zcZ []), oS 4 8 31, o 9 (.mov (kI 171))] .ret) .skip)) (.seq (sQ [oM 32 0]
 (.block 0 (sQ [o 34 (.bin .eql Q32 (kI 1) tI), oM 33 34] (.cond Q33 (.ops [oM 35 12, oM 36 10, oM 37 11, o 38 (.call 85 [Q35, Q36, Q37])]) (sQ [o 40 (.bin .eql Q32 (kI 2) tI), oM 39 40] (.cond Q39 (.ops [oM 41 12, oM 42 10, oM 43 11, o 44 (.call 86 [Q41, Q42, Q43])]) (sQ [o 46 (.bin .eql Q32 (kI 3) tI), oM 45 46] (.cond Q45 (.ops [oM 47 12, oM 48 10, oM 49 11, o 50 (.call 87 [Q47, Q48, Q49])])
 (sQ [o 52 (.bin .eql Q32 (kI 4) tI), oM 51 52] (.cond Q51 (.ops [oM 53 12, oM 54 10, oM 55 11, o 56 (.call 88 [Q53, Q54, Q55])]) (sQ [o 58 (.bin .eql Q32 (kI 5) tI), oM 57 58] (.cond Q57 (.ops [oM 59 12, oM 60 10, oM 61 11, o 62 (.call 89 [Q59, Q60, Q61])]) .skip)))))))))))) (sQ [oM 63 1, oM 64 12, o 65 (.call 90 [Q63, Q64]), o 66 (.extract Q65 0), o 67 (.extract Q65 1), oS 4 8 66, oM 9 67]
 .ret)))))⟩
theorem F61_ok : compF Tryz.prog 61 = some F61 := by kernel_rfl
def F63 : FC := ⟨9, [.tmp 2], (sQ [o 2 (.mov kF)] (sQ [oM 3 0, o 4 (.bin .geq Q3 (kI 3) tI), oM 5 4, og 6 (.mov Q0) 5 true, og 7 (.bin .leq Q6 (kI 6) tI) 5 true, o 8 (.pick Q5 Q7 kF), oM 2 8] .ret))⟩
theorem F63_ok : compF Tryz.prog 63 = some F63 := by kernel_rfl
def F64 : FC := ⟨16, [.tmp 4], (sQ [o 2 (.box Q0), o 3 (.box Q1), o 4 (.mov kF)] (sQ [o 5 (.load true 5 Q2), o 6 (.call 93 [Q5]), oM 7 6, og 8 (.load true 5 Q3) 7 true, og 9 (.call 93 [Q8]) 7 true, o 10 (.pick Q7 Q9 kF), oM 11 10, og 12 (.load true 5 Q2) 11 true, og 13 (.load true 5 Q3) 11 true, og 14 (.call 94 [Q12, Q13]) 11 true, o 15 (.pick Q11 Q14 kF), oM 4 15] .ret))⟩
theorem F64_ok : compF Tryz.prog 64 = some F64 := by kernel_rfl
def F69 : FC := ⟨9, [.tmp 2], (sQ [o 2 (.mov kF)] (sQ [oM 3 0, o 4 (.bin .eql Q3 (kI 12) tI), oM 5 4, og 6 (.mov Q0) 5 false, og 7 (.bin .eql Q6 (kI 13) tI) 5 false, o 8 (.pick Q5 kT Q7), oM 2 8] .ret))⟩
theorem F69_ok : compF Tryz.prog 69 = some F69 := by kernel_rfl
def F73 : FC := ⟨61, [.cell 2 true 3], (sQ [o 1 (.box Q0), o 2 (.alloc [.int .i64 0, .slice none 0 0, .int .i64 0])] (.seq (sQ [oA 8 0 1, oL 9 8, o 10 (.len 1 Q9), o 11 (.bin .gtr Q10 (kI 32) tI)] (.cond Q11 (sQ [o 12 (.build [.int .i64 0, .slice none 0 0, .int .i64 0] [(0, 1, (kI 34)), (2, 1, (kI 32))]), oS 3 2 12] .ret) .skip))
 (.seq (sQ [oA 13 1 1, oL 14 13, o 15 (.len 1 Q14), o 16 (.bin .gtr Q15 (kI 16) tI)] (.cond Q16 (sQ [o 17 (.build [.int .i64 0, .slice none 0 0, .int .i64 0] [(0, 1, (kI 34)), (2, 1, (kI 16))]), oS 3 2 17] .ret) .skip)) (.seq (sQ [oA 18 1 1, oL 19 18, o 20 (.len 1 Q19), o 21 (.mov (kI 0))] (.block 0 (.loop (sQ [o 22 (.bin .lss Q21 Q20 tI)] (.seq (.cond Q22 .skip (.exit 0))
 (.seq (.block 1 (sQ [oM 23 21, o 24 (.indexAddr 2 Q19 Q21), o 25 (.load true 2 Q24), o 4 (.alloc [(.string ⟨#[]⟩), (.string ⟨#[]⟩)]), oM 3 23, oS 2 4 25]
 (sQ [oA 26 0 4, oL 27 26, o 28 (.len 0 Q27), o 29 (.bin .gtr Q28 (kI 256) tI), oM 30 29, og 31 (.fieldAddr 1 Q4) 30 false, og 32 (.load false 1 Q31) 30 false, og 33 (.len 0 Q32) 30 false, og 34 (.bin .gtr Q33 (kI 256) tI) 30 false, o 35 (.pick Q30 kT Q34)] (.cond Q35 (sQ [oM 36 3, o 37 (.build [.int .i64 0, .slice none 0 0, .int .i64 0] [(0, 1, (kI 37)), (2, 1, Q36)]), oS 3 2 37] .ret) .skip))))
 (.ops [o 38 (.bin .add Q21 (kI 1) tI), oM 21 38]))))))) (sQ [oA 39 0 1, oL 40 39, o 41 (.call 74 [Q40, (.const (.slice none 0 0)), kF, (.const (.slice none 0 0))]), oM 5 41] (.seq (sQ [oM 42 5, o 43 (.len 1 Q42), o 44 (.mov (kI 0))] (.block 2 (.loop (sQ [o 45 (.bin .lss Q44 Q43 tI)] (.seq (.cond Q45 .skip (.exit 2)) (.seq (.block 3 (sQ [oM 46 44, oM 6 46]
 (sQ [oM 47 5, oM 48 6, o 49 (.call 100 [Q47, Q48]), oM 7 49] (sQ [oM 50 7, o 51 (.bin .neq Q50 (kI 0) tI)] (.cond Q51 (sQ [oM 52 7, oM 53 5, oM 54 6, o 55 (.indexAddr 10 Q53 Q54), oA 56 0 55, oL 57 56, o 58 (.build [.int .i64 0, .slice none 0 0, .int .i64 0] [(0, 1, Q52), (1, 1, Q57)]), oS 3 2 58] .ret) .skip))))) (.ops [o 59 (.bin .add Q44 (kI 1) tI), oM 44 59])))))))
 (sQ [o 60 (.build [.int .i64 0, .slice none 0 0, .int .i64 0] []), oS 3 2 60] .ret)))))))⟩
theorem F73_ok : compF Tryz.prog 73 = some F73 := by kernel_rfl
def F74 : FC := ⟨63, [.tmp 8], (sQ [o 8 (.mov (.const (.slice none 0 0)))] (.seq (sQ [oM 12 0, o 13 (.len 1 Q12), o 14 (.mov (kI 0))] (.block 0 (.loop (sQ [o 15 (.bin .lss Q14 Q13 tI)] (.seq (.cond Q15 .skip (.exit 0)) (.seq (.block 1 (sQ [oM 16 14, o 17 (.indexAddr 7 Q12 Q14), o 18 (.load true 7 Q17), o 10 (.alloc zaZ), oM 9 16, oS 7 10 18]
 (.seq (sQ [oM 19 3, o 20 (.len 1 Q19), o 21 (.bin .gtr Q20 (kI 256) tI)] (.cond Q21 (sQ [oM 22 3, oM 8 22] .ret) .skip)) (sQ [oM 23 1, o 24 (.len 1 Q23), o 25 (.bin .add Q24 (kI 1) tI), o 26 (.mkSlice 1 8 [.int .i64 0] Q25 Q25), oM 11 26] (sQ [oM 27 11, oM 28 1, o 29 (.copy 1 Q27 Q28)] (sQ [oM 30 11, oM 31 1, o 32 (.len 1 Q31), oM 33 9, o 34 (.indexAddr 1 Q30 Q32), oS 1 34 33]
 (sQ [oM 35 3, oM 36 11, o 37 (.load true 7 Q10), oM 38 0, oM 39 9, o 40 (.slice 7 Q38 none (some Q39) none), oM 41 2, o 42 (.build zeZ [(0, 1, Q36), (1, 7, Q37), (8, 1, Q40), (9, 1, Q41)]), o 43 (.buildSlice 10 1 zeZ [(0, 10, Q42)]), o 44 (.append 10 136 Q35 Q43), oM 3 44] (sQ [oM 45 11, o 46 (.len 1 Q45), o 47 (.bin .leq Q46 (kI 64) tI)] (.cond Q47
 (.ops [oA 48 2 10, oA 49 4 48, oL 50 49, oM 51 11, oM 52 2, oM 53 52, og 54 (.fieldAddr 2 Q10) 53 false, og 55 (.fieldAddr 0 Q54) 53 false, og 56 (.load false 1 Q55) 53 false, og 57 (.bin .eql Q56 (kI 19) tI) 53 false, o 58 (.pick Q53 kT Q57), oM 59 3, o 60 (.call 74 [Q50, Q51, Q58, Q59]), oM 3 60]) .skip))))))))) (.ops [o 61 (.bin .add Q14 (kI 1) tI), oM 14 61]))))))) (sQ [oM 62 3, oM 8 62]
 .ret)))⟩
theorem F74_ok : compF Tryz.prog 74 = some F74 := by kernel_rfl
def F75 : FC := ⟨53, [.tmp 4], (sQ [o 2 (.box Q0), o 3 (.box Q1), o 4 (.mov kF)] (sQ [oA 7 2 2, o 8 (.load true 5 Q7), oA 9 2 3, o 10 (.load true 5 Q9), o 5 (.alloc [.int .i64 0, .int .i64 0, .int .i64 0, .int .i64 0, .slice none 0 0]), oS 5 5 8, ⟨none, .again 10 true 5 Q9, none⟩, o 6 (.alloc [.int .i64 0, .int .i64 0, .int .i64 0, .int .i64 0, .slice none 0 0]), oS 5 6 10]
 (sQ [oA 11 1 2, oL 12 11, oA 13 1 3, oL 14 13, o 15 (.bin .eql Q12 Q14 (some .bool)), oM 16 15, og 17 (.fieldAddr 0 Q5) 16 true, og 18 (.load false 1 Q17) 16 true, og 19 (.fieldAddr 0 Q6) 16 true, og 20 (.load false 1 Q19) 16 true, og 21 (.bin .eql Q18 Q20 tI) 16 true, o 22 (.pick Q16 Q21 kF), oM 23 22, og 24 (.fieldAddr 1 Q5) 23 true, og 25 (.load false 1 Q24) 23 true, og 26 (.fieldAddr 1 Q6) 23 true, og 27 (.load false 1 Q26) 23 true, og 28 (.bin .eql Q25 Q27 tI) 23 true, o 29 (.pick Q23 Q28 kF), oM 30 29, og 31 (.fieldAddr 2 Q5) 30 true, og 32 (.load false 1 Q31) 30 true, og 33 (.fieldAddr 2 Q6) 30 true, og 34 (.load false 1 Q33) 30 true, og 35 (.bin .eql Q32 Q34 tI) 30 true, o 36 (.pick Q30 Q35 kF), oM 37 36, og 38 (.fieldAddr 3 Q5) 37 true, og 39 (.load false 1 Q38) 37 true, og 40 (.fieldAddr 3 Q6) 37 true, og 41 (.load false 1 Q40) 37 true, og 42 (.bin .eql Q39 Q41 tI) 37 true, o 43 (.pick Q37 Q42 kF), oM 44 43, og 45 (.fieldAddr 4 Q5) 44 true, og 46 (.load false 1 Q45) 44 true, og 47 (.len 1 Q46) 44 true, og 48 (.fieldAddr 4 Q6) 44 true, og 49 (.load false 1 Q48) 44 true, og 50 (.len 1 Q49) 44 true, og 51 (.bin .eql Q47 Q50 tI) 44 true, o 52 (.pick Q44 Q51 kF), oM 4 52]
 .ret)))⟩
theorem F75_ok : compF Tryz.prog 75 = some F75 := by kernel_rfl
def F76 : FC := ⟨20, [.tmp 4, .cell 5 true 3], (sQ [o 2 (.box Q0), o 3 (.box Q1), o 4 (.mov (.const (.pointer none))), o 5 (.alloc [.int .i64 0, .slice none 0 0, .int .i64 0])] (.seq (sQ [o 7 (.load true 7 Q2), o 8 (.load true 6 Q3), o 9 (.call 101 [Q7, Q8]), o 6 (.alloc [.int .i64 0, .slice none 0 0, .int .i64 0]), oS 3 6 9] (sQ [oA 10 0 6, oL 11 10, o 12 (.bin .neq Q11 (kI 0) tI)] (.cond Q12
 (sQ [o 13 (.load true 3 Q6), o 4 (.mov (.const (.pointer none))), oS 3 5 13] .ret) .skip))) (sQ [o 14 (.load true 7 Q2), o 16 (.load true 6 Q3), o 19 (.build [.int .i64 0, .slice none 0 0, .int .i64 0] []), o 15 (.call 103 [Q14]), ⟨none, .again 16 true 6 Q3, none⟩, o 17 (.call 104 [Q16]), o 18 (.call 102 [Q15, Q17, (.const (.pointer none))]), oM 4 18, oS 3 5 19] .ret)))⟩
theorem F76_ok : compF Tryz.prog 76 = some F76 := by kernel_rfl
def F77 : FC := ⟨17, [.tmp 2], (sQ [o 2 (.mov (.const (.slice none 0 0)))] (sQ [o 3 (.alloc [.slice none 0 0])] (.seq (sQ [oM 6 0, o 7 (.call 105 [Q6])] (.block 0 (.rf Q7 [8, 9] (.ops [o 5 (.alloc zcZ), oS 4 5 9])
 (.block 1 (.ops [oL 10 3, o 11 (.load true 4 Q5), o 12 (.len 1 Q10), o 13 (.buildSlice 4 1 zcZ [(0, 4, (.const (.agg #[(.bool false), (.int .i64 0), (.string ⟨#[]⟩), (.slice none 0 0)])))]), ⟨none, .again 11 true 4 Q5, none⟩, ⟨none, .again 10 false 1 Q3, none⟩, o 14 (.append 4 56 Q10 Q13), o 15 (.indexAddr 4 Q14 Q12), oS 4 15 11, oS 1 3 14, ⟨none, .apart Q15 Q3, none⟩]))))) (sQ [oL 16 3, oM 2 16]
 .ret))))⟩
theorem F77_ok : compF Tryz.prog 77 = some F77 := by kernel_rfl
def F78 : FC := ⟨15, [.tmp 2, .tmp 3], (sQ [o 1 (.box Q0), o 2 (.mov (.const (.pointer none))), o 3 (.mov (kI 0))] (.seq (sQ [o 5 (.load true 7 Q1), o 6 (.call 106 [Q5]), o 7 (.un .not Q6)] (.cond Q7 (sQ [o 2 (.mov (.const (.pointer none))), o 3 (.mov (kI 5))] .ret) .skip)) (sQ [o 8 (.load true 7 Q1), o 9 (.call 107 [Q8]), o 4 (.alloc zaZ), oS 7 4 9]
 (sQ [o 10 (.load true 7 Q4), o 11 (.load true 7 Q4), o 12 (.call 108 [Q11]), ⟨none, .again 10 true 7 Q4, none⟩, o 13 (.build [(.string ⟨#[]⟩), (.bool false), (.int .i64 0), (.int .i64 0), (.int .i64 0), (.int .i64 0), (.slice none 0 0), .nilIface, (.bool false)] [(0, 7, Q10), (7, 1, Q12)]), o 14 (.box Q13), oM 2 14, o 3 (.mov (kI 0))] .ret))))⟩
theorem F78_ok : compF Tryz.prog 78 = some F78 := by kernel_rfl
def F79 : FC := ⟨22, [.tmp 4], (sQ [o 3 (.box Q1), o 4 (.mov (kI 0))] (.seq (sQ [oM 6 0, o 7 (.nilCheck Q6), oA 8 8 7, oL 9 8] (.cond Q9 (sQ [o 4 (.mov (kI 9))] .ret) .skip)) (.seq (sQ [oM 10 0, o 11 (.nilCheck Q10), oA 12 0 11, o 13 (.load true 7 Q12), o 14 (.load true 4 Q3), o 15 (.call 109 [Q13, Q14]), oM 5 15] (sQ [oM 16 5, o 17 (.bin .neq Q16 (kI 0) tI)] (.cond Q17 (sQ [oM 18 5, oM 4 18]
 .ret) .skip))) (sQ [oM 19 0, o 20 (.load true 4 Q3), o 21 (.call 110 [Q19, Q20]), oM 4 21] .ret))))⟩
theorem F79_ok : compF Tryz.prog 79 = some F79 := by kernel_rfl
def F80 : FC := ⟨17, [.cell 2 true 6, .tmp 3], (sQ [o 2 (.alloc [.int .i64 0, .int .i64 0, .int .i64 0, .slice none 0 0, .slice none 0 0, .slice none 0 0]), o 3 (.mov (kI 0))] (.seq (sQ [oM 4 0, o 5 (.nilCheck Q4), oA 6 8 5, oL 7 6] (.cond Q7 (sQ [o 8 (.build [.int .i64 0, .int .i64 0, .int .i64 0, .slice none 0 0, .slice none 0 0, .slice none 0 0] []), oS 6 2 8, o 3 (.mov (kI 9))] .ret) .skip))
 (sQ [oM 9 0, o 10 (.nilCheck Q9), oA 11 8 10, ⟨none, .store 1 Q11 kT, none⟩] (sQ [oM 12 0, o 13 (.nilCheck Q12), oA 14 7 13, oL 15 14, o 16 (.invoke Q15 "colonnade/build.done" [(185, 264), (188, 274), (191, 282), (194, 287), (197, 292), (200, 301), (203, 308), (207, 323), (210, 328)] []), oS 6 2 16, o 3 (.mov (kI 0))] .ret))))⟩
theorem F80_ok : compF Tryz.prog 80 = some F80 := by kernel_rfl
def F81 : FC := ⟨6, [.tmp 4], (sQ [o 2 (.box Q0), o 3 (.box Q1), o 4 (.mov (.const .nilFunc))] (sQ [o 5 (.mkFunc (.func 111) [] [Q3, Q2]), oM 4 5] .ret))⟩
theorem F81_ok : compF Tryz.prog 81 = some F81 := by kernel_rfl
def F82 : FC := ⟨74, [.tmp 6], (sQ [o 3 (.box Q0), o 6 (.mov (kI 0))] (sQ [oA 10 2 3, oA 11 2 10, o 12 (.load true 5 Q11), o 7 (.alloc [.int .i64 0, .int .i64 0, .int .i64 0, .int .i64 0, .slice none 0 0]), oS 5 7 12] (sQ [oM 14 2, oA 15 2 7, oL 16 15, o 17 (.lookup 0 [.int .i64 0] false true Q14 Q16), oM 13 17, o 18 (.extract Q13 0), o 19 (.extract Q13 1), oM 8 18, oM 9 19]
 (.seq (.block 0 (sQ [oA 21 0 3, oL 22 21, o 23 (.len 1 Q22), o 24 (.bin .gtr Q23 (kI 64) tI), oM 20 24] (.cond Q20 (sQ [o 6 (.mov (kI 33))] .ret) (sQ [oM 26 1, o 27 (.bin .geq Q26 (kI 256) tI), oM 25 27] (.cond Q25 (sQ [o 6 (.mov (kI 34))] .ret) (sQ [oA 29 2 3, oA 30 0 29, oL 31 30, o 32 (.call 114 [Q31]), o 33 (.un .not Q32), oM 28 33] (.cond Q28 (sQ [o 6 (.mov (kI 30))] .ret)
 (sQ [oA 35 1 3, oL 36 35, o 37 (.mkFunc (.func 116) [] [Q3]), o 38 (.call 115 [Q36, Q37]), oM 34 38] (.cond Q34 (sQ [o 6 (.mov (kI 31))] .ret) (sQ [o 40 (.load true 5 Q7), o 41 (.call 117 [Q40]), o 42 (.un .not Q41), oM 39 42] (.cond Q39 (sQ [o 6 (.mov (kI 32))] .ret) (sQ [oA 44 2 3, o 45 (.load true 7 Q44), o 46 (.call 118 [Q45]), o 47 (.un .not Q46), oM 43 47] (.cond Q43
 (sQ [o 6 (.mov (kI 35))] .ret) (.seq (sQ [oA 49 9 3, oL 50 49, oM 51 50, og 52 (.fieldAddr 0 Q7) 51 true, og 53 (.load false 1 Q52) 51 true, og 54 (.bin .eql Q53 (kI 19) tI) 51 true, og 55 (.mov Q54) 51 true, og 56 (.fieldAddr 0 Q7) 55 false, og 57 (.load false 1 Q56) 55 false, og 58 (.bin .eql Q57 (kI 20) tI) 55 false, og 59 (.pick Q55 kT Q58) 51 true, o 60 (.pick Q51 Q59 kF), oM 48 60]
 (.cond Q48 .skip (.ops [oA 61 0 7, oL 62 61, o 63 (.bin .eql Q62 (kI 19) tI), oM 64 63, og 65 (.fieldAddr 4 Q7) 64 true, og 66 (.load false 1 Q65) 64 true, og 67 (.indexAddr 7 Q66 (kI 0)) 64 true, og 68 (.fieldAddr 1 Q67) 64 true, og 69 (.load false 1 Q68) 64 true, og 70 (.mov Q69) 64 true, og 71 (.mov Q9) 70 false, og 72 (.pick Q70 kT Q71) 64 true, o 73 (.pick Q64 Q72 kF), oM 48 73])))
 (.cond Q48 (sQ [o 6 (.mov (kI 36))] .ret) .skip))))))))))))))) (sQ [o 6 (.mov (kI 0))] .ret)))))⟩
theorem F82_ok : compF Tryz.prog 82 = some F82 := by kernel_rfl
def F83 : FC := ⟨13, [.tmp 4], (sQ [o 4 (.mov (.const (.pointer none)))] (.seq (sQ [oM 5 0, o 6 (.bin .eql Q5 (kI 10) tI)] (.cond Q6 (sQ [o 7 (.alloc [.bool false, .slice none 0 0]), oM 8 1, o 9 (.conv .u64 Q8), o 10 (.call 119 [Q7, Q9]), oM 4 10] .ret) .skip)) (sQ [oM 11 1, o 12 (.call 120 [Q11]), oM 4 12] .ret)))⟩
theorem F83_ok : compF Tryz.prog 83 = some F83 := by kernel_rfl
def F87 : FC := ⟨27, [.tmp 6], (sQ [o 6 (.mov (.const (.pointer none)))]
 (sQ [oM 7 0, oM 8 1, o 9 (.nilCheck Q8), oA 10 0 9, oL 11 10, oM 12 2, o 13 (.nilCheck Q12), oA 14 0 13, oL 15 14, o 16 (.bin .neq Q11 Q15 (some .bool)), oM 17 1, o 18 (.nilCheck Q17), oA 19 1 18, oL 20 19, oM 21 2, o 22 (.nilCheck Q21), oA 23 1 22, oL 24 23, o 25 (.call 123 [Q20, Q24]), ⟨none, .again 15 false 1 Q14, none⟩, ⟨none, .again 11 false 1 Q10, none⟩, o 26 (.call 121 [Q7, Q16, Q25]), oM 6 26]
 .ret))⟩
theorem F87_ok : compF Tryz.prog 87 = some F87 := by kernel_rfl
def F90 : FC := ⟨44, [.cell 4 true 4, .tmp 5], (sQ [o 4 (.alloc zcZ), o 5 (.mov (kI 0))] (sQ [oM 9 0, o 10 (.call 125 [Q9]), oM 6 10] (sQ [o 11 (.alloc [.bool false, .slice none 0 0]), oM 7 11] (sQ [o 12 (.alloc [.bool false, .slice none 0 0]), o 13 (.call 120 [(kI 1)]), oM 14 6, o 15 (.call 126 [Q12, Q13, Q14]), oM 8 15] (.seq (sQ [oM 16 0, o 17 (.call 63 [Q16])] (.cond Q17
 (sQ [oM 18 8, oM 19 8, o 20 (.call 127 [Q18, Q19, (.const (.int .u64 1))])] (.ops [oM 21 7, oM 22 8, o 23 (.call 128 [Q21, Q22])])) .skip)) (.seq (sQ [oM 24 1, oM 25 7, o 26 (.call 129 [Q24, Q25]), o 27 (.bin .lss Q26 (kI 0) tI), oM 28 27, og 29 (.mov Q1) 28 false, og 30 (.mov Q8) 28 false, og 31 (.call 129 [Q29, Q30]) 28 false, og 32 (.bin .geq Q31 (kI 0) tI) 28 false, o 33 (.pick Q28 kT Q32)]
 (.cond Q33 (sQ [o 34 (.build zcZ []), oS 4 4 34, o 5 (.mov (kI 170))] .ret) .skip)) (.seq (sQ [oM 35 0, o 36 (.bin .eql Q35 (kI 10) tI)] (.cond Q36 (sQ [oM 37 1, o 38 (.call 130 [Q37]), o 39 (.conv .i64 Q38), o 40 (.build zcZ [(1, 1, Q39)]), oS 4 4 40, o 5 (.mov (kI 0))] .ret) .skip)) (sQ [oM 41 1, o 42 (.call 131 [Q41]), o 43 (.build zcZ [(1, 1, Q42)]), oS 4 4 43, o 5 (.mov (kI 0))]
 .ret))))))))⟩
theorem F90_ok : compF Tryz.prog 90 = some F90 := by kernel_rfl
def F93 : FC := ⟨8, [.tmp 2], (sQ [o 1 (.box Q0), o 2 (.mov kF)] (sQ [o 3 (.load true 5 Q1), o 4 (.call 132 [Q3]), o 5 (.call 20 [Q4]), o 6 (.field false 0 1 Q5), o 7 (.bin .eql Q6 (kI 0) tI), oM 2 7] .ret))⟩
theorem F93_ok : compF Tryz.prog 93 = some F93 := by kernel_rfl
def F94 : FC := ⟨36, [.tmp 4], (sQ [o 2 (.box Q0), o 3 (.box Q1), o 4 (.mov kF)]
 (.seq (sQ [oA 5 0 2, oL 6 5, oA 7 0 3, oL 8 7, o 9 (.bin .neq Q6 Q8 tI), oM 10 9, og 11 (.fieldAddr 1 Q2) 10 false, og 12 (.load false 1 Q11) 10 false, og 13 (.fieldAddr 1 Q3) 10 false, og 14 (.load false 1 Q13) 10 false, og 15 (.bin .neq Q12 Q14 tI) 10 false, o 16 (.pick Q10 kT Q15), oM 17 16, og 18 (.fieldAddr 2 Q2) 17 false, og 19 (.load false 1 Q18) 17 false, og 20 (.fieldAddr 2 Q3) 17 false, og 21 (.load false 1 Q20) 17 false, og 22 (.bin .neq Q19 Q21 tI) 17 false, o 23 (.pick Q17 kT Q22), oM 24 23, og 25 (.fieldAddr 3 Q2) 24 false, og 26 (.load false 1 Q25) 24 false, og 27 (.fieldAddr 3 Q3) 24 false, og 28 (.load false 1 Q27) 24 false, og 29 (.bin .neq Q26 Q28 tI) 24 false, o 30 (.pick Q24 kT Q29)]
 (.cond Q30 (sQ [o 4 (.mov kF)] .ret) .skip)) (sQ [oA 31 4 2, oL 32 31, oA 33 4 3, oL 34 33, o 35 (.call 133 [Q32, Q34, .func 134]), oM 4 35] .ret)))⟩
theorem F94_ok : compF Tryz.prog 94 = some F94 := by kernel_rfl
def F95 : FC := ⟨7, [.tmp 2], (sQ [o 1 (.box Q0), o 2 (.mov kF)] (sQ [o 3 (.load true 7 Q1), o 4 (.call 20 [Q3]), o 5 (.field false 0 1 Q4), o 6 (.bin .eql Q5 (kI 0) tI), oM 2 6] .ret))⟩
theorem F95_ok : compF Tryz.prog 95 = some F95 := by kernel_rfl
def F96 : FC := ⟨12, [.tmp 4], (sQ [o 2 (.box Q0), o 3 (.box Q1), o 4 (.mov kF)] (sQ [o 6 (.build [.int .i64 0] [(0, 1, (kI 4194304))]), o 7 (.box Q6), oM 5 7] (sQ [oM 8 5, o 9 (.load true 7 Q2), o 10 (.load true 4 Q3), o 11 (.call 135 [Q8, Q9, Q10]), oM 4 11] .ret)))⟩
theorem F96_ok : compF Tryz.prog 96 = some F96 := by kernel_rfl
def F100 : FC := ⟨95, [.tmp 4], (sQ [o 4 (.mov (kI 0))] (sQ [oM 11 0, oM 12 1, o 13 (.indexAddr 10 Q11 Q12), o 14 (.load true 10 Q13), o 5 (.alloc zeZ), oS 10 5 14] (sQ [oA 15 1 5, o 16 (.load true 7 Q15), o 6 (.alloc zaZ), oS 7 6 16] (.seq (sQ [oA 17 0 5, oL 18 17, o 19 (.len 1 Q18), o 20 (.bin .gtr Q19 (kI 64) tI)] (.cond Q20 (sQ [o 4 (.mov (kI 33))] .ret) .skip))
 (.seq (sQ [oM 21 1, o 22 (.bin .geq Q21 (kI 256) tI)] (.cond Q22 (sQ [o 4 (.mov (kI 34))] .ret) .skip)) (.seq (sQ [oA 23 0 6, oL 24 23, o 25 (.call 142 [Q24]), o 26 (.un .not Q25)] (.cond Q26 (sQ [o 4 (.mov (kI 30))] .ret) .skip)) (.seq (sQ [oA 27 8 5, oL 28 27, o 29 (.len 1 Q28), o 30 (.mov (kI 0))] (.block 0 (.loop (sQ [o 31 (.bin .lss Q30 Q29 tI)] (.seq (.cond Q31 .skip (.exit 0))
 (.seq (.block 1 (sQ [o 32 (.indexAddr 7 Q28 Q30), o 33 (.load true 7 Q32), o 8 (.alloc zaZ), oS 7 8 33] (sQ [oA 34 0 8, oL 35 34, oA 36 0 6, oL 37 36, o 38 (.bin .eql Q35 Q37 (some .string))] (.cond Q38 (sQ [o 4 (.mov (kI 31))] .ret) .skip)))) (.ops [o 39 (.bin .add Q30 (kI 1) tI), oM 30 39]))))))) (.seq (sQ [oA 40 2 6, o 41 (.load true 5 Q40), o 42 (.call 143 [Q41]), o 43 (.un .not Q42)]
 (.cond Q43 (sQ [o 4 (.mov (kI 32))] .ret) .skip)) (.seq (sQ [o 44 (.load true 7 Q6), o 45 (.call 144 [Q44]), o 46 (.un .not Q45)] (.cond Q46 (sQ [o 4 (.mov (kI 35))] .ret) .skip))
 (.seq (sQ [oA 47 2 6, oA 48 0 47, oL 49 48, o 50 (.bin .eql Q49 (kI 19) tI), oM 51 50, og 52 (.fieldAddr 2 Q6) 51 false, og 53 (.fieldAddr 0 Q52) 51 false, og 54 (.load false 1 Q53) 51 false, og 55 (.bin .eql Q54 (kI 20) tI) 51 false, o 56 (.pick Q51 kT Q55), oM 57 56, og 58 (.fieldAddr 9 Q5) 57 true, og 59 (.load false 1 Q58) 57 true, o 60 (.pick Q57 Q59 kF)] (.cond Q60 (sQ [o 4 (.mov (kI 36))]
 .ret) .skip)) (.seq (sQ [oA 61 2 6, oA 62 0 61, oL 63 62, o 64 (.bin .eql Q63 (kI 19) tI)] (.cond Q64 (.seq (sQ [oA 65 2 6, oA 66 4 65, oL 67 66, o 68 (.indexAddr 7 Q67 (kI 0)), oA 69 1 68, oL 70 69] (.cond Q70 (sQ [o 4 (.mov (kI 36))] .ret) .skip)) (sQ [oM 71 0, oM 72 1, o 73 (.slice 10 Q71 none (some Q72) none), o 74 (.len 1 Q73), o 75 (.mov (kI 0))]
 (.block 2 (.loop (sQ [o 76 (.bin .lss Q75 Q74 tI)] (.seq (.cond Q76 .skip (.exit 2)) (.seq (.block 3 (sQ [o 77 (.indexAddr 10 Q73 Q75), o 78 (.load true 10 Q77), o 10 (.alloc zeZ), oS 10 10 78]
 (sQ [oA 79 1 10, oA 80 2 79, oA 81 0 80, oL 82 81, o 83 (.bin .eql Q82 (kI 19) tI), oM 84 83, og 85 (.fieldAddr 1 Q10) 84 true, og 86 (.fieldAddr 2 Q85) 84 true, og 87 (.fieldAddr 2 Q86) 84 true, og 88 (.load false 1 Q87) 84 true, og 89 (.fieldAddr 2 Q6) 84 true, og 90 (.fieldAddr 2 Q89) 84 true, og 91 (.load false 1 Q90) 84 true, og 92 (.bin .eql Q88 Q91 tI) 84 true, o 93 (.pick Q84 Q92 kF)]
 (.cond Q93 (sQ [o 4 (.mov (kI 36))] .ret) .skip)))) (.ops [o 94 (.bin .add Q75 (kI 1) tI), oM 75 94])))))))) .skip)) (sQ [o 4 (.mov (kI 0))] .ret))))))))))))⟩
theorem F100_ok : compF Tryz.prog 100 = some F100 := by kernel_rfl
end Go.Proofs.YtmckingimnhoaaaGreatDoor.Stats
