/- No conditions. -/
import Derived.Test.YtkjhfefbklcciaaGreatDoorX22
import Derived.Test.YtkjhfefbklcciaaGreatDoorProg
import Derived.KernelRfl
set_option linter.unusedVariables false
set_option linter.unusedSimpArgs false
set_option maxRecDepth 100000
set_option maxHeartbeats 16000000
namespace Go.Proofs.YtkjhfefbklcciaaGreatDoor.Stats
open Go Go.Proofs.YtkjhfefbklcciaaGreatDoor Go.Proofs.YtkjhfefbklcciaaGreatDoor.Em
abbrev CF(n:Nat):={ c // Bc Tryz.prog n=some c }
def gs:List (List EV):=[[],[],[.lit (.string ⟨#[]⟩),.lit (.int .i64 0),.lit (.int .i64 0),.lit (.bool false),.lit (.string ⟨#[110,117,108,108]⟩),.lit (.int .i64 0),.lit (.int .i64 0),.lit (.bool false),.lit (.string ⟨#[98,111,111,108]⟩),.lit (.int .i64 0),.lit (.int .i64 2),.lit (.bool false),.lit (.string ⟨#[105,110,116,56]⟩),.lit (.int .i64 1),.lit (.int .i64 2),.lit (.bool true),.lit (.string ⟨#[105,110,116,49,54]⟩),.lit (.int .i64 2),.lit (.int .i64 2),.lit (.bool true),.lit (.string ⟨#[105,110,116,51,50]⟩),.lit (.int .i64 4),.lit (.int .i64 2),.lit (.bool true),.lit (.string ⟨#[105,110,116,54,52]⟩),.lit (.int .i64 8),.lit (.int .i64 2),.lit (.bool true),.lit (.string ⟨#[117,105,110,116,56]⟩),.lit (.int .i64 1),.lit (.int .i64 2),.lit (.bool true),.lit (.string ⟨#[117,105,110,116,49,54]⟩),.lit (.int .i64 2),.lit (.int .i64 2),.lit (.bool true),.lit (.string ⟨#[117,105,110,116,51,50]⟩),.lit (.int .i64 4),.lit (.int .i64 2),.lit (.bool true),.lit (.string ⟨#[117,105,110,116,54,52]⟩),.lit (.int .i64 8),.lit (.int .i64 2),.lit (.bool true),.lit (.string ⟨#[102,108,111,97,116,54,52]⟩),.lit (.int .i64 8),.lit (.int .i64 2),.lit (.bool false),.lit (.string ⟨#[116,101,120,116]⟩),.lit (.int .i64 0),.lit (.int .i64 3),.lit (.bool false),.lit (.string ⟨#[98,121,116,101,115]⟩),.lit (.int .i64 0),.lit (.int .i64 3),.lit (.bool false),.lit (.string ⟨#[102,105,120,101,100]⟩),.lit (.int .i64 0),.lit (.int .i64 2),.lit (.bool false),.lit (.string ⟨#[108,105,115,116]⟩),.lit (.int .i64 0),.lit (.int .i64 2),.lit (.bool false),.lit (.string ⟨#[115,112,97,110]⟩),.lit (.int .i64 0),.lit (.int .i64 1),.lit (.bool false),.lit (.string ⟨#[115,116,114,117,99,116]⟩),.lit (.int .i64 0),.lit (.int .i64 1),.lit (.bool false),.lit (.string ⟨#[99,104,111,105,99,101]⟩),.lit (.int .i64 0),.lit (.int .i64 2),.lit (.bool false),.lit (.string ⟨#[100,105,99,116]⟩),.lit (.int .i64 0),.lit (.int .i64 2),.lit (.bool false),.lit (.string ⟨#[114,117,110,115]⟩),.lit (.int .i64 0),.lit (.int .i64 0),.lit (.bool false)],[.lit (.int .u8 240),.lit (.int .u8 240),.lit (.int .u8 240),.lit (.int .u8 240),.lit (.int .u8 240),.lit (.int .u8 240),.lit (.int .u8 240),.lit (.int .u8 240),.lit (.int .u8 240),.lit (.int .u8 240),.lit (.int .u8 240),.lit (.int .u8 240),.lit (.int .u8 240),.lit (.int .u8 240),.lit (.int .u8 240),.lit (.int .u8 240),.lit (.int .u8 240),.lit (.int .u8 240),.lit (.int .u8 240),.lit (.int .u8 240),.lit (.int .u8 240),.lit (.int .u8 240),.lit (.int .u8 240),.lit (.int .u8 240),.lit (.int .u8 240),.lit (.int .u8 240),.lit (.int .u8 240),.lit (.int .u8 240),.lit (.int .u8 240),.lit (.int .u8 240),.lit (.int .u8 240),.lit (.int .u8 240),.lit (.int .u8 240),.lit (.int .u8 240),.lit (.int .u8 240),.lit (.int .u8 240),.lit (.int .u8 240),.lit (.int .u8 240),.lit (.int .u8 240),.lit (.int .u8 240),.lit (.int .u8 240),.lit (.int .u8 240),.lit (.int .u8 240),.lit (.int .u8 240),.lit (.int .u8 240),.lit (.int .u8 240),.lit (.int .u8 240),.lit (.int .u8 240),.lit (.int .u8 240),.lit (.int .u8 240),.lit (.int .u8 240),.lit (.int .u8 240),.lit (.int .u8 240),.lit (.int .u8 240),.lit (.int .u8 240),.lit (.int .u8 240),.lit (.int .u8 240),.lit (.int .u8 240),.lit (.int .u8 240),.lit (.int .u8 240),.lit (.int .u8 240),.lit (.int .u8 240),.lit (.int .u8 240),.lit (.int .u8 240),.lit (.int .u8 240),.lit (.int .u8 240),.lit (.int .u8 240),.lit (.int .u8 240),.lit (.int .u8 240),.lit (.int .u8 240),.lit (.int .u8 240),.lit (.int .u8 240),.lit (.int .u8 240),.lit (.int .u8 240),.lit (.int .u8 240),.lit (.int .u8 240),.lit (.int .u8 240),.lit (.int .u8 240),.lit (.int .u8 240),.lit (.int .u8 240),.lit (.int .u8 240),.lit (.int .u8 240),.lit (.int .u8 240),.lit (.int .u8 240),.lit (.int .u8 240),.lit (.int .u8 240),.lit (.int .u8 240),.lit (.int .u8 240),.lit (.int .u8 240),.lit (.int .u8 240),.lit (.int .u8 240),.lit (.int .u8 240),.lit (.int .u8 240),.lit (.int .u8 240),.lit (.int .u8 240),.lit (.int .u8 240),.lit (.int .u8 240),.lit (.int .u8 240),.lit (.int .u8 240),.lit (.int .u8 240),.lit (.int .u8 240),.lit (.int .u8 240),.lit (.int .u8 240),.lit (.int .u8 240),.lit (.int .u8 240),.lit (.int .u8 240),.lit (.int .u8 240),.lit (.int .u8 240),.lit (.int .u8 240),.lit (.int .u8 240),.lit (.int .u8 240),.lit (.int .u8 240),.lit (.int .u8 240),.lit (.int .u8 240),.lit (.int .u8 240),.lit (.int .u8 240),.lit (.int .u8 240),.lit (.int .u8 240),.lit (.int .u8 240),.lit (.int .u8 240),.lit (.int .u8 240),.lit (.int .u8 240),.lit (.int .u8 240),.lit (.int .u8 240),.lit (.int .u8 240),.lit (.int .u8 240),.lit (.int .u8 240),.lit (.int .u8 240),.lit (.int .u8 241),.lit (.int .u8 241),.lit (.int .u8 241),.lit (.int .u8 241),.lit (.int .u8 241),.lit (.int .u8 241),.lit (.int .u8 241),.lit (.int .u8 241),.lit (.int .u8 241),.lit (.int .u8 241),.lit (.int .u8 241),.lit (.int .u8 241),.lit (.int .u8 241),.lit (.int .u8 241),.lit (.int .u8 241),.lit (.int .u8 241),.lit (.int .u8 241),.lit (.int .u8 241),.lit (.int .u8 241),.lit (.int .u8 241),.lit (.int .u8 241),.lit (.int .u8 241),.lit (.int .u8 241),.lit (.int .u8 241),.lit (.int .u8 241),.lit (.int .u8 241),.lit (.int .u8 241),.lit (.int .u8 241),.lit (.int .u8 241),.lit (.int .u8 241),.lit (.int .u8 241),.lit (.int .u8 241),.lit (.int .u8 241),.lit (.int .u8 241),.lit (.int .u8 241),.lit (.int .u8 241),.lit (.int .u8 241),.lit (.int .u8 241),.lit (.int .u8 241),.lit (.int .u8 241),.lit (.int .u8 241),.lit (.int .u8 241),.lit (.int .u8 241),.lit (.int .u8 241),.lit (.int .u8 241),.lit (.int .u8 241),.lit (.int .u8 241),.lit (.int .u8 241),.lit (.int .u8 241),.lit (.int .u8 241),.lit (.int .u8 241),.lit (.int .u8 241),.lit (.int .u8 241),.lit (.int .u8 241),.lit (.int .u8 241),.lit (.int .u8 241),.lit (.int .u8 241),.lit (.int .u8 241),.lit (.int .u8 241),.lit (.int .u8 241),.lit (.int .u8 241),.lit (.int .u8 241),.lit (.int .u8 241),.lit (.int .u8 241),.lit (.int .u8 241),.lit (.int .u8 241),.lit (.int .u8 2),.lit (.int .u8 2),.lit (.int .u8 2),.lit (.int .u8 2),.lit (.int .u8 2),.lit (.int .u8 2),.lit (.int .u8 2),.lit (.int .u8 2),.lit (.int .u8 2),.lit (.int .u8 2),.lit (.int .u8 2),.lit (.int .u8 2),.lit (.int .u8 2),.lit (.int .u8 2),.lit (.int .u8 2),.lit (.int .u8 2),.lit (.int .u8 2),.lit (.int .u8 2),.lit (.int .u8 2),.lit (.int .u8 2),.lit (.int .u8 2),.lit (.int .u8 2),.lit (.int .u8 2),.lit (.int .u8 2),.lit (.int .u8 2),.lit (.int .u8 2),.lit (.int .u8 2),.lit (.int .u8 2),.lit (.int .u8 2),.lit (.int .u8 2),.lit (.int .u8 19),.lit (.int .u8 3),.lit (.int .u8 3),.lit (.int .u8 3),.lit (.int .u8 3),.lit (.int .u8 3),.lit (.int .u8 3),.lit (.int .u8 3),.lit (.int .u8 3),.lit (.int .u8 3),.lit (.int .u8 3),.lit (.int .u8 3),.lit (.int .u8 3),.lit (.int .u8 35),.lit (.int .u8 3),.lit (.int .u8 3),.lit (.int .u8 52),.lit (.int .u8 4),.lit (.int .u8 4),.lit (.int .u8 4),.lit (.int .u8 68),.lit (.int .u8 241),.lit (.int .u8 241),.lit (.int .u8 241),.lit (.int .u8 241),.lit (.int .u8 241),.lit (.int .u8 241),.lit (.int .u8 241),.lit (.int .u8 241),.lit (.int .u8 241),.lit (.int .u8 241),.lit (.int .u8 241)],[.lit (.int .u8 128),.lit (.int .u8 191),.lit (.int .u8 160),.lit (.int .u8 191),.lit (.int .u8 128),.lit (.int .u8 159),.lit (.int .u8 144),.lit (.int .u8 191),.lit (.int .u8 128),.lit (.int .u8 143),.lit (.int .u8 0),.lit (.int .u8 0),.lit (.int .u8 0),.lit (.int .u8 0),.lit (.int .u8 0),.lit (.int .u8 0),.lit (.int .u8 0),.lit (.int .u8 0),.lit (.int .u8 0),.lit (.int .u8 0),.lit (.int .u8 0),.lit (.int .u8 0),.lit (.int .u8 0),.lit (.int .u8 0),.lit (.int .u8 0),.lit (.int .u8 0),.lit (.int .u8 0),.lit (.int .u8 0),.lit (.int .u8 0),.lit (.int .u8 0),.lit (.int .u8 0),.lit (.int .u8 0)]]
def X3:CF 3:=by refine⟨?_,?h⟩;rotate_left;conv=>lhs;cbv
abbrev o(n:Nat)(i:EI):EOp:=⟨some n,i,none⟩
abbrev q(n:Nat):Operand:=.tmp n
abbrev oM(n m:Nat):EOp:=⟨some n,.mov (.tmp m),none⟩
abbrev oA(n k m:Nat):EOp:=⟨some n,.fieldAddr k (.tmp m),none⟩
abbrev oL(n m:Nat):EOp:=⟨some n,.load false 1 (.tmp m),none⟩
abbrev oS(k n m:Nat):EOp:=⟨none,.store k (.tmp n) (.tmp m),none⟩
abbrev og(n:Nat)(i:EI)(g:Nat)(b:Bool):EOp:=⟨some n,i,some (g,b)⟩
abbrev tI:Option TypeDesc:=some (.int .i64)
abbrev kI(n:Int):Operand:=.const (.int .i64 n)
abbrev kT:Operand:=.const (.bool true)
abbrev kF:Operand:=.const (.bool false)
abbrev sQ(l:List EOp)(c:EC):EC:=.seq (.ops l) c
abbrev zaZ:List Value:=[(.string ⟨#[]⟩),(.bool false),(.int .i64 0),(.int .i64 0),(.int .i64 0),(.int .i64 0),(.slice none 0 0)]
abbrev zbZ:List Value:=[(.bool false),(.int .i64 0),(.string ⟨#[]⟩),(.slice none 0 0)]
abbrev zcZ:List Value:=[(.string ⟨#[]⟩),(.bool false),(.int .i64 0),(.int .i64 0),(.int .i64 0),(.int .i64 0),(.slice none 0 0),(.int .i64 0),(.int .i64 0),(.int .i64 0),(.slice none 0 0),(.slice none 0 0),(.slice none 0 0),(.slice none 0 0),(.slice none 0 0),(.slice none 0 0),(.slice none 0 0),(.slice none 0 0),(.slice none 0 0)]
abbrev zdZ:List Value:=[(.slice none 0 0),(.slice none 0 0),(.string ⟨#[]⟩),(.bool false),(.int .i64 0),(.int .i64 0),(.int .i64 0),(.int .i64 0),(.slice none 0 0),(.bool false)]
abbrev zeZ:List Value:=[(.string ⟨#[]⟩),(.bool false),(.int .i64 0),(.int .i64 0),(.int .i64 0),(.int .i64 0),(.slice none 0 0),(.int .i64 0),(.int .i64 0),(.slice none 0 0),(.int .i64 0),(.bool false),(.int .i64 0),(.string ⟨#[]⟩),(.slice none 0 0),(.bool false)]
abbrev zfZ:List Value:=[(.string ⟨#[]⟩),(.bool false),(.int .i64 0),(.int .i64 0),(.int .i64 0),(.int .i64 0),(.slice none 0 0),(.int .i64 0),(.int .i64 0),(.slice none 0 0),(.int .i64 0),(.bool false),(.int .i64 0),(.string ⟨#[]⟩),(.slice none 0 0),(.bool false),(.slice none 0 0),(.slice none 0 0)]
abbrev zgZ:List Value:=[(.string ⟨#[]⟩),(.bool false),(.int .i64 0),(.int .i64 0),(.int .i64 0),(.int .i64 0),(.slice none 0 0),(.int .i64 0),(.int .i64 0),(.slice none 0 0),(.int .i64 0),(.bool false),(.int .i64 0),(.string ⟨#[]⟩),(.slice none 0 0),(.bool false),(.slice none 0 0)]
abbrev zhZ:List Value:=[(.string ⟨#[]⟩),(.bool false),(.int .i64 0),(.int .i64 0),(.int .i64 0),(.int .i64 0),(.slice none 0 0),(.int .i64 0),(.int .i64 0),(.slice none 0 0),(.int .i64 0),(.bool false),(.int .i64 0),(.string ⟨#[]⟩),(.slice none 0 0),(.bool false),(.slice none 0 0),(.slice none 0 0),(.slice none 0 0)]
abbrev ziZ:List Value:=[(.slice none 0 0),(.string ⟨#[]⟩),(.bool false),(.int .i64 0),(.int .i64 0),(.int .i64 0),(.int .i64 0),(.slice none 0 0),(.slice none 0 0),(.bool false)]
abbrev zjZ:List Value:=[(.string ⟨#[]⟩),(.bool false),(.int .i64 0),(.int .i64 0),(.int .i64 0),(.int .i64 0),(.slice none 0 0),(.string ⟨#[]⟩),(.bool false),(.int .i64 0),(.int .i64 0),(.int .i64 0),(.int .i64 0),(.slice none 0 0)]
abbrev Q24:Operand:=.tmp 24
abbrev Q26:Operand:=.tmp 26
abbrev Q25:Operand:=.tmp 25
abbrev Q27:Operand:=.tmp 27
abbrev Q28:Operand:=.tmp 28
abbrev Q30:Operand:=.tmp 30
abbrev Q36:Operand:=.tmp 36
abbrev Q37:Operand:=.tmp 37
abbrev Q42:Operand:=.tmp 42
abbrev Q41:Operand:=.tmp 41
abbrev Q43:Operand:=.tmp 43
abbrev Q44:Operand:=.tmp 44
abbrev Q47:Operand:=.tmp 47
abbrev Q48:Operand:=.tmp 48
abbrev Q49:Operand:=.tmp 49
abbrev Q51:Operand:=.tmp 51
abbrev Q52:Operand:=.tmp 52
abbrev Q53:Operand:=.tmp 53
abbrev Q57:Operand:=.tmp 57
abbrev Q58:Operand:=.tmp 58
abbrev Q60:Operand:=.tmp 60
abbrev Q63:Operand:=.tmp 63
abbrev Q64:Operand:=.tmp 64
abbrev Q65:Operand:=.tmp 65
abbrev Q67:Operand:=.tmp 67
abbrev Q68:Operand:=.tmp 68
abbrev Q69:Operand:=.tmp 69
abbrev Q71:Operand:=.tmp 71
abbrev Q62:Operand:=.tmp 62
abbrev Q72:Operand:=.tmp 72
abbrev Q45:Operand:=.tmp 45
abbrev Q75:Operand:=.tmp 75
abbrev Q74:Operand:=.tmp 74
abbrev Q76:Operand:=.tmp 76
abbrev Q77:Operand:=.tmp 77
abbrev Q80:Operand:=.tmp 80
abbrev Q81:Operand:=.tmp 81
abbrev Q83:Operand:=.tmp 83
abbrev Q85:Operand:=.tmp 85
abbrev Q87:Operand:=.tmp 87
abbrev Q84:Operand:=.tmp 84
abbrev Q88:Operand:=.tmp 88
abbrev Q89:Operand:=.tmp 89
abbrev Q78:Operand:=.tmp 78
abbrev Q93:Operand:=.tmp 93
abbrev Q95:Operand:=.tmp 95
abbrev Q92:Operand:=.tmp 92
abbrev Q96:Operand:=.tmp 96
abbrev Q97:Operand:=.tmp 97
abbrev Q19:Operand:=.tmp 19
abbrev Q98:Operand:=.tmp 98
abbrev Q9:Operand:=.tmp 9
abbrev Q21:Operand:=.tmp 21
abbrev Q31:Operand:=.tmp 31
abbrev Q32:Operand:=.tmp 32
abbrev Q50:Operand:=.tmp 50
abbrev Q54:Operand:=.tmp 54
abbrev Q66:Operand:=.tmp 66
abbrev Q70:Operand:=.tmp 70
abbrev Q0:Operand:=.tmp 0
abbrev Q1:Operand:=.tmp 1
abbrev Q7:Operand:=.tmp 7
abbrev Q2:Operand:=.tmp 2
abbrev Q12:Operand:=.tmp 12
abbrev Q3:Operand:=.tmp 3
abbrev Q14:Operand:=.tmp 14
abbrev Q13:Operand:=.tmp 13
abbrev Q15:Operand:=.tmp 15
abbrev Q11:Operand:=.tmp 11
abbrev Q16:Operand:=.tmp 16
abbrev Q20:Operand:=.tmp 20
abbrev Q22:Operand:=.tmp 22
abbrev Q18:Operand:=.tmp 18
abbrev Q23:Operand:=.tmp 23
abbrev Q29:Operand:=.tmp 29
abbrev Q33:Operand:=.tmp 33
abbrev Q34:Operand:=.tmp 34
abbrev Q38:Operand:=.tmp 38
abbrev Q46:Operand:=.tmp 46
abbrev Q39:Operand:=.tmp 39
abbrev Q59:Operand:=.tmp 59
abbrev Q55:Operand:=.tmp 55
abbrev Q61:Operand:=.tmp 61
abbrev Q17:Operand:=.tmp 17
abbrev Q35:Operand:=.tmp 35
abbrev Q10:Operand:=.tmp 10
abbrev Q56:Operand:=.tmp 56
abbrev Q8:Operand:=.tmp 8
abbrev Q40:Operand:=.tmp 40
abbrev Q6:Operand:=.tmp 6
abbrev Q73:Operand:=.tmp 73
abbrev Q79:Operand:=.tmp 79
abbrev Q82:Operand:=.tmp 82
abbrev Q90:Operand:=.tmp 90
abbrev Q91:Operand:=.tmp 91
abbrev Q94:Operand:=.tmp 94
abbrev Q4:Operand:=.tmp 4
abbrev Q5:Operand:=.tmp 5
abbrev Q99:Operand:=.tmp 99
abbrev Q86:Operand:=.tmp 86
def F3:FC:=X3.1
theorem F3_ok:Bc Tryz.prog 3=some F3:=X3.2
def X4:CF 4:=by refine⟨?_,?h⟩;rotate_left;conv=>lhs;cbv
def F4:FC:=X4.1
theorem F4_ok:Bc Tryz.prog 4=some F4:=X4.2
def X5:CF 5:=by refine⟨?_,?h⟩;rotate_left;conv=>lhs;cbv
def F5:FC:=X5.1
theorem F5_ok:Bc Tryz.prog 5=some F5:=X5.2
def X6:CF 6:=by refine⟨?_,?h⟩;rotate_left;conv=>lhs;cbv
def F6:FC:=X6.1
theorem F6_ok:Bc Tryz.prog 6=some F6:=X6.2
def F7 : FC := ⟨146, [.cell 6 true 6, .tmp 7, .tmp 8], (sQ [o 6 (.alloc [.int .i64 0, .int .i64 0, .int .i64 0, .slice none 0 0, .slice none 0 0, .slice none 0 0]), o 7 (.mov (kI 0)), o 8 (.mov (kI 0))] (.seq (sQ [oM 24 2, o 25 (.len 1 Q24), oM 26 1, o 27 (.len 1 Q26), o 28 (.bin .neq Q25 Q27 tI)] (.cond Q28
 (sQ [o 29 (.build [.int .i64 0, .int .i64 0, .int .i64 0, .slice none 0 0, .slice none 0 0, .slice none 0 0] []), oS 6 6 29, o 7 (.mov (kI 1)), o 8 (.mov (kI 0))] .ret) .skip)) (sQ [oM 31 0, oM 32 1, o 33 (.call 16 [Q31, Q32]), oM 30 33, o 34 (.extract Q30 0), o 35 (.extract Q30 1), o 9 (.alloc zaZ), oS 7 9 34, oM 10 35] (.seq (sQ [oM 36 10, o 37 (.bin .neq Q36 (kI 0) tI)] (.cond Q37
 (sQ [o 38 (.build [.int .i64 0, .int .i64 0, .int .i64 0, .slice none 0 0, .slice none 0 0, .slice none 0 0] []), oM 39 10, oS 6 6 38, oM 7 39, o 8 (.mov (kI 0))] .ret) .skip)) (sQ [o 40 (.buildSlice 1 0 [] []), oM 11 40] (.seq (sQ [o 12 (.mov (kI 0))] (.block 0 (.loop (.seq (sQ [oM 41 12, oM 42 2, o 43 (.len 1 Q42), o 44 (.bin .lss Q41 Q43 tI)] (.cond Q44 .skip (.exit 0)))
 (.seq (.block 1 (sQ [oM 47 1, oM 48 12, o 49 (.indexAddr 7 Q47 Q48), o 50 (.load true 7 Q49), oM 51 2, oM 52 12, o 53 (.indexAddr 6 Q51 Q52), o 54 (.load true 6 Q53), o 55 (.call 17 [Q50, Q54]), o 13 (.alloc [.int .i64 0, .slice none 0 0, .int .i64 0]), oS 3 13 55] (.seq (sQ [oA 56 0 13, oL 57 56, o 58 (.bin .neq Q57 (kI 0) tI)] (.cond Q58
 (sQ [o 59 (.build [.int .i64 0, .int .i64 0, .int .i64 0, .slice none 0 0, .slice none 0 0, .slice none 0 0] []), oA 60 0 13, oL 61 60, oS 6 6 59, ⟨none, .again 61 false 1 Q60, none⟩, oM 7 61, o 8 (.mov (kI 0))] .ret) .skip))
 (.ops [oM 62 11, oM 63 1, oM 64 12, o 65 (.indexAddr 7 Q63 Q64), o 66 (.load true 7 Q65), oM 67 2, oM 68 12, o 69 (.indexAddr 6 Q67 Q68), o 70 (.load true 6 Q69), o 71 (.call 18 [Q66, Q70]), o 72 (.buildSlice 1 1 [.slice none 0 0] [(0, 1, Q71)]), o 73 (.append 1 24 Q62 Q72), oM 11 73])))) (.ops [oM 45 12, o 46 (.bin .add Q45 (kI 1) tI), oM 12 46])))))) (.seq (sQ [o 14 (.mov (kI 1))]
 (.block 2 (.loop (.seq (sQ [oM 74 14, oM 75 11, o 76 (.len 1 Q75), o 77 (.bin .lss Q74 Q76 tI)] (.cond Q77 .skip (.exit 2))) (.seq (.block 3 (sQ [oM 80 11, oM 81 14, o 82 (.indexAddr 1 Q80 Q81), oL 83 82, o 84 (.len 1 Q83), oM 85 11, o 86 (.indexAddr 1 Q85 (kI 0)), oL 87 86, o 88 (.len 1 Q87), o 89 (.bin .neq Q84 Q88 tI)] (.cond Q89
 (sQ [o 90 (.build [.int .i64 0, .int .i64 0, .int .i64 0, .slice none 0 0, .slice none 0 0, .slice none 0 0] []), oS 6 6 90, o 7 (.mov (kI 6)), o 8 (.mov (kI 0))] .ret) .skip))) (.ops [oM 78 14, o 79 (.bin .add Q78 (kI 1) tI), oM 14 79])))))) (sQ [o 91 (.buildSlice 4 0 [] []), oM 15 91] (.seq (sQ [o 16 (.mov (kI 0))]
 (.block 4 (.loop (.seq (sQ [oM 92 16, oM 93 11, o 94 (.indexAddr 1 Q93 (kI 0)), oL 95 94, o 96 (.len 1 Q95), o 97 (.bin .lss Q92 Q96 tI)] (.cond Q97 .skip (.exit 4))) (.seq (.block 5 (sQ [o 100 (.buildSlice 4 0 [] []), oM 17 100] (.seq (sQ [o 18 (.mov (kI 0))] (.block 6 (.loop (.seq (sQ [oM 101 18, oM 102 11, o 103 (.len 1 (q 102)), o 104 (.bin .lss (q 101) (q 103) tI)] (.cond (q 104) .skip
 (.exit 6))) (.seq (.block 7 (.ops [oM 107 17, oM 108 11, oM 109 18, o 110 (.indexAddr 1 (q 108) (q 109)), oL 111 110, oM 112 16, o 113 (.indexAddr 4 (q 111) (q 112)), o 114 (.load true 4 (q 113)), o 115 (.buildSlice 4 1 zbZ [(0, 4, (q 114))]), o 116 (.append 4 56 (q 107) (q 115)), oM 17 116])) (.ops [oM 105 18, o 106 (.bin .add (q 105) (kI 1) tI), oM 18 106]))))))
 (sQ [oM 118 0, oM 119 1, oM 120 17, o 121 (.call 19 [.tmp 118, .tmp 119, .tmp 120]), oM 117 121, o 122 (.extract (q 117) 0), o 123 (.extract (q 117) 1), o 19 (.alloc zbZ), oS 4 19 122, oM 20 123] (.seq (sQ [oM 124 20, o 125 (.bin .neq (q 124) (kI 0) tI)] (.cond (q 125)
 (sQ [o 126 (.build [.int .i64 0, .int .i64 0, .int .i64 0, .slice none 0 0, .slice none 0 0, .slice none 0 0] []), oM 127 20, oM 128 16, oS 6 6 126, oM 7 127, oM 8 128] .ret) .skip)) (.ops [oM 129 15, o 130 (.load true 4 Q19), o 131 (.buildSlice 4 1 zbZ [(0, 4, (q 130))]), o 132 (.append 4 56 (q 129) (q 131)), oM 15 132])))))) (.ops [oM 98 16, o 99 (.bin .add Q98 (kI 1) tI), oM 16 99]))))))
 (sQ [o 134 (.load true 7 Q9), oM 135 15, o 136 (.call 10 [.tmp 134, .tmp 135]), oM 133 136, o 137 (.extract (q 133) 0), o 138 (.extract (q 133) 1), o 139 (.extract (q 133) 2), o 21 (.alloc [.int .i64 0, .int .i64 0, .int .i64 0, .slice none 0 0, .slice none 0 0, .slice none 0 0]), oS 6 21 137, oM 22 138, oM 23 139] (.seq (sQ [oM 140 22, o 141 (.bin .neq (q 140) (kI 0) tI)] (.cond (q 141)
 (sQ [o 142 (.build [.int .i64 0, .int .i64 0, .int .i64 0, .slice none 0 0, .slice none 0 0, .slice none 0 0] []), oM 143 22, oM 144 23, oS 6 6 142, oM 7 143, oM 8 144] .ret) .skip)) (sQ [o 145 (.load true 6 Q21), oS 6 6 145, o 7 (.mov (kI 0)), o 8 (.mov (kI 0))] .ret))))))))))))⟩
theorem F7_ok:Bc Tryz.prog 7=some F7:=by kernel_rfl
def F8 : FC := ⟨66, [.tmp 4], (sQ [o 2 (.box Q0), o 3 (.box Q1), o 4 (.mov kF)]
 (.seq (sQ [oA 6 0 2, oL 7 6, oA 8 0 3, oL 9 8, o 10 (.bin .neq Q7 Q9 tI), oM 11 10, og 12 (.fieldAddr 1 Q2) 11 false, og 13 (.load false 1 Q12) 11 false, og 14 (.fieldAddr 1 Q3) 11 false, og 15 (.load false 1 Q14) 11 false, og 16 (.bin .neq Q13 Q15 tI) 11 false, o 17 (.pick Q11 kT Q16), oM 18 17, og 19 (.fieldAddr 2 Q2) 18 false, og 20 (.load false 1 Q19) 18 false, og 21 (.fieldAddr 2 Q3) 18 false, og 22 (.load false 1 Q21) 18 false, og 23 (.bin .neq Q20 Q22 tI) 18 false, o 24 (.pick Q18 kT Q23), oM 25 24, og 26 (.fieldAddr 3 Q2) 25 false, og 27 (.load false 1 Q26) 25 false, og 28 (.len 1 Q27) 25 false, og 29 (.fieldAddr 3 Q3) 25 false, og 30 (.load false 1 Q29) 25 false, og 31 (.len 1 Q30) 25 false, og 32 (.bin .neq Q28 Q31 tI) 25 false, o 33 (.pick Q25 kT Q32)]
 (.cond Q33 (sQ [o 4 (.mov kF)] .ret) .skip)) (.seq (sQ [o 5 (.mov (kI 0))] (.block 0 (.loop (.seq (sQ [oM 34 5, oA 35 3 2, oL 36 35, o 37 (.len 1 Q36), o 38 (.bin .lss Q34 Q37 tI)] (.cond Q38 .skip (.exit 0)))
 (.seq (.block 1 (sQ [oA 41 3 2, oL 42 41, oM 43 5, o 44 (.indexAddr 1 Q42 Q43), oL 45 44, o 46 (.b2s Q45), oA 47 3 3, oL 48 47, oM 49 5, o 50 (.indexAddr 1 Q48 Q49), oL 51 50, o 52 (.b2s Q51), o 53 (.bin .neq Q46 Q52 (some .string))] (.cond Q53 (sQ [o 4 (.mov kF)] .ret) .skip))) (.ops [oM 39 5, o 40 (.bin .add Q39 (kI 1) tI), oM 5 40]))))))
 (sQ [oA 54 4 2, oL 55 54, oA 56 4 3, oL 57 56, o 58 (.call 20 [Q55, Q57]), oM 59 58, og 60 (.fieldAddr 5 Q2) 59 true, og 61 (.load false 1 Q60) 59 true, og 62 (.fieldAddr 5 Q3) 59 true, og 63 (.load false 1 Q62) 59 true, og 64 (.call 20 [Q61, Q63]) 59 true, o 65 (.pick Q59 Q64 kF), oM 4 65] .ret))))⟩
theorem F8_ok:Bc Tryz.prog 8=some F8:=by kernel_rfl
def X9:CF 9:=by refine⟨?_,?h⟩;rotate_left;conv=>lhs;cbv
def F9:FC:=X9.1
theorem F9_ok:Bc Tryz.prog 9=some F9:=X9.2
def X10:CF 10:=by refine⟨?_,?h⟩;rotate_left;conv=>lhs;cbv
def F10:FC:=X10.1
theorem F10_ok:Bc Tryz.prog 10=some F10:=X10.2
def X11:CF 11:=by refine⟨?_,?h⟩;rotate_left;conv=>lhs;cbv
def F11:FC:=X11.1
theorem F11_ok:Bc Tryz.prog 11=some F11:=X11.2
def F12 : FC := ⟨69, [.cell 4 true 7, .tmp 5, .tmp 6], (sQ [o 2 (.box Q0), o 4 (.alloc zaZ), o 5 (.mov (.const (.slice none 0 0))), o 6 (.mov (kI 0))]
 (.seq (sQ [oA 13 0 2, oL 14 13, o 15 (.bin .eql Q14 (kI 0) tI), oM 16 15, og 17 (.mov Q1) 16 false, og 18 (.len 1 Q17) 16 false, og 19 (.fieldAddr 0 Q2) 16 false, og 20 (.load false 1 Q19) 16 false, og 21 (.bin .neq Q18 Q20 tI) 16 false, o 22 (.pick Q16 kT Q21)] (.cond Q22 (sQ [o 23 (.build zaZ []), oS 7 4 23, o 5 (.mov (.const (.slice none 0 0))), o 6 (.mov (kI 1))] .ret) .skip))
 (sQ [o 7 (.mov (.const (.slice none 0 0)))] (.seq (sQ [oM 24 1, o 25 (.len 1 Q24), o 26 (.mov (kI 0))] (.block 0 (.loop (sQ [o 27 (.bin .lss Q26 Q25 tI)] (.seq (.cond Q27 .skip (.exit 0)) (.seq (.block 1 (sQ [o 28 (.indexAddr 7 Q24 Q26), o 29 (.load true 7 Q28), o 9 (.alloc zaZ), oS 7 9 29]
 (.seq (sQ [o 30 (.load true 7 Q9), o 31 (.call 51 [Q30]), o 32 (.field false 0 1 Q31), o 33 (.bin .neq Q32 (kI 0) tI)] (.cond Q33 (sQ [o 34 (.build zaZ []), oS 7 4 34, o 5 (.mov (.const (.slice none 0 0))), o 6 (.mov (kI 5))] .ret) .skip)) (.ops [oM 35 7, o 36 (.load true 7 Q9), o 37 (.call 52 [Q36]), o 38 (.buildSlice 7 1 zaZ [(0, 7, Q37)]), o 39 (.append 7 80 Q35 Q38), oM 7 39]))))
 (.ops [o 40 (.bin .add Q26 (kI 1) tI), oM 26 40]))))))) (sQ [oA 42 1 2, oL 43 42, oM 44 7, o 45 (.callv Q43 [Q44]), oM 41 45, o 46 (.extract Q41 0), o 47 (.extract Q41 1), o 10 (.alloc [.int .i64 0, .int .i64 0, .int .i64 0, .int .i64 0, .slice none 0 0]), oS 5 10 46, oM 11 47] (.seq (sQ [oM 48 11, o 49 (.un .not Q48)] (.cond Q49
 (sQ [o 50 (.build zaZ []), oS 7 4 50, o 5 (.mov (.const (.slice none 0 0))), o 6 (.mov (kI 5))] .ret) .skip))
 (sQ [oM 51 1, o 52 (.indexAddr 7 Q51 (kI 0)), oA 53 0 52, oL 54 53, oA 55 2 2, oL 56 55, oM 57 7, o 59 (.load true 5 Q10), o 58 (.callv Q56 [Q57]), ⟨none, .again 59 true 5 Q10, none⟩, ⟨none, .again 54 false 1 Q53, none⟩, o 60 (.build zaZ [(0, 1, Q54), (1, 1, Q58), (2, 5, Q59)]), o 61 (.call 53 [Q60]), o 12 (.alloc zaZ), oS 7 12 61]
 (.seq (sQ [o 62 (.load true 7 Q12), o 63 (.call 51 [Q62]), o 64 (.field false 0 1 Q63), o 65 (.bin .neq Q64 (kI 0) tI)] (.cond Q65 (sQ [o 66 (.build zaZ []), oS 7 4 66, o 5 (.mov (.const (.slice none 0 0))), o 6 (.mov (kI 5))] .ret) .skip)) (sQ [o 67 (.load true 7 Q12), oM 68 7, oS 7 4 67, oM 5 68, o 6 (.mov (kI 0))] .ret)))))))))⟩
theorem F12_ok:Bc Tryz.prog 12=some F12:=by kernel_rfl
def F13 : FC := ⟨55, [.tmp 4, .tmp 5], (sQ [o 4 (.mov (.const (.slice none 0 0))), o 5 (.mov (kI 0))] (sQ [o 6 (.mov (.const (.slice none 0 0)))] (.seq (sQ [oM 13 1, o 14 (.len 1 Q13), o 15 (.mov (kI 0))] (.block 0 (.loop (sQ [o 16 (.bin .lss Q15 Q14 tI)] (.seq (.cond Q16 .skip (.exit 0))
 (.seq (.block 1 (sQ [oM 17 15, o 18 (.indexAddr 6 Q13 Q15), o 19 (.load true 6 Q18), o 8 (.alloc [.int .i64 0, .int .i64 0, .int .i64 0, .slice none 0 0, .slice none 0 0, .slice none 0 0]), oM 7 17, oS 6 8 19]
 (sQ [oM 21 0, oM 22 7, o 23 (.indexAddr 7 Q21 Q22), o 24 (.load true 7 Q23), o 25 (.load true 6 Q8), o 26 (.call 54 [Q24, Q25]), oM 20 26, o 27 (.extract Q20 0), o 28 (.extract Q20 1), oM 9 27, o 10 (.alloc [.int .i64 0, .slice none 0 0, .int .i64 0]), oS 3 10 28] (.seq (sQ [oA 29 0 10, oL 30 29, o 31 (.bin .neq Q30 (kI 0) tI)] (.cond Q31
 (sQ [oA 32 0 10, oL 33 32, o 4 (.mov (.const (.slice none 0 0))), oM 5 33] .ret) .skip)) (.ops [oM 34 6, oM 35 9, o 36 (.call 55 [Q35]), o 37 (.buildSlice 1 1 [.slice none 0 0] [(0, 1, Q36)]), o 38 (.append 1 24 Q34 Q37), oM 6 38]))))) (.ops [o 39 (.bin .add Q15 (kI 1) tI), oM 15 39]))))))) (.seq (sQ [oM 40 6, o 41 (.len 1 Q40), o 42 (.mov (kI 0))]
 (.block 2 (.loop (sQ [o 43 (.bin .lss Q42 Q41 tI)] (.seq (.cond Q43 .skip (.exit 2)) (.seq (.block 3 (sQ [o 44 (.indexAddr 1 Q40 Q42), oL 45 44, oM 12 45] (sQ [oM 46 12, o 47 (.len 1 Q46), oM 48 6, o 49 (.indexAddr 1 Q48 (kI 0)), oL 50 49, o 51 (.len 1 Q50), o 52 (.bin .neq Q47 Q51 tI)] (.cond Q52 (sQ [o 4 (.mov (.const (.slice none 0 0))), o 5 (.mov (kI 6))] .ret) .skip))))
 (.ops [o 53 (.bin .add Q42 (kI 1) tI), oM 42 53]))))))) (sQ [oM 54 6, oM 4 54, o 5 (.mov (kI 0))] .ret)))))⟩
theorem F13_ok:Bc Tryz.prog 13=some F13:=by kernel_rfl
def X14:CF 14:=by refine⟨?_,?h⟩;rotate_left;conv=>lhs;cbv
def F14:FC:=X14.1
theorem F14_ok:Bc Tryz.prog 14=some F14:=X14.2
def X15:CF 15:=by refine⟨?_,?h⟩;rotate_left;conv=>lhs;cbv
def F15:FC:=X15.1
theorem F15_ok:Bc Tryz.prog 15=some F15:=X15.2
def F16 : FC := ⟨263, [.cell 4 true 7, .tmp 5], (sQ [o 4 (.alloc zaZ), o 5 (.mov (kI 0))] (.seq (sQ [oM 17 1, o 18 (.len 1 Q17), oM 19 0, o 20 (.call 59 [Q19]), o 21 (.bin .neq Q18 Q20 tI)] (.cond Q21 (sQ [o 22 (.build zaZ []), oS 7 4 22, o 5 (.mov (kI 1))] .ret) .skip)) (sQ [o 23 (.buildSlice 7 0 [] []), oM 6 23] (sQ [o 7 (.mov kF), o 8 (.mov kT)] (.seq (sQ [o 9 (.mov (kI 0))]
 (.block 0 (.loop (.seq (sQ [oM 24 9, oM 25 1, o 26 (.len 1 Q25), o 27 (.bin .lss Q24 Q26 tI)] (.cond Q27 .skip (.exit 0))) (.seq (.block 1 (sQ [oM 30 1, oM 31 9, o 32 (.indexAddr 7 Q30 Q31), o 33 (.load true 7 Q32), o 34 (.call 21 [Q33]), oM 10 34] (.seq (sQ [oM 35 10, o 36 (.un .not Q35)] (.cond Q36 (sQ [o 37 (.build zaZ []), oS 7 4 37, o 5 (.mov (kI 5))] .ret) .skip))
 (sQ [oM 38 1, oM 39 9, o 40 (.indexAddr 7 Q38 Q39), o 41 (.load true 7 Q40), o 42 (.call 60 [Q41]), o 11 (.alloc zaZ), oS 7 11 42] (sQ [oM 43 6, o 44 (.load true 7 Q11), o 45 (.buildSlice 7 1 zaZ [(0, 7, Q44)]), o 46 (.append 7 80 Q43 Q45), oM 6 46] (sQ [oM 47 7, oM 48 47, og 49 (.fieldAddr 1 Q11) 48 false, og 50 (.load false 1 Q49) 48 false, o 51 (.pick Q48 kT Q50), oM 7 51]
 (.ops [oM 52 8, oM 53 52, og 54 (.fieldAddr 1 Q11) 53 true, og 55 (.load false 1 Q54) 53 true, o 56 (.pick Q53 Q55 kF), oM 8 56]))))))) (.ops [oM 28 9, o 29 (.bin .add Q28 (kI 1) tI), oM 9 29]))))))
 (sQ [oM 57 1, o 58 (.indexAddr 7 Q57 (kI 0)), oA 59 0 58, oL 60 59, oM 61 7, o 62 (.build [.int .i64 0, .int .i64 0, .int .i64 0, .int .i64 0, .slice none 0 0] [(0, 1, (kI 2))]), o 63 (.build zaZ [(0, 1, Q60), (1, 1, Q61), (2, 5, Q62)]), o 12 (.alloc zaZ), oS 7 12 63] (sQ [oM 64 6, o 65 (.indexAddr 7 Q64 (kI 0)), oA 66 2 65, oA 67 0 66, oL 68 67, oM 13 68]
 (sQ [oM 69 6, o 70 (.len 1 Q69), o 71 (.bin .gtr Q70 (kI 1) tI), oM 72 71, og 73 (.mov Q6) 72 true, og 74 (.indexAddr 7 Q73 (kI 1)) 72 true, og 75 (.fieldAddr 2 Q74) 72 true, og 76 (.fieldAddr 0 Q75) 72 true, og 77 (.load false 1 Q76) 72 true, og 78 (.mov Q13) 72 true, og 79 (.bin .eql Q77 Q78 tI) 72 true, o 80 (.pick Q72 Q79 kF), oM 14 80] (sQ [o 15 (.mov kF)] (.seq (sQ [oM 81 0]
 (.block 2 (.seq (sQ [o 83 (.bin .eql Q81 (kI 1) tI), oM 82 83] (.cond Q82 .skip (sQ [o 84 (.bin .eql Q81 (kI 2) tI), oM 82 84] (.cond Q82 .skip (sQ [o 85 (.bin .eql Q81 (kI 3) tI), oM 82 85] (.cond Q82 .skip (.ops [o 86 (.bin .eql Q81 (kI 4) tI), oM 82 86]))))))) (.cond Q82
 (sQ [oM 87 14, oM 88 87, og 89 (.mov Q13) 88 true, og 90 (.call 61 [Q89]) 88 true, og 91 (.mov Q90) 88 true, og 92 (.mov Q13) 91 false, og 93 (.bin .eql Q92 (kI 11) tI) 91 false, og 94 (.pick Q91 kT Q93) 88 true, o 95 (.pick Q88 Q94 kF), oM 15 95] (.ops [oM 96 6, o 97 (.indexAddr 7 Q96 (kI 0)), oA 98 2 97, o 99 (.load true 5 Q98), oA 100 2 12, oS 5 100 99]))
 (sQ [o 102 (.bin .eql Q81 (kI 5) tI), oM 101 102] (.cond (q 101) (sQ [oM 103 14, oM 104 103, og 105 (.mov Q13) 104 true, og 106 (.call 61 [.tmp 105]) 104 true, o 107 (.pick (q 104) (q 106) kF), oM 15 107] (.ops [oM 108 6, o 109 (.indexAddr 7 (q 108) (kI 0)), oA 110 2 109, o 111 (.load true 5 (q 110)), oA 112 2 12, oS 5 112 111])) (sQ [o 114 (.bin .eql Q81 (kI 6) tI), oM 113 114] (.cond (q 113)
 (sQ [oM 115 13, o 116 (.bin .geq (q 115) (kI 3) tI), oM 117 116, og 118 (.mov Q13) 117 true, og 119 (.bin .leq (q 118) (kI 6) tI) 117 true, o 120 (.pick (q 117) (q 119) kF), oM 121 120, og 122 (.mov Q13) 121 false, og 123 (.bin .eql (q 122) (kI 11) tI) 121 false, o 124 (.pick (q 121) kT (q 123)), oM 15 124]
 (.ops [oM 125 6, o 126 (.indexAddr 7 (q 125) (kI 0)), oA 127 2 126, o 128 (.load true 5 (q 127)), oA 129 2 12, oS 5 129 128])) (.seq (sQ [o 131 (.bin .eql Q81 (kI 7) tI), oM 130 131] (.cond (q 130) .skip (sQ [o 132 (.bin .eql Q81 (kI 8) tI), oM 130 132] (.cond (q 130) .skip (sQ [o 133 (.bin .eql Q81 (kI 9) tI), oM 130 133] (.cond (q 130) .skip (sQ [o 134 (.bin .eql Q81 (kI 10) tI), oM 130 134]
 (.cond (q 130) .skip (sQ [o 135 (.bin .eql Q81 (kI 11) tI), oM 130 135] (.cond (q 130) .skip (.ops [o 136 (.bin .eql Q81 (kI 12) tI), oM 130 136]))))))))))) (.cond (q 130)
 (.ops [oM 137 6, o 138 (.indexAddr 7 (q 137) (kI 0)), oA 139 2 138, o 140 (.load true 5 (q 139)), oM 141 6, o 142 (.indexAddr 7 (q 141) (kI 1)), oA 143 2 142, o 144 (.load true 5 (q 143)), o 145 (.call 62 [.tmp 140, .tmp 144]), oM 15 145]) (.seq (sQ [o 147 (.bin .eql Q81 (kI 13) tI), oM 146 147] (.cond (q 146) .skip (.ops [o 148 (.bin .eql Q81 (kI 14) tI), oM 146 148]))) (.cond (q 146)
 (.ops [oM 149 14, oM 150 149, og 151 (.mov Q13) 150 true, og 152 (.bin .eql (q 151) (kI 2) tI) 150 true, o 153 (.pick (q 150) (q 152) kF), oM 15 153]) (sQ [o 155 (.bin .eql Q81 (kI 15) tI), oM 154 155] (.cond (q 154) (.ops [oM 156 13, o 157 (.bin .eql (q 156) (kI 2) tI), oM 15 157]) (sQ [o 159 (.bin .eql Q81 (kI 16) tI), oM 158 159] (.cond (q 158) (sQ [o 15 (.mov kT)]
 (.ops [oA 160 1 12, ⟨none, .store 1 (q 160) kF, none⟩])) (sQ [o 162 (.bin .eql Q81 (kI 17) tI), oM 161 162] (.cond (q 161) (sQ [oM 163 6, o 164 (.indexAddr 7 (q 163) (kI 0)), oA 165 2 164, o 166 (.load true 5 (q 165)), oM 167 6, o 168 (.indexAddr 7 (q 167) (kI 1)), oA 169 2 168, o 170 (.load true 5 (q 169)), o 171 (.call 62 [.tmp 166, .tmp 170]), oM 15 171]
 (sQ [oM 172 6, o 173 (.indexAddr 7 (q 172) (kI 0)), oA 174 2 173, o 175 (.load true 5 (q 174)), oA 176 2 12, oS 5 176 175] (.ops [oM 177 8, oA 178 1 12, oS 1 178 177]))) (sQ [o 180 (.bin .eql Q81 (kI 18) tI), oM 179 180] (.cond (q 179)
 (sQ [oM 181 13, o 182 (.bin .eql (q 181) (kI 2) tI), oM 183 182, og 184 (.mov Q6) 183 true, og 185 (.indexAddr 7 (q 184) (kI 1)) 183 true, og 186 (.fieldAddr 2 (q 185)) 183 true, og 187 (.load true 5 (q 186)) 183 true, og 188 (.mov Q6) 183 true, og 189 (.indexAddr 7 (q 188) (kI 2)) 183 true, og 190 (.fieldAddr 2 (q 189)) 183 true, og 191 (.load true 5 (q 190)) 183 true, og 192 (.call 62 [.tmp 187, .tmp 191]) 183 true, o 193 (.pick (q 183) (q 192) kF), oM 15 193]
 (sQ [oM 194 6, o 195 (.indexAddr 7 (q 194) (kI 1)), oA 196 2 195, o 197 (.load true 5 (q 196)), oA 198 2 12, oS 5 198 197]
 (.ops [oM 199 6, o 200 (.indexAddr 7 (q 199) (kI 1)), oA 201 1 200, oL 202 201, oM 203 202, og 204 (.mov Q6) 203 false, og 205 (.indexAddr 7 (q 204) (kI 2)) 203 false, og 206 (.fieldAddr 1 (q 205)) 203 false, og 207 (.load false 1 (q 206)) 203 false, o 208 (.pick (q 203) kT (q 207)), oA 209 1 12, oS 1 209 208]))) (sQ [o 211 (.bin .eql Q81 (kI 19) tI), oM 210 211] (.cond (q 210)
 (sQ [oM 212 14, oM 213 212, og 214 (.mov Q13) 213 true, og 215 (.call 63 [.tmp 214]) 213 true, o 216 (.pick (q 213) (q 215) kF), oM 15 216] (.ops [oM 217 6, o 218 (.indexAddr 7 (q 217) (kI 0)), oA 219 2 218, o 220 (.load true 5 (q 219)), oA 221 2 12, oS 5 221 220])) (sQ [o 223 (.bin .eql Q81 (kI 20) tI), oM 222 223] (.cond (q 222)
 (sQ [oM 224 13, o 225 (.call 63 [.tmp 224]), oM 226 225, og 227 (.mov Q13) 226 false, og 228 (.bin .eql (q 227) (kI 14) tI) 226 false, o 229 (.pick (q 226) kT (q 228)), oM 230 229, og 231 (.mov Q13) 230 false, og 232 (.bin .eql (q 231) (kI 15) tI) 230 false, o 233 (.pick (q 230) kT (q 232)), oM 234 233, og 235 (.mov Q13) 234 false, og 236 (.bin .eql (q 235) (kI 16) tI) 234 false, o 237 (.pick (q 234) kT (q 236)), oM 15 237]
 (.ops [oA 238 2 12, oA 239 0 238, ⟨none, .store 1 (q 239) (kI 6), none⟩])) (.seq (sQ [o 241 (.bin .eql Q81 (kI 21) tI), oM 240 241] (.cond (q 240) .skip (.ops [o 242 (.bin .eql Q81 (kI 22) tI), oM 240 242]))) (.cond (q 240) (.ops [oM 243 14, oM 244 243, og 245 (.mov Q13) 244 true, og 246 (.call 63 [.tmp 245]) 244 true, o 247 (.pick (q 244) (q 246) kF), oM 15 247]) .skip))))))))))))))))))))))))))
 (.seq (sQ [oM 248 15, o 249 (.un .not (q 248))] (.cond (q 249) (sQ [o 250 (.build zaZ []), oS 7 4 250, o 5 (.mov (kI 5))] .ret) .skip)) (sQ [oA 251 2 12, oA 252 4 251, oL 253 252, o 254 (.call 64 [.tmp 253]), oA 255 2 12, oA 256 4 255, oS 1 256 254] (sQ [o 257 (.load true 7 Q12), o 258 (.call 21 [.tmp 257]), oM 16 258] (.seq (sQ [oM 259 16, o 260 (.un .not (q 259))] (.cond (q 260)
 (sQ [o 261 (.build zaZ []), oS 7 4 261, o 5 (.mov (kI 5))] .ret) .skip)) (sQ [o 262 (.load true 7 Q12), oS 7 4 262, o 5 (.mov (kI 0))] .ret)))))))))))))))⟩
theorem F16_ok:Bc Tryz.prog 16=some F16:=by kernel_rfl
def X17:CF 17:=by refine⟨?_,?h⟩;rotate_left;conv=>lhs;cbv
def F17:FC:=X17.1
theorem F17_ok:Bc Tryz.prog 17=some F17:=X17.2
def X18:CF 18:=by refine⟨?_,?h⟩;rotate_left;conv=>lhs;cbv
def F18:FC:=X18.1
theorem F18_ok:Bc Tryz.prog 18=some F18:=X18.2
def X19:CF 19:=by refine⟨?_,?h⟩;rotate_left;conv=>lhs;cbv
def F19:FC:=X19.1
theorem F19_ok:Bc Tryz.prog 19=some F19:=X19.2
def F20 : FC := ⟨27, [.tmp 4], (sQ [o 4 (.mov kF)] (.seq (sQ [oM 6 0, o 7 (.len 1 Q6), oM 8 1, o 9 (.len 1 Q8), o 10 (.bin .neq Q7 Q9 tI)] (.cond Q10 (sQ [o 4 (.mov kF)] .ret) .skip)) (.seq (sQ [o 5 (.mov (kI 0))] (.block 0 (.loop (.seq (sQ [oM 11 5, oM 12 0, o 13 (.len 1 Q12), o 14 (.bin .lss Q11 Q13 tI)] (.cond Q14 .skip (.exit 0)))
 (.seq (.block 1 (sQ [oM 17 0, oM 18 5, o 19 (.indexAddr 6 Q17 Q18), o 20 (.load true 6 Q19), oM 21 1, oM 22 5, o 23 (.indexAddr 6 Q21 Q22), o 24 (.load true 6 Q23), o 25 (.call 8 [Q20, Q24]), o 26 (.un .not Q25)] (.cond Q26 (sQ [o 4 (.mov kF)] .ret) .skip))) (.ops [oM 15 5, o 16 (.bin .add Q15 (kI 1) tI), oM 5 16])))))) (sQ [o 4 (.mov kT)] .ret))))⟩
theorem F20_ok:Bc Tryz.prog 20=some F20:=by kernel_rfl
def X21:CF 21:=by refine⟨?_,?h⟩;rotate_left;conv=>lhs;cbv
def F21:FC:=X21.1
theorem F21_ok:Bc Tryz.prog 21=some F21:=X21.2
def F22 : FC := ⟨56, [.tmp 2], (sQ [o 1 (.box Q0), o 2 (.mov (.const (.pointer none)))] (sQ [o 6 (.load true 7 Q1), o 7 (.build zcZ [(0, 7, Q6)]), o 8 (.box Q7), oM 3 8] (sQ [oA 9 2 1, o 10 (.load true 5 Q9), o 4 (.alloc [.int .i64 0, .int .i64 0, .int .i64 0, .int .i64 0, .slice none 0 0]), oS 5 4 10] (.seq (sQ [o 5 (.mov (kI 0))]
 (.block 0 (.loop (.seq (sQ [oM 11 5, oA 12 4 4, oL 13 12, o 14 (.len 1 Q13), o 15 (.bin .lss Q11 Q14 tI)] (.cond Q15 .skip (.exit 0)))
 (.seq (.block 1 (.ops [oM 18 3, oM 19 3, o 20 (.nilCheck Q19), oA 21 18 20, oL 22 21, oA 23 4 4, oL 24 23, oM 25 5, o 26 (.indexAddr 7 Q24 Q25), o 27 (.load true 7 Q26), o 28 (.call 22 [Q27]), ⟨none, .again 22 false 1 Q21, none⟩, o 29 (.buildSlice 1 1 [.pointer none] [(0, 1, Q28)]), ⟨none, .again 22 false 1 Q21, none⟩, o 30 (.append 1 8 Q22 Q29), o 31 (.nilCheck Q18), oA 32 18 31, oS 1 32 30]))
 (.ops [oM 16 5, o 17 (.bin .add Q16 (kI 1) tI), oM 5 17]))))))
 (.seq (sQ [oA 33 0 4, oL 34 33, o 35 (.bin .eql Q34 (kI 12) tI), oM 36 35, og 37 (.fieldAddr 0 Q4) 36 false, og 38 (.load false 1 Q37) 36 false, og 39 (.bin .eql Q38 (kI 13) tI) 36 false, o 40 (.pick Q36 kT Q39), oM 41 40, og 42 (.fieldAddr 0 Q4) 41 false, og 43 (.load false 1 Q42) 41 false, og 44 (.bin .eql Q43 (kI 15) tI) 41 false, o 45 (.pick Q41 kT Q44)] (.cond Q45
 (.ops [oM 46 3, oM 47 3, o 48 (.nilCheck Q47), oA 49 13 48, oL 50 49, o 51 (.buildSlice 1 1 [.int .i64 0] [(0, 1, (kI 0))]), o 52 (.append 1 8 Q50 Q51), o 53 (.nilCheck Q46), oA 54 13 53, oS 1 54 52]) .skip)) (sQ [oM 55 3, oM 2 55] .ret))))))⟩
theorem F22_ok:Bc Tryz.prog 22=some F22:=by kernel_rfl
def X23:CF 23:=by refine⟨?_,?h⟩;rotate_left;conv=>lhs;cbv
def F23:FC:=X23.1
theorem F23_ok:Bc Tryz.prog 23=some F23:=X23.2
def X25:CF 25:=by refine⟨?_,?h⟩;rotate_left;conv=>lhs;cbv
def F25:FC:=X25.1
theorem F25_ok:Bc Tryz.prog 25=some F25:=X25.2
def X26:CF 26:=by refine⟨?_,?h⟩;rotate_left;conv=>lhs;cbv
def F26:FC:=X26.1
theorem F26_ok:Bc Tryz.prog 26=some F26:=X26.2
def X27:CF 27:=by refine⟨?_,?h⟩;rotate_left;conv=>lhs;cbv
def F27:FC:=X27.1
theorem F27_ok:Bc Tryz.prog 27=some F27:=X27.2
def F28 : FC := ⟨18, [.cell 2 true 5, .tmp 3], (sQ [o 2 (.alloc [.int .i64 0, .int .i64 0, .int .i64 0, .int .i64 0, .slice none 0 0]), o 3 (.mov kF)] (sQ [oM 7 0, o 8 (.call 25 [Q7]), oM 6 8, o 9 (.extract Q6 0), o 10 (.extract Q6 1), o 4 (.alloc [.int .i64 0, .int .i64 0, .int .i64 0, .int .i64 0, .slice none 0 0]), oS 5 4 9, oM 5 10]
 (sQ [o 11 (.load true 5 Q4), oM 12 5, oM 13 12, og 14 (.fieldAddr 0 Q4) 13 true, og 15 (.load false 1 Q14) 13 true, og 16 (.call 76 [Q15]) 13 true, ⟨none, .again 11 true 5 Q4, none⟩, o 17 (.pick Q13 Q16 kF), oS 5 2 11, oM 3 17] .ret)))⟩
theorem F28_ok:Bc Tryz.prog 28=some F28:=by kernel_rfl
def F169 : FC := ⟨133, [.tmp 4], (sQ [o 4 (.mov (.const (.int .u64 0)))]
 (.seq (.block 0 (sQ [oM 14 0, o 15 (.call 235 [Q14]), oM 16 15, og 17 (.mov Q1) 16 false, og 18 (.call 235 [Q17]) 16 false, o 19 (.pick Q16 kT Q18), oM 20 19, og 21 (.mov Q0) 20 false, og 22 (.call 236 [Q21]) 20 false, og 23 (.mov Q22) 20 false, og 24 (.mov Q1) 23 true, og 25 (.call 236 [Q24]) 23 true, og 26 (.pick Q23 Q25 kF) 20 false, og 27 (.mov Q26) 20 false, og 28 (.mov Q0) 27 true, og 29 (.mov Q1) 27 true, og 30 (.bin .neq Q28 Q29 (some (.int .u64))) 27 true, og 31 (.pick Q27 Q30 kF) 20 false, o 32 (.pick Q20 kT Q31), oM 13 32]
 (.cond Q13 (sQ [o 4 (.mov (.const (.int .u64 9221120237041090560)))] .ret) (sQ [oM 34 0, o 35 (.call 236 [Q34]), oM 33 35] (.cond Q33 (sQ [oM 36 0, oM 4 36] .ret) (sQ [oM 38 1, o 39 (.call 236 [Q38]), oM 37 39] (.cond Q37 (sQ [oM 40 1, oM 4 40] .ret) .skip))))))) (sQ [oM 42 0, o 43 (.call 237 [Q42]), oM 41 43, o 44 (.extract Q41 0), o 45 (.extract Q41 1), oM 5 44, oM 6 45]
 (sQ [oM 47 1, o 48 (.call 237 [Q47]), oM 46 48, o 49 (.extract Q46 0), o 50 (.extract Q46 1), oM 7 49, oM 8 50] (.seq (sQ [oM 51 5, o 52 (.bin .eql Q51 (.const (.int .u64 0)) (some (.int .u64))), oM 53 52, og 54 (.mov Q7) 53 true, og 55 (.bin .eql Q54 (.const (.int .u64 0)) (some (.int .u64))) 53 true, o 56 (.pick Q53 Q55 kF)] (.cond Q56
 (.seq (sQ [oM 57 0, o 58 (.bin .eql Q57 (.const (.int .u64 9223372036854775808)) (some (.int .u64))), oM 59 58, og 60 (.mov Q1) 59 true, og 61 (.bin .eql Q60 (.const (.int .u64 9223372036854775808)) (some (.int .u64))) 59 true, o 62 (.pick Q59 Q61 kF)] (.cond Q62 (sQ [o 4 (.mov (.const (.int .u64 9223372036854775808)))] .ret) .skip)) (sQ [o 4 (.mov (.const (.int .u64 0)))] .ret)) .skip))
 (.seq (sQ [oM 63 6, oM 64 8, o 65 (.bin .lss Q63 Q64 tI), oM 66 65, og 67 (.mov Q6) 66 false, og 68 (.mov Q8) 66 false, og 69 (.bin .eql Q67 Q68 tI) 66 false, og 70 (.mov Q69) 66 false, og 71 (.mov Q5) 70 true, og 72 (.mov Q7) 70 true, og 73 (.bin .lss Q71 Q72 (some (.int .u64))) 70 true, og 74 (.pick Q70 Q73 kF) 66 false, o 75 (.pick Q66 kT Q74)] (.cond Q75
 (sQ [oM 76 1, oM 77 0, o 78 (.call 169 [Q76, Q77]), oM 4 78] .ret) .skip)) (.seq (sQ [oM 79 7, o 80 (.bin .eql Q79 (.const (.int .u64 0)) (some (.int .u64)))] (.cond Q80 (sQ [oM 81 0, oM 4 81] .ret) .skip)) (sQ [oM 82 6, oM 83 8, o 84 (.bin .sub Q82 Q83 tI), oM 9 84] (sQ [o 10 (.mov kF)]
 (sQ [oM 85 5, o 86 (.build [.int .u64 0, .int .u64 0] [(0, 1, (.const (.int .u64 0))), (1, 1, Q85)]), o 11 (.alloc [.int .u64 0, .int .u64 0]), oS 2 11 86] (sQ [oM 87 7, o 88 (.build [.int .u64 0, .int .u64 0] [(0, 1, (.const (.int .u64 0))), (1, 1, Q87)]), o 12 (.alloc [.int .u64 0, .int .u64 0]), oS 2 12 88] (.seq (sQ [oM 89 9, o 90 (.bin .gtr Q89 (kI 60) tI)] (.cond Q90
 (sQ [o 9 (.mov (kI 60))] (sQ [oM 91 6, o 92 (.bin .sub Q91 (kI 60) tI), oM 8 92] (sQ [o 93 (.build [.int .u64 0, .int .u64 0] []), oS 2 12 93] (.ops [o 10 (.mov kT)])))) .skip)) (sQ [o 94 (.load true 2 Q11), oM 95 9, o 96 (.call 238 [Q94, Q95]), oS 2 11 96] (.seq (sQ [oM 97 0, o 98 (.call 239 [Q97]), oM 99 1, o 100 (.call 239 [Q99]), o 101 (.bin .eql Q98 (q 100) (some .bool))] (.cond (q 101)
 (sQ [oM 102 0, o 104 (.load true 2 Q11), o 105 (.load true 2 Q12), oM 107 8, oM 108 10, o 103 (.call 239 [.tmp 102]), ⟨none, .again 105 true 2 Q12, none⟩, ⟨none, .again 104 true 2 Q11, none⟩, o 106 (.call 241 [.tmp 104, .tmp 105]), o 109 (.call 240 [.tmp 103, .tmp 106, .tmp 107, .tmp 108]), oM 4 109] .ret) .skip)) (.seq (sQ [oM 110 10] (.cond (q 110)
 (.ops [o 111 (.build [.int .u64 0, .int .u64 0] [(0, 1, (.const (.int .u64 0))), (1, 1, (.const (.int .u64 1)))]), oS 2 12 111]) .skip)) (sQ [o 112 (.load true 2 Q11), o 113 (.load true 2 Q12), o 114 (.call 242 [.tmp 112, .tmp 113]), oS 2 11 114]
 (.seq (sQ [oA 115 0 11, oL 116 115, o 117 (.bin .eql (q 116) (.const (.int .u64 0)) (some (.int .u64))), oM 118 117, og 119 (.fieldAddr 1 Q11) 118 true, og 120 (.load false 1 (q 119)) 118 true, og 121 (.bin .eql (q 120) (.const (.int .u64 0)) (some (.int .u64))) 118 true, o 122 (.pick (q 118) (q 121) kF), oM 123 122, og 124 (.mov Q10) 123 true, og 125 (.un .not (q 124)) 123 true, o 126 (.pick (q 123) (q 125) kF)]
 (.cond (q 126) (sQ [o 4 (.mov (.const (.int .u64 0)))] .ret) .skip)) (sQ [oM 127 0, o 129 (.load true 2 Q11), oM 130 8, oM 131 10, o 128 (.call 239 [.tmp 127]), ⟨none, .again 129 true 2 Q11, none⟩, o 132 (.call 240 [.tmp 128, .tmp 129, .tmp 130, .tmp 131]), oM 4 132] .ret))))))))))))))))))⟩
theorem F169_ok:Bc Tryz.prog 169=some F169:=by kernel_rfl
def X170:CF 170:=by refine⟨?_,?h⟩;rotate_left;conv=>lhs;cbv
def F170:FC:=X170.1
theorem F170_ok:Bc Tryz.prog 170=some F170:=X170.2
def X171:CF 171:=by refine⟨?_,?h⟩;rotate_left;conv=>lhs;cbv
def F171:FC:=X171.1
theorem F171_ok:Bc Tryz.prog 171=some F171:=X171.2
def X172:CF 172:=by refine⟨?_,?h⟩;rotate_left;conv=>lhs;cbv
def F172:FC:=X172.1
theorem F172_ok:Bc Tryz.prog 172=some F172:=X172.2
def X173:CF 173:=by refine⟨?_,?h⟩;rotate_left;conv=>lhs;cbv
def F173:FC:=X173.1
theorem F173_ok:Bc Tryz.prog 173=some F173:=X173.2
def F174 : FC := ⟨74, [.tmp 4, .tmp 5], (sQ [o 2 (.box Q0), o 4 (.mov (kI 0)), o 5 (.mov kF)] (.seq (sQ [oA 12 1 2, oL 13 12, o 14 (.bin .eql Q13 (.const (.int .u64 0)) (some (.int .u64)))] (.cond Q14 (sQ [o 4 (.mov (kI 0)), o 5 (.mov kT)] .ret) .skip)) (sQ [o 6 (.mov (kI 8))] (sQ [oM 15 1, o 16 (.bin .sub Q15 (kI 3) tI), oM 7 16] (sQ [oM 17 1, o 18 (.bin .geq Q17 (kI 7) tI), oM 8 18]
 (.seq (sQ [oM 19 8] (.cond Q19 (.ops [oM 20 1, o 21 (.bin .sub Q20 (kI 7) tI), oM 7 21]) .skip)) (.seq (sQ [o 9 (.mov (kI 0))] (.block 0 (.loop (.seq (sQ [oM 22 9, oM 23 7, o 24 (.bin .lss Q22 Q23 tI)] (.cond Q24 .skip (.exit 0))) (.seq (.block 1 (.ops [oM 27 6, o 28 (.bin .mul Q27 (kI 2) tI), oM 6 28])) (.ops [oM 25 9, o 26 (.bin .add Q25 (kI 1) tI), oM 9 26]))))))
 (sQ [o 10 (.mov (.const (.int .u64 9223372036854775807)))] (.seq (sQ [o 11 (.mov (kI 64))] (.block 2 (.loop (.seq (sQ [oM 29 11, oM 30 6, o 31 (.bin .gtr Q29 Q30 tI)] (.cond Q31 .skip (.exit 2))) (.seq (.block 3 (.ops [oM 34 10, o 35 (.bin .quo Q34 (.const (.int .u64 2)) (some (.int .u64))), oM 10 35])) (.ops [oM 32 11, o 33 (.bin .sub Q32 (kI 1) tI), oM 11 33]))))))
 (.seq (.block 4 (sQ [oM 37 8, oM 38 37, og 39 (.fieldAddr 0 Q2) 38 true, og 40 (.load false 1 Q39) 38 true, o 41 (.pick Q38 Q40 kF), oM 36 41] (.cond Q36 (sQ [o 4 (.mov (kI 0)), o 5 (.mov kF)] .ret) (sQ [oM 43 8, oM 42 43] (.cond Q42
 (sQ [oA 44 1 2, oL 45 44, o 46 (.conv .i64 Q45), oA 47 1 2, oL 48 47, oM 49 10, o 50 (.bin .mul (.const (.int .u64 2)) Q49 (some (.int .u64))), o 51 (.bin .add Q50 (.const (.int .u64 1)) (some (.int .u64))), o 52 (.bin .leq Q48 Q51 (some (.int .u64))), oM 4 46, oM 5 52] .ret) (sQ [oA 54 0 2, oL 55 54, oM 53 55] (.cond Q53
 (sQ [oA 56 1 2, oL 57 56, o 58 (.bin .sub Q57 (.const (.int .u64 1)) (some (.int .u64))), o 59 (.conv .i64 Q58), o 60 (.un .neg Q59), o 61 (.bin .sub Q60 (kI 1) tI), oA 62 1 2, oL 63 62, oM 64 10, o 65 (.bin .add Q64 (.const (.int .u64 1)) (some (.int .u64))), o 66 (.bin .leq Q63 Q65 (some (.int .u64))), oM 4 61, oM 5 66] .ret) .skip)))))))
 (sQ [oA 67 1 2, oL 68 67, o 69 (.conv .i64 Q68), oA 70 1 2, oL 71 70, oM 72 10, o 73 (.bin .leq Q71 Q72 (some (.int .u64))), oM 4 69, oM 5 73] .ret)))))))))))⟩
theorem F174_ok:Bc Tryz.prog 174=some F174:=by kernel_rfl
def X175:CF 175:=by refine⟨?_,?h⟩;rotate_left;conv=>lhs;cbv
def F175:FC:=X175.1
theorem F175_ok:Bc Tryz.prog 175=some F175:=X175.2
def X176:CF 176:=by refine⟨?_,?h⟩;rotate_left;conv=>lhs;cbv
def F176:FC:=X176.1
theorem F176_ok:Bc Tryz.prog 176=some F176:=X176.2
def F177 : FC := ⟨54, [.tmp 6], (sQ [o 3 (.box Q0), o 6 (.mov (kI 0))] (.seq (sQ [o 7 (.mov (kI 0))] (.block 0 (.loop (.seq (sQ [oM 10 7, oM 11 1, o 12 (.len 1 Q11), o 13 (.bin .lss Q10 Q12 tI), oM 14 13, og 15 (.mov Q7) 14 true, og 16 (.mov Q2) 14 true, og 17 (.len 1 Q16) 14 true, og 18 (.bin .lss Q15 Q17 tI) 14 true, o 19 (.pick Q14 Q18 kF)] (.cond Q19 .skip (.exit 0)))
 (.seq (.block 1 (sQ [o 8 (.mov (kI 0))] (.seq (sQ [oA 22 0 3, oL 23 22, o 24 (.bin .eql Q23 (kI 17) tI)] (.cond Q24 (.ops [oM 25 7, oM 8 25]) .skip))
 (sQ [oA 26 4 3, oL 27 26, oM 28 8, o 29 (.indexAddr 7 Q27 Q28), o 30 (.load true 7 Q29), oM 31 1, oM 32 7, o 33 (.indexAddr 4 Q31 Q32), o 34 (.load true 4 Q33), oM 35 2, oM 36 7, o 37 (.indexAddr 4 Q35 Q36), o 38 (.load true 4 Q37), o 39 (.call 119 [Q30, Q34, Q38]), oM 9 39] (sQ [oM 40 9, o 41 (.bin .neq Q40 (kI 0) tI)] (.cond Q41 (sQ [oM 42 9, oM 6 42] .ret) .skip))))))
 (.ops [oM 20 7, o 21 (.bin .add Q20 (kI 1) tI), oM 7 21])))))) (sQ [oM 43 1, o 44 (.len 1 Q43), oM 45 2, o 46 (.len 1 Q45), o 47 (.bin .lss Q44 Q46 tI), oM 48 1, o 49 (.len 1 Q48), oM 50 2, o 51 (.len 1 Q50), o 52 (.bin .gtr Q49 Q51 tI), o 53 (.call 175 [Q47, Q52]), oM 6 53] .ret)))⟩
theorem F177_ok:Bc Tryz.prog 177=some F177:=by kernel_rfl
def X178:CF 178:=by refine⟨?_,?h⟩;rotate_left;conv=>lhs;cbv
def F178:FC:=X178.1
theorem F178_ok:Bc Tryz.prog 178=some F178:=X178.2
def X179:CF 179:=by refine⟨?_,?h⟩;rotate_left;conv=>lhs;cbv
def F179:FC:=X179.1
theorem F179_ok:Bc Tryz.prog 179=some F179:=X179.2
def X180:CF 180:=by refine⟨?_,?h⟩;rotate_left;conv=>lhs;cbv
def F180:FC:=X180.1
theorem F180_ok:Bc Tryz.prog 180=some F180:=X180.2
def X181:CF 181:=by refine⟨?_,?h⟩;rotate_left;conv=>lhs;cbv
def F181:FC:=X181.1
theorem F181_ok:Bc Tryz.prog 181=some F181:=X181.2
def F182 : FC := ⟨98, [.tmp 4], (sQ [o 2 (.box Q0), o 3 (.box Q1), o 4 (.mov kF)] (sQ [oA 9 3 3, oL 10 9, o 11 (.len 1 Q10), oM 5 11] (.seq (sQ [oA 12 0 2, oL 13 12] (.block 0 (sQ [o 15 (.bin .eql Q13 (kI 15) tI), oM 14 15] (.cond Q14
 (sQ [oM 16 5, o 17 (.bin .gtr Q16 (kI 4096) tI), oM 18 17, og 19 (.fieldAddr 1 Q3) 18 false, og 20 (.load false 1 Q19) 18 false, og 21 (.bin .neq Q20 (kI 0) tI) 18 false, o 22 (.pick Q18 kT Q21)] (.cond Q22 (sQ [o 4 (.mov kF)] .ret) .skip)) (sQ [o 24 (.bin .eql Q13 (kI 16) tI), oM 23 24] (.cond Q23
 (sQ [oM 25 5, oA 26 1 2, oL 27 26, o 28 (.bin .neq Q25 Q27 tI), oM 29 28, og 30 (.fieldAddr 1 Q3) 29 false, og 31 (.load false 1 Q30) 29 false, og 32 (.bin .neq Q31 (kI 0) tI) 29 false, o 33 (.pick Q29 kT Q32)] (.cond Q33 (sQ [o 4 (.mov kF)] .ret) .skip)) (sQ [o 35 (.bin .eql Q13 (kI 17) tI), oM 34 35] (.cond Q34
 (sQ [oM 36 5, oA 37 4 2, oL 38 37, o 39 (.len 1 Q38), o 40 (.bin .neq Q36 Q39 tI), oM 41 40, og 42 (.fieldAddr 1 Q3) 41 false, og 43 (.load false 1 Q42) 41 false, og 44 (.bin .neq Q43 (kI 0) tI) 41 false, o 45 (.pick Q41 kT Q44)] (.cond Q45 (sQ [o 4 (.mov kF)] .ret) .skip)) (sQ [o 47 (.bin .eql Q13 (kI 18) tI), oM 46 47] (.cond Q46
 (sQ [oM 48 5, o 49 (.bin .eql Q48 (kI 1) tI), oM 50 49, og 51 (.fieldAddr 1 Q3) 50 true, og 52 (.load false 1 Q51) 50 true, og 53 (.bin .geq Q52 (kI 0) tI) 50 true, o 54 (.pick Q50 Q53 kF), oM 55 54, og 56 (.fieldAddr 1 Q3) 55 true, og 57 (.load false 1 Q56) 55 true, og 58 (.fieldAddr 4 Q2) 55 true, og 59 (.load false 1 Q58) 55 true, og 60 (.len 1 Q59) 55 true, og 61 (.bin .lss Q57 Q60 tI) 55 true, o 62 (.pick Q55 Q61 kF), oM 63 62, og 64 (.fieldAddr 4 Q2) 63 true, og 65 (.load false 1 Q64) 63 true, og 66 (.fieldAddr 1 Q3) 63 true, og 67 (.load false 1 Q66) 63 true, og 68 (.indexAddr 7 Q65 Q67) 63 true, og 69 (.load true 7 Q68) 63 true, og 70 (.fieldAddr 3 Q3) 63 true, og 71 (.load false 1 Q70) 63 true, og 72 (.indexAddr 4 Q71 (kI 0)) 63 true, og 73 (.load true 4 Q72) 63 true, og 74 (.call 122 [Q69, Q73]) 63 true, o 75 (.pick Q63 Q74 kF), oM 4 75]
 .ret) (sQ [o 4 (.mov kF)] .ret))))))))))) (.seq (sQ [o 6 (.mov (kI 0))] (.block 1 (.loop (.seq (sQ [oM 76 6, oM 77 5, o 78 (.bin .lss Q76 Q77 tI)] (.cond Q78 .skip (.exit 1))) (.seq (.block 2 (sQ [o 7 (.mov (kI 0))] (.seq (sQ [oA 81 0 2, oL 82 81, o 83 (.bin .eql Q82 (kI 17) tI)] (.cond Q83 (.ops [oM 84 6, oM 7 84]) .skip))
 (sQ [oA 85 4 2, oL 86 85, oM 87 7, o 88 (.indexAddr 7 Q86 Q87), o 89 (.load true 7 Q88), oA 90 3 3, oL 91 90, oM 92 6, o 93 (.indexAddr 4 Q91 Q92), o 94 (.load true 4 Q93), o 95 (.call 122 [Q89, Q94]), oM 8 95] (sQ [oM 96 8, o 97 (.un .not Q96)] (.cond Q97 (sQ [o 4 (.mov kF)] .ret) .skip)))))) (.ops [oM 79 6, o 80 (.bin .add Q79 (kI 1) tI), oM 6 80])))))) (sQ [o 4 (.mov kT)] .ret)))))⟩
theorem F182_ok:Bc Tryz.prog 182=some F182:=by kernel_rfl
def F183 : FC := ⟨69, [.tmp 4], (sQ [o 3 (.box Q1), o 4 (.mov (kI 0))] (sQ [oM 6 0, o 7 (.nilCheck Q6), oA 8 17 7, oL 9 8, o 10 (.len 1 Q9), oM 5 10]
 (.seq (sQ [oM 11 5, o 12 (.bin .gtr Q11 (kI 0) tI), oM 13 12, og 14 (.mov Q0) 13 true, og 15 (.nilCheck Q14) 13 true, og 16 (.fieldAddr 17 Q15) 13 true, og 17 (.load false 1 Q16) 13 true, og 18 (.mov Q5) 13 true, og 19 (.bin .sub Q18 (kI 1) tI) 13 true, og 20 (.indexAddr 4 Q17 Q19) 13 true, og 21 (.load true 4 Q20) 13 true, og 22 (.load true 4 Q3) 13 true, og 23 (.call 246 [Q21, Q22]) 13 true, o 24 (.pick Q13 Q23 kF)]
 (.cond Q24 (sQ [oM 25 0, o 26 (.nilCheck Q25), oA 27 16 26, oL 28 27, oM 29 5, o 30 (.bin .sub Q29 (kI 1) tI), o 31 (.indexAddr 1 Q28 Q30), oL 32 31, o 33 (.bin .add Q32 (kI 1) tI), o 34 (.indexAddr 1 Q28 Q30), oS 1 34 33] (sQ [o 4 (.mov (kI 0))] .ret)) .skip)) (.seq (sQ [oM 35 5, o 36 (.bin .geq Q35 (kI 4096) tI)] (.cond Q36 (sQ [o 4 (.mov (kI 3))] .ret) .skip))
 (sQ [oM 37 0, o 38 (.nilCheck Q37), oA 39 17 38, oL 40 39, o 41 (.load true 4 Q3), o 42 (.len 1 Q40), o 43 (.buildSlice 4 1 zbZ [(0, 4, (.const (.agg #[(.bool false), (.int .i64 0), (.string ⟨#[]⟩), (.slice none 0 0)])))]), ⟨none, .again 41 true 4 Q3, none⟩, ⟨none, .again 40 false 1 Q39, none⟩, o 44 (.append 4 56 Q40 Q43), o 45 (.indexAddr 4 Q44 Q42), o 46 (.nilCheck Q37), oA 47 17 46, oS 4 45 41, oS 1 47 44, ⟨none, .apart Q45 Q47, none⟩]
 (sQ [oM 48 0, oM 49 0, o 50 (.nilCheck Q49), oA 51 16 50, oL 52 51, oM 53 0, o 54 (.nilCheck Q53), oA 55 7 54, oL 56 55, o 57 (.buildSlice 1 1 [.int .i64 0] [(0, 1, Q56)]), ⟨none, .again 52 false 1 Q51, none⟩, o 58 (.append 1 8 Q52 Q57), o 59 (.nilCheck Q48), oA 60 16 59, oS 1 60 58]
 (sQ [oM 61 0, o 62 (.nilCheck Q61), oA 63 18 62, oL 64 63, o 65 (.indexAddr 1 Q64 (kI 0)), oL 66 65, o 67 (.load true 4 Q3), o 68 (.call 72 [Q66, Q67]), oM 4 68] .ret)))))))⟩
theorem F183_ok:Bc Tryz.prog 183=some F183:=by kernel_rfl
def F184 : FC := ⟨140, [.tmp 2], (sQ [o 2 (.mov (kI 0))] (sQ [oM 9 0, o 10 (.nilCheck Q9), oA 11 0 10, oA 12 2 11, o 13 (.load true 5 Q12), o 3 (.alloc [.int .i64 0, .int .i64 0, .int .i64 0, .int .i64 0, .slice none 0 0]), oS 5 3 13]
 (sQ [oM 14 0, oM 15 0, o 16 (.nilCheck Q15), oA 17 10 16, oL 18 17, o 19 (.buildSlice 1 1 [.int .u8 0] [(0, 1, (.const (.int .u8 0)))]), o 20 (.append 1 1 Q18 Q19), o 21 (.nilCheck Q14), oA 22 10 21, oS 1 22 20] (.seq (sQ [oA 23 0 3, oL 24 23] (.block 0 (.seq (sQ [o 37 (.bin .eql Q24 (kI 12) tI), oM 36 37] (.cond Q36 .skip (sQ [o 38 (.bin .eql Q24 (kI 13) tI), oM 36 38] (.cond Q36 .skip
 (.ops [o 39 (.bin .eql Q24 (kI 15) tI), oM 36 39]))))) (.cond Q36
 (.ops [oM 40 0, oM 41 0, o 42 (.nilCheck Q41), oA 43 13 42, oL 44 43, oM 45 0, o 46 (.nilCheck Q45), oA 47 13 46, oL 48 47, oM 49 0, o 50 (.nilCheck Q49), oA 51 13 50, oL 52 51, o 53 (.len 1 Q52), o 54 (.bin .sub Q53 (kI 1) tI), o 55 (.indexAddr 1 Q48 Q54), oL 56 55, o 57 (.buildSlice 1 1 [.int .i64 0] [(0, 1, Q56)]), ⟨none, .again 44 false 1 Q43, none⟩, o 58 (.append 1 8 Q44 Q57), o 59 (.nilCheck Q40), oA 60 13 59, oS 1 60 58])
 (sQ [o 62 (.bin .eql Q24 (kI 14) tI), oM 61 62] (.cond Q61 (sQ [o 4 (.mov (kI 0))] (.block 1 (.loop (.seq (sQ [oM 63 4, oA 64 1 3, oL 65 64, o 66 (.bin .lss Q63 Q65 tI)] (.cond Q66 .skip (.exit 1)))
 (.seq (.block 2 (.ops [oM 69 0, oM 70 0, o 71 (.nilCheck Q70), oA 72 12 71, oL 73 72, o 74 (.buildSlice 1 1 [.int .u8 0] [(0, 1, (.const (.int .u8 0)))]), o 75 (.append 1 1 Q73 Q74), o 76 (.nilCheck Q69), oA 77 12 76, oS 1 77 75])) (.ops [oM 67 4, o 68 (.bin .add Q67 (kI 1) tI), oM 4 68])))))) (sQ [o 79 (.bin .eql Q24 (kI 16) tI), oM 78 79] (.cond Q78 (sQ [o 5 (.mov (kI 0))]
 (.block 3 (.loop (.seq (sQ [oM 80 5, oA 81 1 3, oL 82 81, o 83 (.bin .lss Q80 Q82 tI)] (.cond Q83 .skip (.exit 3))) (.seq (.block 4 (sQ [oM 86 0, o 87 (.nilCheck Q86), oA 88 18 87, oL 89 88, o 90 (.indexAddr 1 Q89 (kI 0)), oL 91 90, o 92 (.call 247 [Q91]), oM 6 92] (sQ [oM 93 6, o 94 (.bin .neq Q93 (kI 0) tI)] (.cond Q94 (sQ [oM 95 6, oM 2 95] .ret) .skip))))
 (.ops [oM 84 5, o 85 (.bin .add Q84 (kI 1) tI), oM 5 85])))))) (sQ [o 97 (.bin .eql Q24 (kI 17) tI), oM 96 97] (.cond Q96 (sQ [o 7 (.mov (kI 0))] (.block 5 (.loop (.seq (sQ [oM 98 7, oM 99 0, o 100 (.nilCheck Q99), oA 101 18 100, oL 102 101, o 103 (.len 1 (q 102)), o 104 (.bin .lss Q98 (q 103) tI)] (.cond (q 104) .skip (.exit 5)))
 (.seq (.block 6 (sQ [oM 107 0, o 108 (.nilCheck (q 107)), oA 109 18 108, oL 110 109, oM 111 7, o 112 (.indexAddr 1 (q 110) (q 111)), oL 113 112, o 114 (.call 247 [.tmp 113]), oM 8 114] (sQ [oM 115 8, o 116 (.bin .neq (q 115) (kI 0) tI)] (.cond (q 116) (sQ [oM 117 8, oM 2 117] .ret) .skip)))) (.ops [oM 105 7, o 106 (.bin .add (q 105) (kI 1) tI), oM 7 106]))))))
 (sQ [o 119 (.bin .eql Q24 (kI 19) tI), oM 118 119] (.cond (q 118) (.ops [oM 120 0, oM 121 0, o 122 (.nilCheck (q 121)), oA 123 15 122, oL 124 123, o 125 (.buildSlice 1 1 [.int .i64 0] [(0, 1, (kI 0))]), o 126 (.append 1 8 (q 124) (q 125)), o 127 (.nilCheck (q 120)), oA 128 15 127, oS 1 128 126]) (sQ [o 130 (.bin .eql Q24 (kI 2) tI), oM 129 130] (.cond (q 129)
 (.ops [oM 131 0, oM 132 0, o 133 (.nilCheck (q 132)), oA 134 12 133, oL 135 134, o 136 (.buildSlice 1 1 [.int .u8 0] [(0, 1, (.const (.int .u8 0)))]), o 137 (.append 1 1 (q 135) (q 136)), o 138 (.nilCheck (q 131)), oA 139 12 138, oS 1 139 137])
 (.ops [oM 25 0, oM 26 0, o 27 (.nilCheck Q26), oA 28 12 27, oL 29 28, oA 30 0 3, oL 31 30, o 32 (.call 75 [Q31]), ⟨none, .again 29 false 1 Q28, none⟩, o 33 (.call 124 [Q29, (kI 0), Q32]), o 34 (.nilCheck Q25), oA 35 12 34, oS 1 35 33]))))))))))))))) (sQ [o 2 (.mov (kI 0))] .ret)))))⟩
theorem F184_ok:Bc Tryz.prog 184=some F184:=by kernel_rfl
def F185 : FC := ⟨80, [.tmp 4], (sQ [o 3 (.box Q1), o 4 (.mov (kI 0))] (.seq (sQ [o 5 (.mov (kI 0))] (.block 0 (.loop (.seq (sQ [oM 6 5, oM 7 0, o 8 (.nilCheck Q7), oA 9 17 8, oL 10 9, o 11 (.len 1 Q10), o 12 (.bin .lss Q6 Q11 tI)] (.cond Q12 .skip (.exit 0)))
 (.seq (.block 1 (sQ [oM 15 0, o 16 (.nilCheck Q15), oA 17 17 16, oL 18 17, oM 19 5, o 20 (.indexAddr 4 Q18 Q19), o 21 (.load true 4 Q20), o 22 (.load true 4 Q3), o 23 (.call 246 [Q21, Q22])] (.cond Q23
 (sQ [oM 24 0, oM 25 0, o 26 (.nilCheck Q25), oA 27 15 26, oL 28 27, oM 29 5, o 30 (.buildSlice 1 1 [.int .i64 0] [(0, 1, Q29)]), o 31 (.append 1 8 Q28 Q30), o 32 (.nilCheck Q24), oA 33 15 32, oS 1 33 31] (sQ [o 4 (.mov (kI 0))] .ret)) .skip))) (.ops [oM 13 5, o 14 (.bin .add Q13 (kI 1) tI), oM 5 14]))))))
 (.seq (sQ [oM 34 0, o 35 (.nilCheck Q34), oA 36 17 35, oL 37 36, o 38 (.len 1 Q37), oM 39 0, o 40 (.nilCheck Q39), oA 41 0 40, oA 42 2 41, oA 43 3 42, oL 44 43, o 45 (.call 248 [Q44]), ⟨none, .again 37 false 1 Q36, none⟩, o 46 (.bin .geq Q38 Q45 tI)] (.cond Q46 (sQ [o 4 (.mov (kI 102))] .ret) .skip))
 (sQ [oM 47 0, oM 48 0, o 49 (.nilCheck Q48), oA 50 15 49, oL 51 50, oM 52 0, o 53 (.nilCheck Q52), oA 54 17 53, oL 55 54, o 56 (.len 1 Q55), o 57 (.buildSlice 1 1 [.int .i64 0] [(0, 1, Q56)]), ⟨none, .again 51 false 1 Q50, none⟩, o 58 (.append 1 8 Q51 Q57), o 59 (.nilCheck Q47), oA 60 15 59, oS 1 60 58]
 (sQ [oM 61 0, o 62 (.nilCheck Q61), oA 63 17 62, oL 64 63, o 65 (.load true 4 Q3), o 66 (.len 1 Q64), o 67 (.buildSlice 4 1 zbZ [(0, 4, (.const (.agg #[(.bool false), (.int .i64 0), (.string ⟨#[]⟩), (.slice none 0 0)])))]), ⟨none, .again 65 true 4 Q3, none⟩, ⟨none, .again 64 false 1 Q63, none⟩, o 68 (.append 4 56 Q64 Q67), o 69 (.indexAddr 4 Q68 Q66), o 70 (.nilCheck Q61), oA 71 17 70, oS 4 69 65, oS 1 71 68, ⟨none, .apart Q69 Q71, none⟩]
 (sQ [oM 72 0, o 73 (.nilCheck Q72), oA 74 18 73, oL 75 74, o 76 (.indexAddr 1 Q75 (kI 0)), oL 77 76, o 78 (.load true 4 Q3), o 79 (.call 72 [Q77, Q78]), oM 4 79] .ret))))))⟩
theorem F185_ok:Bc Tryz.prog 185=some F185:=by kernel_rfl
def X187:CF 187:=by refine⟨?_,?h⟩;rotate_left;conv=>lhs;cbv
def F187:FC:=X187.1
theorem F187_ok:Bc Tryz.prog 187=some F187:=X187.2
def X188:CF 188:=by refine⟨?_,?h⟩;rotate_left;conv=>lhs;cbv
def F188:FC:=X188.1
theorem F188_ok:Bc Tryz.prog 188=some F188:=X188.2
def F190 : FC := ⟨75, [.tmp 4], (sQ [o 4 (.mov (.const (.slice none 0 0)))] (.seq (sQ [oM 9 0, o 10 (.len 1 Q9), o 11 (.bin .eql Q10 (kI 0) tI), oM 12 11, og 13 (.mov Q1) 12 false, og 14 (.len 1 Q13) 12 false, og 15 (.bin .eql Q14 (kI 0) tI) 12 false, o 16 (.pick Q12 kT Q15)] (.cond Q16 (sQ [o 4 (.mov (.const (.slice none 0 0)))] .ret) .skip))
 (sQ [oM 17 0, o 18 (.len 1 Q17), oM 19 1, o 20 (.len 1 Q19), o 21 (.bin .add Q18 Q20 tI), o 22 (.mkSlice 1 4 [.int .u32 0] Q21 Q21), oM 5 22] (.seq (sQ [o 6 (.mov (kI 0))] (.block 0 (.loop (.seq (sQ [oM 23 6, oM 24 0, o 25 (.len 1 Q24), o 26 (.bin .lss Q23 Q25 tI)] (.cond Q26 .skip (.exit 0))) (.seq (.block 1 (sQ [o 7 (.mov (.const (.int .u64 0)))] (.seq (sQ [o 8 (.mov (kI 0))]
 (.block 2 (.loop (.seq (sQ [oM 29 8, oM 30 1, o 31 (.len 1 Q30), o 32 (.bin .lss Q29 Q31 tI)] (.cond Q32 .skip (.exit 2)))
 (.seq (.block 3 (sQ [oM 35 7, oM 36 0, oM 37 6, o 38 (.indexAddr 1 Q36 Q37), oL 39 38, o 40 (.conv .u64 Q39), oM 41 1, oM 42 8, o 43 (.indexAddr 1 Q41 Q42), oL 44 43, o 45 (.conv .u64 Q44), o 46 (.bin .mul Q40 Q45 (some (.int .u64))), oM 47 5, oM 48 6, oM 49 8, o 50 (.bin .add Q48 Q49 tI), o 51 (.indexAddr 1 Q47 Q50), oL 52 51, o 53 (.conv .u64 Q52), o 54 (.bin .add Q46 Q53 (some (.int .u64))), o 55 (.bin .add Q35 Q54 (some (.int .u64))), oM 7 55]
 (sQ [oM 56 5, oM 57 6, oM 58 8, o 59 (.bin .add Q57 Q58 tI), oM 60 7, o 61 (.conv .u32 Q60), o 62 (.indexAddr 1 Q56 Q59), oS 1 62 61] (.ops [oM 63 7, o 64 (.bin .shr Q63 (.const (.int .u64 32)) (some (.int .u64))), oM 7 64])))) (.ops [oM 33 8, o 34 (.bin .add Q33 (kI 1) tI), oM 8 34]))))))
 (.ops [oM 65 5, oM 66 6, oM 67 1, o 68 (.len 1 Q67), o 69 (.bin .add Q66 Q68 tI), oM 70 7, o 71 (.conv .u32 Q70), o 72 (.indexAddr 1 Q65 Q69), oS 1 72 71])))) (.ops [oM 27 6, o 28 (.bin .add Q27 (kI 1) tI), oM 6 28])))))) (sQ [oM 73 5, o 74 (.call 254 [Q73]), oM 4 74] .ret)))))⟩
theorem F190_ok:Bc Tryz.prog 190=some F190:=by kernel_rfl
def X192:CF 192:=by refine⟨?_,?h⟩;rotate_left;conv=>lhs;cbv
def F192:FC:=X192.1
theorem F192_ok:Bc Tryz.prog 192=some F192:=X192.2
def F193:FC:=⟨19,[.tmp 6],(sQ [o 6 (.mov (.const (.pointer none)))] (sQ [oM 7 0,oM 8 1,o 9 (.nilCheck Q8),oA 10 0 9,oL 11 10,oM 12 1,o 13 (.nilCheck Q12),oA 14 1 13,oL 15 14,oM 16 2,o 17 (.call 256 [Q15,Q16]),⟨none,.again 11 false 1 Q10,none⟩,o 18 (.call 188 [Q7,Q11,Q17]),oM 6 18] .ret))⟩
theorem F193_ok:Bc Tryz.prog 193=some F193:=by kernel_rfl
def X194:CF 194:=by refine⟨?_,?h⟩;rotate_left;conv=>lhs;cbv
def F194:FC:=X194.1
theorem F194_ok:Bc Tryz.prog 194=some F194:=X194.2
def F195:FC:=⟨17,[.tmp 4],(sQ [o 4 (.mov (.const (.pointer none)))] (sQ [oM 5 0,oM 6 1,o 7 (.nilCheck Q6),oA 8 0 7,oL 9 8,o 10 (.un .not Q9),oM 11 1,o 12 (.nilCheck Q11),oA 13 1 12,oL 14 13,o 15 (.call 258 [Q14]),⟨none,.again 9 false 1 Q8,none⟩,o 16 (.call 188 [Q5,Q10,Q15]),oM 4 16] .ret))⟩
theorem F195_ok:Bc Tryz.prog 195=some F195:=by kernel_rfl
def F196 : FC := ⟨35, [.tmp 4], (sQ [o 4 (.mov (kI 0))] (.seq (sQ [oM 6 0, o 7 (.nilCheck Q6), oA 8 0 7, oL 9 8, oM 10 1, o 11 (.nilCheck Q10), oA 12 0 11, oL 13 12, o 14 (.bin .neq Q9 Q13 (some .bool))] (.cond Q14 (.seq (sQ [oM 15 0, o 16 (.nilCheck Q15), oA 17 0 16, oL 18 17] (.cond Q18 (sQ [o 4 (.mov (kI (-1)))] .ret) .skip)) (sQ [o 4 (.mov (kI 1))] .ret)) .skip))
 (sQ [oM 19 0, o 20 (.nilCheck Q19), oA 21 1 20, oL 22 21, oM 23 1, o 24 (.nilCheck Q23), oA 25 1 24, oL 26 25, o 27 (.call 252 [Q22, Q26]), oM 5 27] (.seq (sQ [oM 28 0, o 29 (.nilCheck Q28), oA 30 0 29, oL 31 30] (.cond Q31 (sQ [oM 32 5, o 33 (.un .neg Q32), oM 4 33] .ret) .skip)) (sQ [oM 34 5, oM 4 34] .ret)))))⟩
theorem F196_ok:Bc Tryz.prog 196=some F196:=by kernel_rfl
def X197:CF 197:=by refine⟨?_,?h⟩;rotate_left;conv=>lhs;cbv
def F197:FC:=X197.1
theorem F197_ok:Bc Tryz.prog 197=some F197:=X197.2
def X198:CF 198:=by refine⟨?_,?h⟩;rotate_left;conv=>lhs;cbv
def F198:FC:=X198.1
theorem F198_ok:Bc Tryz.prog 198=some F198:=X198.2
def X199:CF 199:=by refine⟨?_,?h⟩;rotate_left;conv=>lhs;cbv
def F199:FC:=X199.1
theorem F199_ok:Bc Tryz.prog 199=some F199:=X199.2
def X201:CF 201:=by refine⟨?_,?h⟩;rotate_left;conv=>lhs;cbv
def F201:FC:=X201.1
theorem F201_ok:Bc Tryz.prog 201=some F201:=X201.2
def F202 : FC := ⟨219, [.tmp 6], (sQ [o 4 (.box Q1), o 5 (.box Q2), o 6 (.mov kF)] (sQ [oM 8 0, o 9 (.nilCheck Q8), oA 10 0 9, oL 11 10, o 12 (.bin .sub Q11 (kI 16) tI), o 13 (.nilCheck Q8), oA 14 0 13, oS 1 14 12]
 (.seq (sQ [oM 15 0, o 16 (.nilCheck Q15), oA 17 0 16, oL 18 17, o 19 (.bin .lss Q18 (kI 0) tI), oM 20 19, og 21 (.fieldAddr 2 Q5) 20 false, og 22 (.load false 1 Q21) 20 false, og 23 (.len 0 Q22) 20 false, og 24 (.mov Q0) 20 false, og 25 (.nilCheck Q24) 20 false, og 26 (.fieldAddr 0 Q25) 20 false, og 27 (.load false 1 Q26) 20 false, og 28 (.bin .gtr Q23 Q27 tI) 20 false, o 29 (.pick Q20 kT Q28), oM 30 29, og 31 (.fieldAddr 3 Q5) 30 false, og 32 (.load false 1 Q31) 30 false, og 33 (.len 1 Q32) 30 false, og 34 (.bin .gtr Q33 (kI 4096) tI) 30 false, o 35 (.pick Q30 kT Q34)]
 (.cond Q35 (sQ [o 6 (.mov kF)] .ret) .skip)) (sQ [oM 36 0, o 37 (.nilCheck Q36), oA 38 0 37, oL 39 38, oA 40 2 5, oL 41 40, o 42 (.len 0 Q41), o 43 (.bin .sub Q39 Q42 tI), o 44 (.nilCheck Q36), oA 45 0 44, oS 1 45 43] (.seq (sQ [oA 46 0 5, oL 47 46] (.cond Q47
 (sQ [oA 48 1 5, oL 49 48, o 50 (.bin .eql Q49 (kI 0) tI), oM 51 50, og 52 (.fieldAddr 2 Q5) 51 true, og 53 (.load false 1 Q52) 51 true, ⟨some 54, .bin .eql Q53 (.const (.string ⟨#[]⟩)) (some .string), some (51, true)⟩, o 55 (.pick Q51 Q54 kF), oM 56 55, og 57 (.fieldAddr 3 Q5) 56 true, og 58 (.load false 1 Q57) 56 true, og 59 (.len 1 Q58) 56 true, og 60 (.bin .eql Q59 (kI 0) tI) 56 true, o 61 (.pick Q56 Q60 kF), oM 62 61, og 63 (.load true 7 Q4) 62 true, og 64 (.call 259 [Q63]) 62 true, o 65 (.pick Q62 Q64 kF), oM 6 65]
 .ret) .skip)) (sQ [oA 66 2 4, o 67 (.load true 5 Q66), o 7 (.alloc [.int .i64 0, .int .i64 0, .int .i64 0, .int .i64 0, .slice none 0 0]), oS 5 7 67] (.seq (sQ [oA 68 0 7, oL 69 68] (.block 0 (.seq (sQ [o 71 (.bin .eql Q69 (kI 19) tI), oM 70 71] (.cond Q70 .skip (.ops [o 72 (.bin .eql Q69 (kI 20) tI), oM 70 72]))) (.cond Q70
 (sQ [oM 73 0, o 74 (.nilCheck Q73), oA 75 0 74, oL 76 75, oA 77 2 5, oL 78 77, o 79 (.len 0 Q78), o 80 (.bin .add (kI 16) Q79 tI), o 81 (.bin .add Q76 Q80 tI), o 82 (.nilCheck Q73), oA 83 0 82, oS 1 83 81] (sQ [oM 84 0, oA 85 4 7, oL 86 85, o 87 (.indexAddr 7 Q86 (kI 0)), o 88 (.load true 7 Q87), o 89 (.load true 4 Q5), o 90 (.call 202 [Q84, Q88, Q89]), oM 6 90] .ret))
 (sQ [o 92 (.bin .eql Q69 (kI 18) tI), oM 91 92] (.cond Q91
 (sQ [oA 93 2 5, oL 94 93, o 95 (.bin .eql Q94 (.const (.string ⟨#[]⟩)) (some .string)), oM 96 95, og 97 (.fieldAddr 1 Q5) 96 true, og 98 (.load false 1 Q97) 96 true, og 99 (.bin .geq Q98 (kI 0) tI) 96 true, o 100 (.pick Q96 Q99 kF), oM 101 100, og 102 (.fieldAddr 1 Q5) 101 true, og 103 (.load false 1 (q 102)) 101 true, og 104 (.fieldAddr 4 Q7) 101 true, og 105 (.load false 1 (q 104)) 101 true, og 106 (.len 1 (q 105)) 101 true, og 107 (.bin .lss (q 103) (q 106) tI) 101 true, o 108 (.pick (q 101) (q 107) kF), oM 109 108, og 110 (.fieldAddr 3 Q5) 109 true, og 111 (.load false 1 (q 110)) 109 true, og 112 (.len 1 (q 111)) 109 true, og 113 (.bin .eql (q 112) (kI 1) tI) 109 true, o 114 (.pick (q 109) (q 113) kF), oM 115 114, og 116 (.mov Q0) 115 true, og 117 (.fieldAddr 4 Q7) 115 true, og 118 (.load false 1 (q 117)) 115 true, og 119 (.fieldAddr 1 Q5) 115 true, og 120 (.load false 1 (q 119)) 115 true, og 121 (.indexAddr 7 (q 118) (q 120)) 115 true, og 122 (.load true 7 (q 121)) 115 true, og 123 (.fieldAddr 3 Q5) 115 true, og 124 (.load false 1 (q 123)) 115 true, og 125 (.indexAddr 4 (q 124) (kI 0)) 115 true, og 126 (.load true 4 (q 125)) 115 true, og 127 (.call 202 [.tmp 116, .tmp 122, .tmp 126]) 115 true, o 128 (.pick (q 115) (q 127) kF), oM 6 128]
 .ret) (.seq (sQ [o 130 (.bin .eql Q69 (kI 15) tI), oM 129 130] (.cond (q 129) .skip (sQ [o 131 (.bin .eql Q69 (kI 16) tI), oM 129 131] (.cond (q 129) .skip (.ops [o 132 (.bin .eql Q69 (kI 17) tI), oM 129 132]))))) (.cond (q 129)
 (sQ [oA 133 1 5, oL 134 133, o 135 (.bin .eql (q 134) (kI 0) tI), oM 136 135, og 137 (.fieldAddr 2 Q5) 136 true, og 138 (.load false 1 (q 137)) 136 true, ⟨some 139, .bin .eql (q 138) (.const (.string ⟨#[]⟩)) (some .string), some (136, true)⟩, o 140 (.pick (q 136) (q 139) kF), oM 141 140, og 142 (.mov Q0) 141 true, og 143 (.load true 5 Q7) 141 true, og 144 (.fieldAddr 3 Q5) 141 true, og 145 (.load false 1 (q 144)) 141 true, og 146 (.call 260 [.tmp 142, .tmp 143, .tmp 145]) 141 true, o 147 (.pick (q 141) (q 146) kF), oM 6 147]
 .ret) (.seq (sQ [o 149 (.bin .eql Q69 (kI 12) tI), oM 148 149] (.cond (q 148) .skip (sQ [o 150 (.bin .eql Q69 (kI 13) tI), oM 148 150] (.cond (q 148) .skip (.ops [o 151 (.bin .eql Q69 (kI 14) tI), oM 148 151]))))) (.cond (q 148)
 (sQ [oA 152 1 5, oL 153 152, o 154 (.bin .eql (q 153) (kI 0) tI), oM 155 154, og 156 (.fieldAddr 3 Q5) 155 true, og 157 (.load false 1 (q 156)) 155 true, og 158 (.len 1 (q 157)) 155 true, og 159 (.bin .eql (q 158) (kI 0) tI) 155 true, o 160 (.pick (q 155) (q 159) kF), oM 161 160, og 162 (.fieldAddr 0 Q7) 161 true, og 163 (.load false 1 (q 162)) 161 true, og 164 (.bin .neq (q 163) (kI 12) tI) 161 true, og 165 (.mov (q 164)) 161 true, og 166 (.fieldAddr 2 Q5) 165 false, og 167 (.load false 1 (q 166)) 165 false, og 168 (.call 261 [.tmp 167]) 165 false, og 169 (.pick (q 165) kT (q 168)) 161 true, o 170 (.pick (q 161) (q 169) kF), oM 171 170, og 172 (.fieldAddr 0 Q7) 171 true, og 173 (.load false 1 (q 172)) 171 true, og 174 (.bin .neq (q 173) (kI 14) tI) 171 true, og 175 (.mov (q 174)) 171 true, og 176 (.fieldAddr 2 Q5) 175 false, og 177 (.load false 1 (q 176)) 175 false, og 178 (.len 0 (q 177)) 175 false, og 179 (.fieldAddr 1 Q7) 175 false, og 180 (.load false 1 (q 179)) 175 false, og 181 (.bin .eql (q 178) (q 180) tI) 175 false, og 182 (.pick (q 175) kT (q 181)) 171 true, o 183 (.pick (q 171) (q 182) kF), oM 6 183]
 .ret) .skip)))))))))) (.seq (sQ [oA 184 2 5, oL 185 184, o 186 (.bin .neq (q 185) (.const (.string ⟨#[]⟩)) (some .string)), oM 187 186, og 188 (.fieldAddr 3 Q5) 187 false, og 189 (.load false 1 (q 188)) 187 false, og 190 (.len 1 (q 189)) 187 false, og 191 (.bin .gtr (q 190) (kI 0) tI) 187 false, o 192 (.pick (q 187) kT (q 191))] (.cond (q 192) (sQ [o 6 (.mov kF)] .ret) .skip))
 (.seq (.block 1 (sQ [oA 194 0 7, oL 195 194, o 196 (.bin .eql (q 195) (kI 2) tI), oM 193 196] (.cond (q 193) (sQ [oA 197 1 5, oL 198 197, o 199 (.bin .eql (q 198) (kI 0) tI), oM 200 199, og 201 (.fieldAddr 1 Q5) 200 false, og 202 (.load false 1 (q 201)) 200 false, og 203 (.bin .eql (q 202) (kI 1) tI) 200 false, o 204 (.pick (q 200) kT (q 203)), oM 6 204] .ret)
 (sQ [oA 206 0 7, oL 207 206, o 208 (.bin .eql (q 207) (kI 11) tI), oM 205 208] (.cond (q 205) (sQ [o 6 (.mov kT)] .ret) .skip)))))
 (sQ [oA 209 0 7, oL 210 209, o 211 (.call 262 [.tmp 210]), oM 212 211, og 213 (.fieldAddr 0 Q7) 212 true, og 214 (.load false 1 (q 213)) 212 true, og 215 (.fieldAddr 1 Q5) 212 true, og 216 (.load false 1 (q 215)) 212 true, og 217 (.call 263 [.tmp 214, .tmp 216]) 212 true, o 218 (.pick (q 212) (q 217) kF), oM 6 218] .ret))))))))))⟩
theorem F202_ok:Bc Tryz.prog 202=some F202:=by kernel_rfl
def X204:CF 204:=by refine⟨?_,?h⟩;rotate_left;conv=>lhs;cbv
def F204:FC:=X204.1
theorem F204_ok:Bc Tryz.prog 204=some F204:=X204.2
def X209:CF 209:=by refine⟨?_,?h⟩;rotate_left;conv=>lhs;cbv
def F209:FC:=X209.1
theorem F209_ok:Bc Tryz.prog 209=some F209:=X209.2
def F210 : FC := ⟨56, [.tmp 9], (sQ [o 9 (.mov kF)] (.seq (sQ [oM 13 1, o 14 (.len 1 Q13), o 15 (.mov (kI 0))] (.block 0 (.loop (sQ [o 16 (.bin .lss Q15 Q14 tI)] (.seq (.cond Q16 .skip (.exit 0)) (.seq (.block 1 (sQ [oM 17 15, o 18 (.indexAddr 7 Q13 Q15), o 19 (.load true 7 Q18), o 11 (.alloc zaZ), oM 10 17, oS 7 11 19]
 (sQ [oM 20 0, o 21 (.call 211 [Q20]), oM 22 10, o 23 (.buildSlice 1 1 [.int .i64 0] [(0, 1, Q22)]), o 24 (.append 1 8 Q21 Q23), oM 12 24] (.seq (sQ [oL 25 3, oM 26 12, oM 27 1, oM 28 10, o 29 (.slice 7 Q27 none (some Q28) none), o 30 (.load true 7 Q11), oM 31 2, o 32 (.build zdZ [(0, 1, Q26), (1, 1, Q29), (2, 7, Q30), (9, 1, Q31)]), o 33 (.callv Q25 [Q32]), o 34 (.un .not Q33)] (.cond Q34
 (sQ [o 9 (.mov kF)] .ret) .skip))
 (sQ [oM 35 12, o 36 (.len 1 Q35), oL 37 4, o 38 (.bin .lss Q36 Q37 tI), oM 39 38, og 40 (.load false 1 Q5) 39 true, og 41 (.mov Q12) 39 true, og 42 (.fieldAddr 2 Q11) 39 true, og 43 (.fieldAddr 4 Q42) 39 true, og 44 (.load false 1 Q43) 39 true, og 45 (.mov Q2) 39 true, og 46 (.mov Q45) 39 true, og 47 (.fieldAddr 2 Q11) 46 false, og 48 (.fieldAddr 0 Q47) 46 false, og 49 (.load false 1 Q48) 46 false, og 50 (.bin .eql Q49 (kI 19) tI) 46 false, og 51 (.pick Q46 kT Q50) 39 true, og 52 (.callv Q40 [Q41, Q44, Q51]) 39 true, og 53 (.un .not Q52) 39 true, o 54 (.pick Q39 Q53 kF)]
 (.cond Q54 (sQ [o 9 (.mov kF)] .ret) .skip)))))) (.ops [o 55 (.bin .add Q15 (kI 1) tI), oM 15 55]))))))) (sQ [o 9 (.mov kT)] .ret)))⟩
theorem F210_ok:Bc Tryz.prog 210=some F210:=by kernel_rfl
def F29 : FC := ⟨23, [.cell 2 true 5, .tmp 3], (sQ [o 2 (.alloc [.int .i64 0, .int .i64 0, .int .i64 0, .int .i64 0, .slice none 0 0]), o 3 (.mov kF)] (sQ [oM 7 0, o 8 (.call 25 [Q7]), oM 6 8, o 9 (.extract Q6 0), o 10 (.extract Q6 1), o 4 (.alloc [.int .i64 0, .int .i64 0, .int .i64 0, .int .i64 0, .slice none 0 0]), oS 5 4 9, oM 5 10]
 (sQ [o 11 (.load true 5 Q4), oM 12 5, oM 13 12, og 14 (.fieldAddr 0 Q4) 13 true, og 15 (.load false 1 Q14) 13 true, og 16 (.call 80 [Q15]) 13 true, ⟨none, .again 11 true 5 Q4, none⟩, og 17 (.mov Q16) 13 true, og 18 (.fieldAddr 0 Q4) 17 false, og 19 (.load false 1 Q18) 17 false, og 20 (.bin .eql Q19 (kI 11) tI) 17 false, og 21 (.pick Q17 kT Q20) 13 true, o 22 (.pick Q13 Q21 kF), oS 5 2 11, ⟨none, .again 19 false 1 Q18, some (17, false)⟩, oM 3 22]
 .ret)))⟩
theorem F29_ok:Bc Tryz.prog 29=some F29:=by kernel_rfl
def X30:CF 30:=by refine⟨?_,?h⟩;rotate_left;conv=>lhs;cbv
def F30:FC:=X30.1
theorem F30_ok:Bc Tryz.prog 30=some F30:=X30.2
def F31 : FC := ⟨14, [.cell 2 true 5, .tmp 3], (sQ [o 2 (.alloc [.int .i64 0, .int .i64 0, .int .i64 0, .int .i64 0, .slice none 0 0]), o 3 (.mov kF)]
 (sQ [o 4 (.build [.int .i64 0, .int .i64 0, .int .i64 0, .int .i64 0, .slice none 0 0] [(0, 1, (kI 2))]), oM 5 0, o 6 (.indexAddr 7 Q5 (kI 0)), oA 7 2 6, o 8 (.load true 5 Q7), oM 9 0, o 10 (.indexAddr 7 Q9 (kI 1)), oA 11 2 10, o 12 (.load true 5 Q11), o 13 (.call 81 [Q8, Q12]), oS 5 2 4, oM 3 13] .ret))⟩
theorem F31_ok:Bc Tryz.prog 31=some F31:=by kernel_rfl
def X32:CF 32:=by refine⟨?_,?h⟩;rotate_left;conv=>lhs;cbv
def F32:FC:=X32.1
theorem F32_ok:Bc Tryz.prog 32=some F32:=X32.2
def X33:CF 33:=by refine⟨?_,?h⟩;rotate_left;conv=>lhs;cbv
def F33:FC:=X33.1
theorem F33_ok:Bc Tryz.prog 33=some F33:=X33.2
def X34:CF 34:=by refine⟨?_,?h⟩;rotate_left;conv=>lhs;cbv
def F34:FC:=X34.1
theorem F34_ok:Bc Tryz.prog 34=some F34:=X34.2
def X35:CF 35:=by refine⟨?_,?h⟩;rotate_left;conv=>lhs;cbv
def F35:FC:=X35.1
theorem F35_ok:Bc Tryz.prog 35=some F35:=X35.2
def X36:CF 36:=by refine⟨?_,?h⟩;rotate_left;conv=>lhs;cbv
def F36:FC:=X36.1
theorem F36_ok:Bc Tryz.prog 36=some F36:=X36.2
def X37:CF 37:=by refine⟨?_,?h⟩;rotate_left;conv=>lhs;cbv
def F37:FC:=X37.1
theorem F37_ok:Bc Tryz.prog 37=some F37:=X37.2
def X38:CF 38:=by refine⟨?_,?h⟩;rotate_left;conv=>lhs;cbv
def F38:FC:=X38.1
theorem F38_ok:Bc Tryz.prog 38=some F38:=X38.2
def F39 : FC := ⟨17, [.cell 2 true 5, .tmp 3], (sQ [o 2 (.alloc [.int .i64 0, .int .i64 0, .int .i64 0, .int .i64 0, .slice none 0 0]), o 3 (.mov kF)]
 (sQ [oM 4 0, o 5 (.indexAddr 7 Q4 (kI 0)), oA 6 2 5, o 7 (.load true 5 Q6), oM 8 0, o 9 (.indexAddr 7 Q8 (kI 0)), oA 10 2 9, o 11 (.load true 5 Q10), oM 12 0, o 13 (.indexAddr 7 Q12 (kI 1)), oA 14 2 13, o 15 (.load true 5 Q14), o 16 (.call 81 [Q11, Q15]), ⟨none, .again 7 true 5 Q6, none⟩, oS 5 2 7, oM 3 16] .ret))⟩
theorem F39_ok:Bc Tryz.prog 39=some F39:=by kernel_rfl
def X40:CF 40:=by refine⟨?_,?h⟩;rotate_left;conv=>lhs;cbv
def F40:FC:=X40.1
theorem F40_ok:Bc Tryz.prog 40=some F40:=X40.2
def X41:CF 41:=by refine⟨?_,?h⟩;rotate_left;conv=>lhs;cbv
def F41:FC:=X41.1
theorem F41_ok:Bc Tryz.prog 41=some F41:=X41.2
def F42 : FC := ⟨22, [.cell 2 true 5, .tmp 3], (sQ [o 2 (.alloc [.int .i64 0, .int .i64 0, .int .i64 0, .int .i64 0, .slice none 0 0]), o 3 (.mov kF)] (sQ [oM 7 0, o 8 (.slice 7 Q7 (some (kI 1)) none none), o 9 (.call 39 [Q8]), oM 6 9, o 10 (.extract Q6 0), o 11 (.extract Q6 1), o 4 (.alloc [.int .i64 0, .int .i64 0, .int .i64 0, .int .i64 0, .slice none 0 0]), oS 5 4 10, oM 5 11]
 (sQ [o 12 (.load true 5 Q4), oM 13 5, oM 14 13, og 15 (.mov Q0) 14 true, og 16 (.indexAddr 7 Q15 (kI 0)) 14 true, og 17 (.fieldAddr 2 Q16) 14 true, og 18 (.fieldAddr 0 Q17) 14 true, og 19 (.load false 1 Q18) 14 true, og 20 (.bin .eql Q19 (kI 2) tI) 14 true, o 21 (.pick Q14 Q20 kF), oS 5 2 12, ⟨none, .again 19 false 1 Q18, some (14, true)⟩, oM 3 21] .ret)))⟩
theorem F42_ok:Bc Tryz.prog 42=some F42:=by kernel_rfl
def X43:CF 43:=by refine⟨?_,?h⟩;rotate_left;conv=>lhs;cbv
def F43:FC:=X43.1
theorem F43_ok:Bc Tryz.prog 43=some F43:=X43.2
def X44:CF 44:=by refine⟨?_,?h⟩;rotate_left;conv=>lhs;cbv
def F44:FC:=X44.1
theorem F44_ok:Bc Tryz.prog 44=some F44:=X44.2
def F45 : FC := ⟨29, [.cell 2 true 5, .tmp 3], (sQ [o 2 (.alloc [.int .i64 0, .int .i64 0, .int .i64 0, .int .i64 0, .slice none 0 0]), o 3 (.mov kF)]
 (sQ [oM 4 0, o 5 (.indexAddr 7 Q4 (kI 0)), oA 6 2 5, oA 7 0 6, oL 8 7, o 9 (.build [.int .i64 0, .int .i64 0, .int .i64 0, .int .i64 0, .slice none 0 0] [(0, 1, Q8)]), oM 10 0, o 11 (.indexAddr 7 Q10 (kI 0)), oA 12 2 11, oA 13 0 12, oL 14 13, o 15 (.call 86 [Q14]), ⟨none, .again 8 false 1 Q7, none⟩, oM 16 15, og 17 (.mov Q0) 16 true, og 18 (.indexAddr 7 Q17 (kI 0)) 16 true, og 19 (.fieldAddr 2 Q18) 16 true, og 20 (.fieldAddr 0 Q19) 16 true, og 21 (.load false 1 Q20) 16 true, og 22 (.mov Q0) 16 true, og 23 (.indexAddr 7 Q22 (kI 1)) 16 true, og 24 (.fieldAddr 2 Q23) 16 true, og 25 (.fieldAddr 0 Q24) 16 true, og 26 (.load false 1 Q25) 16 true, og 27 (.bin .eql Q21 Q26 tI) 16 true, o 28 (.pick Q16 Q27 kF), oS 5 2 9, ⟨none, .again 26 false 1 Q25, some (16, true)⟩, ⟨none, .again 21 false 1 Q20, some (16, true)⟩, oM 3 28]
 .ret))⟩
theorem F45_ok:Bc Tryz.prog 45=some F45:=by kernel_rfl
def F46:FC:=⟨16,[.cell 4 true 4,.tmp 5],(sQ [o 4 (.alloc zbZ),o 5 (.mov (kI 0))] (sQ [oM 6 1,o 7 (.indexAddr 4 Q6 (kI 0)),oA 8 2 7,oL 9 8,oM 10 1,o 11 (.indexAddr 4 Q10 (kI 1)),oA 12 2 11,oL 13 12,o 14 (.bin .add Q9 Q13 (some .string)),o 15 (.build zbZ [(2,1,Q14)]),oS 4 4 15,o 5 (.mov (kI 0))] .ret))⟩
theorem F46_ok:Bc Tryz.prog 46=some F46:=by kernel_rfl
def X47:CF 47:=by refine⟨?_,?h⟩;rotate_left;conv=>lhs;cbv
def F47:FC:=X47.1
theorem F47_ok:Bc Tryz.prog 47=some F47:=X47.2
def X48:CF 48:=by refine⟨?_,?h⟩;rotate_left;conv=>lhs;cbv
def F48:FC:=X48.1
theorem F48_ok:Bc Tryz.prog 48=some F48:=X48.2
def X49:CF 49:=by refine⟨?_,?h⟩;rotate_left;conv=>lhs;cbv
def F49:FC:=X49.1
theorem F49_ok:Bc Tryz.prog 49=some F49:=X49.2
def X50:CF 50:=by refine⟨?_,?h⟩;rotate_left;conv=>lhs;cbv
def F50:FC:=X50.1
theorem F50_ok:Bc Tryz.prog 50=some F50:=X50.2
def X51:CF 51:=by refine⟨?_,?h⟩;rotate_left;conv=>lhs;cbv
def F51:FC:=X51.1
theorem F51_ok:Bc Tryz.prog 51=some F51:=X51.2
def X52:CF 52:=by refine⟨?_,?h⟩;rotate_left;conv=>lhs;cbv
def F52:FC:=X52.1
theorem F52_ok:Bc Tryz.prog 52=some F52:=X52.2
def X53:CF 53:=by refine⟨?_,?h⟩;rotate_left;conv=>lhs;cbv
def F53:FC:=X53.1
theorem F53_ok:Bc Tryz.prog 53=some F53:=X53.2
def F54 : FC := ⟨20, [.tmp 4, .cell 5 true 3], (sQ [o 2 (.box Q0), o 3 (.box Q1), o 4 (.mov (.const (.pointer none))), o 5 (.alloc [.int .i64 0, .slice none 0 0, .int .i64 0])] (.seq (sQ [o 7 (.load true 7 Q2), o 8 (.load true 6 Q3), o 9 (.call 91 [Q7, Q8]), o 6 (.alloc [.int .i64 0, .slice none 0 0, .int .i64 0]), oS 3 6 9] (sQ [oA 10 0 6, oL 11 10, o 12 (.bin .neq Q11 (kI 0) tI)] (.cond Q12
 (sQ [o 13 (.load true 3 Q6), o 4 (.mov (.const (.pointer none))), oS 3 5 13] .ret) .skip))) (sQ [o 14 (.load true 7 Q2), o 16 (.load true 6 Q3), o 19 (.build [.int .i64 0, .slice none 0 0, .int .i64 0] []), o 15 (.call 93 [Q14]), ⟨none, .again 16 true 6 Q3, none⟩, o 17 (.call 94 [Q16]), o 18 (.call 92 [Q15, Q17, (.const (.pointer none))]), oM 4 18, oS 3 5 19] .ret)))⟩
theorem F54_ok:Bc Tryz.prog 54=some F54:=by kernel_rfl
def F55 : FC := ⟨17, [.tmp 2], (sQ [o 2 (.mov (.const (.slice none 0 0)))] (sQ [o 3 (.alloc [.slice none 0 0])] (.seq (sQ [oM 6 0, o 7 (.call 95 [Q6])] (.block 0 (.rf Q7 [8, 9] (.ops [o 5 (.alloc zbZ), oS 4 5 9])
 (.block 1 (.ops [oL 10 3, o 11 (.load true 4 Q5), o 12 (.len 1 Q10), o 13 (.buildSlice 4 1 zbZ [(0, 4, (.const (.agg #[(.bool false), (.int .i64 0), (.string ⟨#[]⟩), (.slice none 0 0)])))]), ⟨none, .again 11 true 4 Q5, none⟩, ⟨none, .again 10 false 1 Q3, none⟩, o 14 (.append 4 56 Q10 Q13), o 15 (.indexAddr 4 Q14 Q12), oS 4 15 11, oS 1 3 14, ⟨none, .apart Q15 Q3, none⟩]))))) (sQ [oL 16 3, oM 2 16]
 .ret))))⟩
theorem F55_ok:Bc Tryz.prog 55=some F55:=by kernel_rfl
def F56 : FC := ⟨15, [.tmp 2, .tmp 3], (sQ [o 1 (.box Q0), o 2 (.mov (.const (.pointer none))), o 3 (.mov (kI 0))] (.seq (sQ [o 5 (.load true 7 Q1), o 6 (.call 96 [Q5]), o 7 (.un .not Q6)] (.cond Q7 (sQ [o 2 (.mov (.const (.pointer none))), o 3 (.mov (kI 5))] .ret) .skip)) (sQ [o 8 (.load true 7 Q1), o 9 (.call 97 [Q8]), o 4 (.alloc zaZ), oS 7 4 9]
 (sQ [o 10 (.load true 7 Q4), o 11 (.load true 7 Q4), o 12 (.call 98 [Q11]), ⟨none, .again 10 true 7 Q4, none⟩, o 13 (.build [(.string ⟨#[]⟩), (.bool false), (.int .i64 0), (.int .i64 0), (.int .i64 0), (.int .i64 0), (.slice none 0 0), .nilIface, (.bool false)] [(0, 7, Q10), (7, 1, Q12)]), o 14 (.box Q13), oM 2 14, o 3 (.mov (kI 0))] .ret))))⟩
theorem F56_ok:Bc Tryz.prog 56=some F56:=by kernel_rfl
def F57 : FC := ⟨22, [.tmp 4], (sQ [o 3 (.box Q1), o 4 (.mov (kI 0))] (.seq (sQ [oM 6 0, o 7 (.nilCheck Q6), oA 8 8 7, oL 9 8] (.cond Q9 (sQ [o 4 (.mov (kI 9))] .ret) .skip)) (.seq (sQ [oM 10 0, o 11 (.nilCheck Q10), oA 12 0 11, o 13 (.load true 7 Q12), o 14 (.load true 4 Q3), o 15 (.call 99 [Q13, Q14]), oM 5 15] (sQ [oM 16 5, o 17 (.bin .neq Q16 (kI 0) tI)] (.cond Q17 (sQ [oM 18 5, oM 4 18] .ret)
 .skip))) (sQ [oM 19 0, o 20 (.load true 4 Q3), o 21 (.call 100 [Q19, Q20]), oM 4 21] .ret))))⟩
theorem F57_ok:Bc Tryz.prog 57=some F57:=by kernel_rfl
def F58 : FC := ⟨17, [.cell 2 true 6, .tmp 3], (sQ [o 2 (.alloc [.int .i64 0, .int .i64 0, .int .i64 0, .slice none 0 0, .slice none 0 0, .slice none 0 0]), o 3 (.mov (kI 0))] (.seq (sQ [oM 4 0, o 5 (.nilCheck Q4), oA 6 8 5, oL 7 6] (.cond Q7 (sQ [o 8 (.build [.int .i64 0, .int .i64 0, .int .i64 0, .slice none 0 0, .slice none 0 0, .slice none 0 0] []), oS 6 2 8, o 3 (.mov (kI 9))] .ret) .skip))
 (sQ [oM 9 0, o 10 (.nilCheck Q9), oA 11 8 10, ⟨none, .store 1 Q11 kT, none⟩] (sQ [oM 12 0, o 13 (.nilCheck Q12), oA 14 7 13, oL 15 14, o 16 (.invoke Q15 "colonnade/build.done" [(189, 359), (192, 369), (195, 377), (198, 382), (201, 387), (204, 396), (207, 403), (211, 418), (214, 423)] []), oS 6 2 16, o 3 (.mov (kI 0))] .ret))))⟩
theorem F58_ok:Bc Tryz.prog 58=some F58:=by kernel_rfl
def X59:CF 59:=by refine⟨?_,?h⟩;rotate_left;conv=>lhs;cbv
def F59:FC:=X59.1
theorem F59_ok:Bc Tryz.prog 59=some F59:=X59.2
def X60:CF 60:=by refine⟨?_,?h⟩;rotate_left;conv=>lhs;cbv
def F60:FC:=X60.1
theorem F60_ok:Bc Tryz.prog 60=some F60:=X60.2
def X61:CF 61:=by refine⟨?_,?h⟩;rotate_left;conv=>lhs;cbv
def F61:FC:=X61.1
theorem F61_ok:Bc Tryz.prog 61=some F61:=X61.2
def F62 : FC := ⟨20, [.tmp 4], (sQ [o 2 (.box Q0), o 3 (.box Q1), o 4 (.mov kF)] (.seq (.any (.fork [o 5 (.load true 5 Q2), o 6 (.call 101 [Q5]), oM 7 6, og 8 (.load true 5 Q3) 7 true, og 9 (.call 101 [Q8]) 7 true, o 10 (.pick Q7 Q9 kF), oM 11 10] (.fork [og 12 (.load true 5 Q2) 11 true] (.fork [og 13 (.call 103 [Q12]) 11 true]
 (.done [⟨some 14, .buildSlice 7 1 zaZ [(0, 7, Q13)], some (11, true)⟩, og 15 (.load true 5 Q3) 11 true, og 16 (.call 103 [Q15]) 11 true, ⟨some 17, .buildSlice 7 1 zaZ [(0, 7, Q16)], some (11, true)⟩, og 18 (.call 102 [Q14, Q17, kF]) 11 true, o 19 (.pick Q11 Q18 kF), oM 4 19]) (.fork [og 15 (.load true 5 Q3) 11 true]
 (.done [⟨some 14, .buildSlice 7 1 zaZ [(0, 7, Q13)], some (11, true)⟩, og 16 (.call 103 [Q15]) 11 true, ⟨some 17, .buildSlice 7 1 zaZ [(0, 7, Q16)], some (11, true)⟩, og 18 (.call 102 [Q14, Q17, kF]) 11 true, o 19 (.pick Q11 Q18 kF), oM 4 19]) (.fork [og 16 (.call 103 [Q15]) 11 true]
 (.done [⟨some 14, .buildSlice 7 1 zaZ [(0, 7, Q13)], some (11, true)⟩, ⟨some 17, .buildSlice 7 1 zaZ [(0, 7, Q16)], some (11, true)⟩, og 18 (.call 102 [Q14, Q17, kF]) 11 true, o 19 (.pick Q11 Q18 kF), oM 4 19])
 (.done [⟨some 17, .buildSlice 7 1 zaZ [(0, 7, Q16)], some (11, true)⟩, ⟨some 14, .buildSlice 7 1 zaZ [(0, 7, Q13)], some (11, true)⟩, og 18 (.call 102 [Q14, Q17, kF]) 11 true, o 19 (.pick Q11 Q18 kF), oM 4 19])))) (.fork [og 15 (.load true 5 Q3) 11 true, og 13 (.call 103 [Q12]) 11 true]
 (.done [⟨some 14, .buildSlice 7 1 zaZ [(0, 7, Q13)], some (11, true)⟩, og 16 (.call 103 [Q15]) 11 true, ⟨some 17, .buildSlice 7 1 zaZ [(0, 7, Q16)], some (11, true)⟩, og 18 (.call 102 [Q14, Q17, kF]) 11 true, o 19 (.pick Q11 Q18 kF), oM 4 19]) (.fork [og 16 (.call 103 [Q15]) 11 true]
 (.done [⟨some 14, .buildSlice 7 1 zaZ [(0, 7, Q13)], some (11, true)⟩, ⟨some 17, .buildSlice 7 1 zaZ [(0, 7, Q16)], some (11, true)⟩, og 18 (.call 102 [Q14, Q17, kF]) 11 true, o 19 (.pick Q11 Q18 kF), oM 4 19])
 (.done [⟨some 17, .buildSlice 7 1 zaZ [(0, 7, Q16)], some (11, true)⟩, ⟨some 14, .buildSlice 7 1 zaZ [(0, 7, Q13)], some (11, true)⟩, og 18 (.call 102 [Q14, Q17, kF]) 11 true, o 19 (.pick Q11 Q18 kF), oM 4 19])))) (.fork [og 15 (.load true 5 Q3) 11 true, og 12 (.load true 5 Q2) 11 true, og 13 (.call 103 [Q12]) 11 true]
 (.done [⟨some 14, .buildSlice 7 1 zaZ [(0, 7, Q13)], some (11, true)⟩, og 16 (.call 103 [Q15]) 11 true, ⟨some 17, .buildSlice 7 1 zaZ [(0, 7, Q16)], some (11, true)⟩, og 18 (.call 102 [Q14, Q17, kF]) 11 true, o 19 (.pick Q11 Q18 kF), oM 4 19]) (.fork [og 16 (.call 103 [Q15]) 11 true]
 (.done [⟨some 14, .buildSlice 7 1 zaZ [(0, 7, Q13)], some (11, true)⟩, ⟨some 17, .buildSlice 7 1 zaZ [(0, 7, Q16)], some (11, true)⟩, og 18 (.call 102 [Q14, Q17, kF]) 11 true, o 19 (.pick Q11 Q18 kF), oM 4 19])
 (.done [⟨some 17, .buildSlice 7 1 zaZ [(0, 7, Q16)], some (11, true)⟩, ⟨some 14, .buildSlice 7 1 zaZ [(0, 7, Q13)], some (11, true)⟩, og 18 (.call 102 [Q14, Q17, kF]) 11 true, o 19 (.pick Q11 Q18 kF), oM 4 19]))))) .ret))⟩
theorem F62_ok:Bc Tryz.prog 62=some F62:=by kernel_rfl
def X63:CF 63:=by refine⟨?_,?h⟩;rotate_left;conv=>lhs;cbv
def F63:FC:=X63.1
theorem F63_ok:Bc Tryz.prog 63=some F63:=X63.2
def X64:CF 64:=by refine⟨?_,?h⟩;rotate_left;conv=>lhs;cbv
def F64:FC:=X64.1
theorem F64_ok:Bc Tryz.prog 64=some F64:=X64.2
def F65 : FC := ⟨124, [.cell 6 true 3], (sQ [o 3 (.box Q0), o 4 (.box Q1), o 6 (.alloc [.int .i64 0, .slice none 0 0, .int .i64 0])] (sQ [o 20 (.load true 7 Q3), o 21 (.load true 6 Q4), o 22 (.call 105 [Q20, Q21]), oM 19 22, o 23 (.extract Q19 0), o 24 (.extract Q19 1), oM 7 23, oM 8 24] (.seq (sQ [oM 25 7, o 26 (.bin .neq Q25 (kI 0) tI)] (.cond Q26
 (sQ [oM 27 7, oM 28 2, oM 29 8, o 30 (.call 106 [Q27, Q28, Q29]), oS 3 6 30] .ret) .skip)) (sQ [o 31 (.load true 7 Q3), o 32 (.load true 6 Q4), o 33 (.call 107 [Q31, Q32]), oM 9 33]
 (.seq (sQ [oA 34 2 4, oL 35 34, oM 36 9, o 37 (.bin .neq Q35 Q36 tI), oM 38 37, og 39 (.mov Q9) 38 false, og 40 (.bin .neq Q39 (kI 0) tI) 38 false, og 41 (.mov Q40) 38 false, og 42 (.fieldAddr 1 Q3) 41 true, og 43 (.load false 1 Q42) 41 true, og 44 (.un .not Q43) 41 true, og 45 (.pick Q41 Q44 kF) 38 false, o 46 (.pick Q38 kT Q45)] (.cond Q46
 (sQ [oM 47 2, o 48 (.call 106 [(kI 81), Q47, (kI 1)]), oS 3 6 48] .ret) .skip)) (sQ [o 50 (.load true 7 Q3), o 51 (.load true 6 Q4), o 52 (.call 108 [Q50, Q51]), oM 49 52, o 53 (.extract Q49 0), o 54 (.extract Q49 1), oM 7 53, oM 8 54] (.seq (sQ [oM 55 7, o 56 (.bin .neq Q55 (kI 0) tI)] (.cond Q56 (sQ [oM 57 7, oM 58 2, oM 59 8, o 60 (.call 106 [Q57, Q58, Q59]), oS 3 6 60] .ret) .skip))
 (sQ [o 61 (.load true 7 Q3), o 62 (.call 109 [Q61]), oM 10 62] (.seq (sQ [o 11 (.mov (kI 0))] (.block 0 (.loop (.seq (sQ [oM 63 11, oM 64 10, o 65 (.bin .lss Q63 Q64 tI)] (.cond Q65 .skip (.exit 0))) (.seq (.block 1 (sQ [oM 68 2, o 69 (.append 1 8 (.const (.slice none 0 0)) Q68), oM 12 69]
 (sQ [oM 70 12, oM 71 11, o 72 (.buildSlice 1 1 [.int .i64 0] [(0, 1, Q71)]), o 73 (.append 1 8 Q70 Q72), oM 12 73]
 (sQ [o 75 (.load true 7 Q3), o 76 (.load true 6 Q4), oM 77 11, o 78 (.call 110 [Q75, Q76, Q77]), oM 74 78, o 79 (.extract Q74 0), o 80 (.extract Q74 1), o 13 (.alloc zaZ), o 14 (.alloc [.int .i64 0, .int .i64 0, .int .i64 0, .slice none 0 0, .slice none 0 0, .slice none 0 0]), oS 7 13 79, oS 6 14 80]
 (sQ [o 81 (.load true 7 Q13), o 82 (.load true 6 Q14), oM 83 12, o 84 (.call 65 [Q81, Q82, Q83]), o 15 (.alloc [.int .i64 0, .slice none 0 0, .int .i64 0]), oS 3 15 84] (sQ [oA 85 0 15, oL 86 85, o 87 (.bin .neq Q86 (kI 0) tI)] (.cond Q87 (sQ [o 88 (.load true 3 Q15), oS 3 6 88] .ret) .skip))))))) (.ops [oM 66 11, o 67 (.bin .add Q66 (kI 1) tI), oM 11 67]))))))
 (.seq (sQ [oA 89 2 3, oA 90 0 89, oL 91 90, o 92 (.bin .eql Q91 (kI 20) tI)] (.cond Q92 (sQ [o 94 (.load true 6 Q4), o 95 (.call 111 [Q94]), oM 93 95, o 96 (.extract Q93 0), o 97 (.extract Q93 1), oM 7 96, oM 8 97] (sQ [oM 98 7, o 99 (.bin .neq Q98 (kI 0) tI)] (.cond Q99 (sQ [oM 100 7, oM 101 2, oM 102 8, o 103 (.call 106 [.tmp 100, .tmp 101, .tmp 102]), oS 3 6 103] .ret) .skip))) .skip))
 (sQ [o 104 (.load true 7 Q3), o 105 (.load true 6 Q4), o 106 (.call 112 [.tmp 104, .tmp 105]), oM 16 106] (sQ [o 17 (.mov (kI 0))] (.seq (sQ [o 18 (.mov (kI 0))] (.block 2 (.loop (.seq (sQ [oM 107 18, oM 108 16, o 109 (.len 1 (q 108)), o 110 (.bin .lss (q 107) (q 109) tI)] (.cond (q 110) .skip (.exit 2)))
 (.seq (.block 3 (.ops [oM 113 17, oM 114 16, oM 115 18, o 116 (.indexAddr 1 (q 114) (q 115)), oL 117 116, o 118 (.bin .add (q 113) (q 117) tI), oM 17 118])) (.ops [oM 111 18, o 112 (.bin .add (q 111) (kI 1) tI), oM 18 112])))))) (.seq (sQ [oM 119 17, o 120 (.bin .gtr (q 119) (kI 4194304) tI)] (.cond (q 120) (sQ [oM 121 2, o 122 (.call 106 [(kI 3), .tmp 121, (kI 1)]), oS 3 6 122] .ret) .skip))
 (sQ [o 123 (.build [.int .i64 0, .slice none 0 0, .int .i64 0] []), oS 3 6 123] .ret)))))))))))))))⟩
theorem F65_ok:Bc Tryz.prog 65=some F65:=by kernel_rfl
def X66:CF 66:=by refine⟨?_,?h⟩;rotate_left;conv=>lhs;cbv
def F66:FC:=X66.1
theorem F66_ok:Bc Tryz.prog 66=some F66:=X66.2
def X67:CF 67:=by refine⟨?_,?h⟩;rotate_left;conv=>lhs;cbv
def F67:FC:=X67.1
theorem F67_ok:Bc Tryz.prog 67=some F67:=X67.2
def X68:CF 68:=by refine⟨?_,?h⟩;rotate_left;conv=>lhs;cbv
def F68:FC:=X68.1
theorem F68_ok:Bc Tryz.prog 68=some F68:=X68.2
def F69 : FC := ⟨170, [.cell 6 true 4, .tmp 7], (sQ [o 4 (.box Q1), o 6 (.alloc zbZ), o 7 (.mov (kI 0))] (sQ [oA 14 2 4, oA 15 0 14, oL 16 15, oM 8 16] (.seq (sQ [oM 17 0] (.block 0 (.seq (sQ [o 19 (.bin .eql Q17 (kI 1) tI), oM 18 19] (.cond Q18 .skip (sQ [o 20 (.bin .eql Q17 (kI 2) tI), oM 18 20] (.cond Q18 .skip (sQ [o 21 (.bin .eql Q17 (kI 3) tI), oM 18 21] (.cond Q18 .skip
 (sQ [o 22 (.bin .eql Q17 (kI 4) tI), oM 18 22] (.cond Q18 .skip (.ops [o 23 (.bin .eql Q17 (kI 5) tI), oM 18 23]))))))))) (.cond Q18 (.seq (sQ [oM 24 8, o 25 (.bin .eql Q24 (kI 11) tI)] (.cond Q25
 (sQ [oM 26 0, oM 27 2, o 28 (.indexAddr 4 Q27 (kI 0)), oA 29 1 28, oL 30 29, oM 31 2, o 32 (.indexAddr 4 Q31 (kI 1)), oA 33 1 32, oL 34 33, o 35 (.call 115 [Q26, Q30, Q34]), o 36 (.build zbZ [(1, 1, Q35)]), oS 4 6 36, o 7 (.mov (kI 0))] .ret) .skip))
 (sQ [oM 38 0, oM 39 8, oM 40 2, o 41 (.indexAddr 4 Q40 (kI 0)), oA 42 1 41, oL 43 42, oM 44 2, o 45 (.indexAddr 4 Q44 (kI 1)), oA 46 1 45, oL 47 46, o 48 (.call 116 [Q38, Q39, Q43, Q47]), oM 37 48, o 49 (.extract Q37 0), o 50 (.extract Q37 1), oM 9 49, oM 10 50] (sQ [oM 51 9, o 52 (.build zbZ [(1, 1, Q51)]), oM 53 10, oS 4 6 52, oM 7 53] .ret))) (sQ [o 55 (.bin .eql Q17 (kI 6) tI), oM 54 55]
 (.cond Q54 (.seq (sQ [oM 56 8, o 57 (.bin .eql Q56 (kI 11) tI)] (.cond Q57 (sQ [oM 58 2, o 59 (.indexAddr 4 Q58 (kI 0)), oA 60 1 59, oL 61 60, o 62 (.conv .u64 Q61), o 63 (.bin .xor Q62 (.const (.int .u64 9223372036854775808)) (some (.int .u64))), o 64 (.conv .i64 Q63), o 65 (.build zbZ [(1, 1, Q64)]), oS 4 6 65, o 7 (.mov (kI 0))] .ret) .skip))
 (sQ [oM 67 8, oM 68 2, o 69 (.indexAddr 4 Q68 (kI 0)), oA 70 1 69, oL 71 70, o 72 (.call 116 [(kI 2), Q67, (kI 0), Q71]), oM 66 72, o 73 (.extract Q66 0), o 74 (.extract Q66 1), oM 11 73, oM 12 74] (sQ [oM 75 11, o 76 (.build zbZ [(1, 1, Q75)]), oM 77 12, oS 4 6 76, oM 7 77] .ret))) (sQ [o 79 (.bin .eql Q17 (kI 15) tI), oM 78 79] (.cond Q78
 (sQ [oM 80 2, o 81 (.indexAddr 4 Q80 (kI 0)), oA 82 1 81, oL 83 82, o 84 (.bin .sub (kI 1) Q83 tI), o 85 (.build zbZ [(1, 1, Q84)]), oS 4 6 85, o 7 (.mov (kI 0))] .ret) (sQ [o 87 (.bin .eql Q17 (kI 19) tI), oM 86 87] (.cond Q86
 (sQ [oM 88 2, o 89 (.indexAddr 4 Q88 (kI 0)), oA 90 2 89, oL 91 90, oM 92 2, o 93 (.indexAddr 4 Q92 (kI 1)), oA 94 2 93, oL 95 94, o 96 (.bin .add Q91 Q95 (some .string)), o 97 (.build zbZ [(2, 1, Q96)]), oS 4 6 97, o 7 (.mov (kI 0))] .ret) (sQ [o 99 (.bin .eql Q17 (kI 20) tI), oM 98 99] (.cond Q98
 (sQ [oM 100 2, o 101 (.indexAddr 4 (q 100) (kI 0)), oA 102 2 101, oL 103 102, o 104 (.len 0 (q 103)), oM 105 2, o 106 (.indexAddr 4 (q 105) (kI 0)), oA 107 3 106, oL 108 107, o 109 (.len 1 (q 108)), o 110 (.bin .add (q 104) (q 109) tI), o 111 (.build zbZ [(1, 1, (q 110))]), oS 4 6 111, o 7 (.mov (kI 0))] .ret) (sQ [o 113 (.bin .eql Q17 (kI 21) tI), oM 112 113] (.cond (q 112)
 (sQ [oM 114 2, o 115 (.indexAddr 4 (q 114) (kI 1)), oA 116 2 115, oL 117 116, o 118 (.len 0 (q 117)), oM 13 118]
 (sQ [oM 119 13, oM 120 2, o 121 (.indexAddr 4 (q 120) (kI 0)), oA 122 2 121, oL 123 122, o 124 (.len 0 (q 123)), o 125 (.bin .leq (q 119) (q 124) tI), oM 126 125, og 127 (.mov Q2) 126 true, og 128 (.indexAddr 4 (q 127) (kI 0)) 126 true, og 129 (.fieldAddr 2 (q 128)) 126 true, og 130 (.load false 1 (q 129)) 126 true, og 131 (.mov Q13) 126 true, og 132 (.mov Q2) 126 true, og 133 (.indexAddr 4 (q 132) (kI 0)) 126 true, og 134 (.fieldAddr 2 (q 133)) 126 true, og 135 (.load false 1 (q 134)) 126 true, og 136 (.len 0 (q 135)) 126 true, og 137 (.minmax false (q 131) [.tmp 136]) 126 true, og 138 (.sliceStr (q 130) none (some (q 137))) 126 true, og 139 (.mov Q2) 126 true, og 140 (.indexAddr 4 (q 139) (kI 1)) 126 true, og 141 (.fieldAddr 2 (q 140)) 126 true, og 142 (.load false 1 (q 141)) 126 true, og 143 (.bin .eql (q 138) (q 142) (some .string)) 126 true, o 144 (.pick (q 126) (q 143) kF), o 145 (.call 68 [.tmp 144]), oS 4 6 145, o 7 (.mov (kI 0))]
 .ret)) (sQ [o 147 (.bin .eql Q17 (kI 22) tI), oM 146 147] (.cond (q 146) (sQ [oM 148 2, o 149 (.indexAddr 4 (q 148) (kI 0)), oA 150 2 149, oL 151 150, oM 152 2, o 153 (.indexAddr 4 (q 152) (kI 1)), oA 154 2 153, oL 155 154, o 156 (.call 117 [.tmp 151, .tmp 155]), o 157 (.bin .geq (q 156) (kI 0) tI), o 158 (.call 68 [.tmp 157]), oS 4 6 158, o 7 (.mov (kI 0))] .ret) .skip))))))))))))))))
 (sQ [oM 159 0, o 160 (.load true 7 Q4), oM 161 2, o 162 (.indexAddr 4 (q 161) (kI 0)), o 163 (.load true 4 (q 162)), oM 164 2, o 165 (.indexAddr 4 (q 164) (kI 1)), o 166 (.load true 4 (q 165)), o 167 (.call 119 [.tmp 160, .tmp 163, .tmp 166]), o 168 (.call 118 [.tmp 159, .tmp 167]), o 169 (.call 68 [.tmp 168]), oS 4 6 169, o 7 (.mov (kI 0))] .ret))))⟩
theorem F69_ok:Bc Tryz.prog 69=some F69:=by kernel_rfl
def X70:CF 70:=by refine⟨?_,?h⟩;rotate_left;conv=>lhs;cbv
def F70:FC:=X70.1
theorem F70_ok:Bc Tryz.prog 70=some F70:=X70.2
def X71:CF 71:=by refine⟨?_,?h⟩;rotate_left;conv=>lhs;cbv
def F71:FC:=X71.1
theorem F71_ok:Bc Tryz.prog 71=some F71:=X71.2
def X72:CF 72:=by refine⟨?_,?h⟩;rotate_left;conv=>lhs;cbv
def F72:FC:=X72.1
theorem F72_ok:Bc Tryz.prog 72=some F72:=X72.2
def F73 : FC := ⟨32, [.tmp 2], (sQ [o 2 (.mov (.const (.slice none 0 0)))] (sQ [oM 5 0, o 6 (.len 1 Q5), o 7 (.bin .add Q6 (kI 7) tI), o 8 (.bin .quo Q7 (kI 8) tI), o 9 (.mkSlice 1 1 [.int .u8 0] Q8 Q8), oM 3 9] (.seq (sQ [o 4 (.mov (kI 0))] (.block 0 (.loop (.seq (sQ [oM 10 4, oM 11 0, o 12 (.len 1 Q11), o 13 (.bin .lss Q10 Q12 tI)] (.cond Q13 .skip (.exit 0)))
 (.seq (.block 1 (sQ [oM 16 0, oM 17 4, o 18 (.indexAddr 1 Q16 Q17), oL 19 18, o 20 (.bin .neq Q19 (.const (.int .u8 0)) (some (.int .u8)))] (.cond Q20
 (.ops [oM 21 3, oM 22 4, o 23 (.bin .quo Q22 (kI 8) tI), o 24 (.indexAddr 1 Q21 Q23), oL 25 24, oM 26 4, o 27 (.bin .rem Q26 (kI 8) tI), o 28 (.bin .shl (.const (.int .u8 1)) Q27 (some (.int .u8))), o 29 (.bin .or Q25 Q28 (some (.int .u8))), o 30 (.indexAddr 1 Q21 Q23), oS 1 30 29]) .skip))) (.ops [oM 14 4, o 15 (.bin .add Q14 (kI 1) tI), oM 4 15])))))) (sQ [oM 31 3, oM 2 31] .ret))))⟩
theorem F73_ok:Bc Tryz.prog 73=some F73:=by kernel_rfl
def X74:CF 74:=by refine⟨?_,?h⟩;rotate_left;conv=>lhs;cbv
def F74:FC:=X74.1
theorem F74_ok:Bc Tryz.prog 74=some F74:=X74.2
def X75:CF 75:=by refine⟨?_,?h⟩;rotate_left;conv=>lhs;cbv
def F75:FC:=X75.1
theorem F75_ok:Bc Tryz.prog 75=some F75:=X75.2
def X76:CF 76:=by refine⟨?_,?h⟩;rotate_left;conv=>lhs;cbv
def F76:FC:=X76.1
theorem F76_ok:Bc Tryz.prog 76=some F76:=X76.2
def F77 : FC := ⟨38, [.cell 5 true 4, .tmp 6], (sQ [o 5 (.alloc zbZ), o 6 (.mov (kI 0))] (.seq (sQ [oM 8 0, o 9 (.indexAddr 7 Q8 (kI 0)), oA 10 2 9, oA 11 0 10, oL 12 11, oM 7 12] (sQ [oM 13 7, o 14 (.bin .neq Q13 (kI 11) tI)] (.cond Q14
 (sQ [oL 15 2, oM 16 7, oM 17 1, o 18 (.indexAddr 4 Q17 (kI 0)), oA 19 1 18, oL 20 19, oM 21 1, o 22 (.indexAddr 4 Q21 (kI 1)), oA 23 1 22, oL 24 23, o 25 (.call 78 [Q15, Q16, Q20, Q24]), o 26 (.extract Q25 0), o 27 (.extract Q25 1), oS 4 5 26, oM 6 27] .ret) .skip)))
 (sQ [oL 28 2, oM 29 1, o 30 (.indexAddr 4 Q29 (kI 0)), oA 31 1 30, oL 32 31, oM 33 1, o 34 (.indexAddr 4 Q33 (kI 1)), oA 35 1 34, oL 36 35, o 37 (.call 79 [Q28, Q32, Q36]), oS 4 5 37, o 6 (.mov (kI 0))] .ret)))⟩
theorem F77_ok:Bc Tryz.prog 77=some F77:=by kernel_rfl
def X78:CF 78:=by refine⟨?_,?h⟩;rotate_left;conv=>lhs;cbv
def F78:FC:=X78.1
theorem F78_ok:Bc Tryz.prog 78=some F78:=X78.2
def X80:CF 80:=by refine⟨?_,?h⟩;rotate_left;conv=>lhs;cbv
def F80:FC:=X80.1
theorem F80_ok:Bc Tryz.prog 80=some F80:=X80.2
def X81:CF 81:=by refine⟨?_,?h⟩;rotate_left;conv=>lhs;cbv
def F81:FC:=X81.1
theorem F81_ok:Bc Tryz.prog 81=some F81:=X81.2
def F82 : FC := ⟨58, [.cell 5 true 4, .tmp 6], (sQ [o 5 (.alloc zbZ), o 6 (.mov (kI 0))] (sQ [oM 11 0, o 12 (.indexAddr 7 Q11 (kI 0)), o 13 (.load true 7 Q12), o 7 (.alloc zaZ), oS 7 7 13] (sQ [oA 14 2 7, oA 15 0 14, oL 16 15, o 17 (.bin .eql Q16 (kI 1) tI), oA 18 1 7, oS 1 18 17]
 (sQ [o 20 (.load true 7 Q7), oM 21 1, o 22 (.indexAddr 4 Q21 (kI 0)), o 23 (.load true 4 Q22), oM 24 1, o 25 (.indexAddr 4 Q24 (kI 1)), o 26 (.load true 4 Q25), o 27 (.call 83 [Q20, Q23, Q26]), oM 19 27, o 28 (.extract Q19 0), o 29 (.extract Q19 1), oM 8 28, oM 9 29] (sQ [o 10 (.mov kF)] (.seq (sQ [oL 30 2] (.block 0 (sQ [o 32 (.bin .eql Q30 (kI 7) tI), oM 31 32] (.cond Q31
 (.ops [oM 33 8, o 34 (.bin .eql Q33 (kI 0) tI), oM 10 34]) (sQ [o 36 (.bin .eql Q30 (kI 8) tI), oM 35 36] (.cond Q35 (.ops [oM 37 8, o 38 (.bin .neq Q37 (kI 0) tI), oM 10 38]) (sQ [o 40 (.bin .eql Q30 (kI 9) tI), oM 39 40] (.cond Q39 (.ops [oM 41 8, o 42 (.bin .lss Q41 (kI 0) tI), oM 10 42]) (sQ [o 44 (.bin .eql Q30 (kI 10) tI), oM 43 44] (.cond Q43
 (.ops [oM 45 8, o 46 (.bin .leq Q45 (kI 0) tI), oM 10 46]) (sQ [o 48 (.bin .eql Q30 (kI 11) tI), oM 47 48] (.cond Q47 (.ops [oM 49 8, o 50 (.bin .gtr Q49 (kI 0) tI), oM 10 50]) (sQ [o 52 (.bin .eql Q30 (kI 12) tI), oM 51 52] (.cond Q51 (.ops [oM 53 8, o 54 (.bin .geq Q53 (kI 0) tI), oM 10 54]) .skip)))))))))))))) (sQ [oM 55 10, o 56 (.call 84 [Q55]), oM 57 9, oS 4 5 56, oM 6 57] .ret)))))))⟩
theorem F82_ok:Bc Tryz.prog 82=some F82:=by kernel_rfl
def X83:CF 83:=by refine⟨?_,?h⟩;rotate_left;conv=>lhs;cbv
def F83:FC:=X83.1
theorem F83_ok:Bc Tryz.prog 83=some F83:=X83.2
def X84:CF 84:=by refine⟨?_,?h⟩;rotate_left;conv=>lhs;cbv
def F84:FC:=X84.1
theorem F84_ok:Bc Tryz.prog 84=some F84:=X84.2
def X85:CF 85:=by refine⟨?_,?h⟩;rotate_left;conv=>lhs;cbv
def F85:FC:=X85.1
theorem F85_ok:Bc Tryz.prog 85=some F85:=X85.2
def X86:CF 86:=by refine⟨?_,?h⟩;rotate_left;conv=>lhs;cbv
def F86:FC:=X86.1
theorem F86_ok:Bc Tryz.prog 86=some F86:=X86.2
def F87 : FC := ⟨28, [.cell 5 true 4, .tmp 6], (sQ [o 5 (.alloc zbZ), o 6 (.mov (kI 0))] (.seq (sQ [oL 7 2] (.cond Q7 (sQ [oM 8 1, o 9 (.indexAddr 4 Q8 (kI 0)), oA 10 2 9, oL 11 10, oM 12 1, o 13 (.indexAddr 4 Q12 (kI 1)), oA 14 2 13, oL 15 14, o 16 (.call 88 [Q11, Q15]), o 17 (.call 84 [Q16]), oS 4 5 17, o 6 (.mov (kI 0))] .ret) .skip))
 (sQ [oM 18 1, o 19 (.indexAddr 4 Q18 (kI 0)), oA 20 2 19, oL 21 20, oM 22 1, o 23 (.indexAddr 4 Q22 (kI 1)), oA 24 2 23, oL 25 24, o 26 (.call 89 [Q21, Q25]), o 27 (.call 84 [Q26]), oS 4 5 27, o 6 (.mov (kI 0))] .ret)))⟩
theorem F87_ok:Bc Tryz.prog 87=some F87:=by kernel_rfl
def X90:CF 90:=by refine⟨?_,?h⟩;rotate_left;conv=>lhs;cbv
def F90:FC:=X90.1
theorem F90_ok:Bc Tryz.prog 90=some F90:=X90.2
def X91:CF 91:=by refine⟨?_,?h⟩;rotate_left;conv=>lhs;cbv
def F91:FC:=X91.1
theorem F91_ok:Bc Tryz.prog 91=some F91:=X91.2
def F92 : FC := ⟨20, [.tmp 6], (sQ [o 3 (.box Q0), o 4 (.box Q1), o 6 (.mov (.const (.pointer none)))]
 (sQ [o 7 (.load true 7 Q3), o 8 (.load true 6 Q4), oA 9 1 4, oL 10 9, oA 11 0 4, oL 12 11, oM 13 2, oA 14 2 3, oA 15 0 14, oL 16 15, o 17 (.call 146 [Q16]), ⟨none, .again 12 false 1 Q11, none⟩, ⟨none, .again 10 false 1 Q9, none⟩, ⟨none, .again 8 true 6 Q4, none⟩, ⟨none, .again 7 true 7 Q3, none⟩, o 18 (.build [(.string ⟨#[]⟩), (.bool false), (.int .i64 0), (.int .i64 0), (.int .i64 0), (.int .i64 0), (.slice none 0 0), (.int .i64 0), (.int .i64 0), (.int .i64 0), (.slice none 0 0), (.slice none 0 0), (.slice none 0 0), (.int .i64 0), (.int .i64 0), (.pointer none), .nilIface] [(0, 7, Q7), (7, 6, Q8), (13, 1, Q10), (14, 1, Q12), (15, 1, Q13), (16, 1, Q17)]), o 19 (.box Q18), oM 6 19]
 .ret))⟩
theorem F92_ok:Bc Tryz.prog 92=some F92:=by kernel_rfl
def F93 : FC := ⟨31, [.cell 2 true 7], (sQ [o 1 (.box Q0), o 2 (.alloc zaZ)] (sQ [oA 4 2 1, oA 5 4 4, oL 6 5, o 7 (.call 147 [Q6]), oA 8 2 1, oA 9 4 8, oS 1 9 7] (.seq (sQ [oA 10 2 1, oA 11 4 10, oL 12 11, o 13 (.len 1 Q12), o 14 (.mov (kI 0))] (.block 0 (.loop (sQ [o 15 (.bin .lss Q14 Q13 tI)] (.seq (.cond Q15 .skip (.exit 0)) (.seq (.block 1 (sQ [oM 16 14, oM 3 16]
 (.ops [oA 17 2 1, oA 18 4 17, oL 19 18, oM 20 3, oA 21 2 1, oA 22 4 21, oL 23 22, oM 24 3, o 25 (.indexAddr 7 Q23 Q24), o 26 (.load true 7 Q25), o 27 (.call 93 [Q26]), ⟨none, .again 19 false 1 Q18, none⟩, o 28 (.indexAddr 7 Q19 Q20), oS 7 28 27]))) (.ops [o 29 (.bin .add Q14 (kI 1) tI), oM 14 29]))))))) (sQ [o 30 (.load true 7 Q1), oS 7 2 30] .ret))))⟩
theorem F93_ok:Bc Tryz.prog 93=some F93:=by kernel_rfl
def X94:CF 94:=by refine⟨?_,?h⟩;rotate_left;conv=>lhs;cbv
def F94:FC:=X94.1
theorem F94_ok:Bc Tryz.prog 94=some F94:=X94.2
def X95:CF 95:=by refine⟨?_,?h⟩;rotate_left;conv=>lhs;cbv
def F95:FC:=X95.1
theorem F95_ok:Bc Tryz.prog 95=some F95:=X95.2
def X96:CF 96:=by refine⟨?_,?h⟩;rotate_left;conv=>lhs;cbv
def F96:FC:=X96.1
theorem F96_ok:Bc Tryz.prog 96=some F96:=X96.2
def X97:CF 97:=by refine⟨?_,?h⟩;rotate_left;conv=>lhs;cbv
def F97:FC:=X97.1
theorem F97_ok:Bc Tryz.prog 97=some F97:=X97.2
def F98 : FC := ⟨108, [.tmp 2], (sQ [o 1 (.box Q0), o 2 (.mov (.const .nilIface))] (sQ [o 8 (.load true 7 Q1), o 9 (.call 152 [Q8]), o 3 (.alloc zeZ), oS 16 3 9] (sQ [o 4 (.mov (.const (.slice none 0 0)))] (.seq (sQ [oA 10 2 1, oA 11 4 10, oL 12 11, o 13 (.len 1 Q12), o 14 (.mov (kI 0))] (.block 0 (.loop (sQ [o 15 (.bin .lss Q14 Q13 tI)] (.seq (.cond Q15 .skip (.exit 0))
 (.seq (.block 1 (sQ [o 16 (.indexAddr 7 Q12 Q14), o 17 (.load true 7 Q16), o 6 (.alloc zaZ), oS 7 6 17] (.ops [oM 18 4, o 19 (.load true 7 Q6), o 20 (.call 98 [Q19]), o 21 (.buildSlice 1 1 [.nilIface] [(0, 1, Q20)]), o 22 (.append 1 16 Q18 Q21), oM 4 22]))) (.ops [o 23 (.bin .add Q14 (kI 1) tI), oM 14 23]))))))) (.seq (sQ [oA 24 2 1, oA 25 0 24, oL 26 25, oM 7 26]
 (.block 2 (sQ [oM 28 7, o 29 (.bin .eql Q28 (kI 1) tI), oM 27 29] (.cond Q27 (sQ [o 30 (.load true 16 Q3), o 31 (.build zeZ [(0, 16, Q30)]), o 32 (.box Q31), o 33 (.mkIface 189 Q32), oM 2 33] .ret) (sQ [oM 35 7, o 36 (.bin .eql Q35 (kI 12) tI), oM 37 36, og 38 (.mov Q7) 37 false, og 39 (.bin .eql Q38 (kI 13) tI) 37 false, o 40 (.pick Q37 kT Q39), oM 34 40] (.cond Q34
 (sQ [o 41 (.load true 16 Q3), o 42 (.buildSlice 1 1 [.int .i64 0] [(0, 1, (kI 0))]), o 43 (.build zfZ [(0, 16, Q41), (16, 1, Q42)]), o 44 (.box Q43), o 45 (.mkIface 192 Q44), oM 2 45] .ret) (sQ [oM 47 7, o 48 (.bin .eql Q47 (kI 15) tI), oM 46 48] (.cond Q46
 (sQ [o 49 (.load true 16 Q3), oM 51 4, o 52 (.indexAddr 1 Q51 (kI 0)), oL 53 52, o 50 (.buildSlice 1 1 [.int .i64 0] [(0, 1, (kI 0))]), ⟨none, .again 53 false 1 Q52, none⟩, ⟨none, .again 49 true 16 Q3, none⟩, o 54 (.build [(.string ⟨#[]⟩), (.bool false), (.int .i64 0), (.int .i64 0), (.int .i64 0), (.int .i64 0), (.slice none 0 0), (.int .i64 0), (.int .i64 0), (.slice none 0 0), (.int .i64 0), (.bool false), (.int .i64 0), (.string ⟨#[]⟩), (.slice none 0 0), (.bool false), (.slice none 0 0), .nilIface] [(0, 16, Q49), (16, 1, Q50), (17, 1, Q53)]), o 55 (.box Q54), o 56 (.mkIface 195 Q55), oM 2 56]
 .ret) (sQ [oM 58 7, o 59 (.bin .eql Q58 (kI 16) tI), oM 57 59] (.cond Q57
 (sQ [o 60 (.load true 16 Q3), oM 61 4, o 62 (.indexAddr 1 Q61 (kI 0)), oL 63 62, o 64 (.build [(.string ⟨#[]⟩), (.bool false), (.int .i64 0), (.int .i64 0), (.int .i64 0), (.int .i64 0), (.slice none 0 0), (.int .i64 0), (.int .i64 0), (.slice none 0 0), (.int .i64 0), (.bool false), (.int .i64 0), (.string ⟨#[]⟩), (.slice none 0 0), (.bool false), .nilIface] [(0, 16, Q60), (16, 1, Q63)]), o 65 (.box Q64), o 66 (.mkIface 198 Q65), oM 2 66]
 .ret) (sQ [oM 68 7, o 69 (.bin .eql Q68 (kI 17) tI), oM 67 69] (.cond Q67 (sQ [o 70 (.load true 16 Q3), oM 71 4, o 72 (.build zgZ [(0, 16, Q70), (16, 1, Q71)]), o 73 (.box Q72), o 74 (.mkIface 201 Q73), oM 2 74] .ret) (sQ [oM 76 7, o 77 (.bin .eql Q76 (kI 18) tI), oM 75 77] (.cond Q75
 (sQ [o 78 (.load true 16 Q3), oM 79 4, o 80 (.build zhZ [(0, 16, Q78), (18, 1, Q79)]), o 81 (.box Q80), o 82 (.mkIface 204 Q81), oM 2 82] .ret) (sQ [oM 84 7, o 85 (.bin .eql Q84 (kI 19) tI), oM 83 85] (.cond Q83
 (sQ [o 86 (.load true 16 Q3), oM 87 4, o 88 (.indexAddr 1 Q87 (kI 0)), oL 89 88, o 90 (.mkMap), ⟨none, .again 89 false 1 Q88, none⟩, ⟨none, .again 86 true 16 Q3, none⟩, o 91 (.build [(.string ⟨#[]⟩), (.bool false), (.int .i64 0), (.int .i64 0), (.int .i64 0), (.int .i64 0), (.slice none 0 0), (.int .i64 0), (.int .i64 0), (.slice none 0 0), (.int .i64 0), (.bool false), (.int .i64 0), (.string ⟨#[]⟩), (.slice none 0 0), (.bool false), (.slice none 0 0), .nilIface, (.slice none 0 0), (.map none)] [(0, 16, Q86), (17, 1, Q89), (19, 1, Q90)]), o 92 (.box Q91), o 93 (.mkIface 207 Q92), oM 2 93]
 .ret) (sQ [oM 95 7, o 96 (.bin .eql Q95 (kI 20) tI), oM 94 96] (.cond Q94
 (sQ [o 97 (.load true 16 Q3), oM 98 4, o 99 (.indexAddr 1 Q98 (kI 0)), oL 100 99, o 101 (.build [(.string ⟨#[]⟩), (.bool false), (.int .i64 0), (.int .i64 0), (.int .i64 0), (.int .i64 0), (.slice none 0 0), (.int .i64 0), (.int .i64 0), (.slice none 0 0), (.int .i64 0), (.bool false), (.int .i64 0), (.string ⟨#[]⟩), (.slice none 0 0), (.bool false), (.slice none 0 0), .nilIface, (.bool false), (.int .i64 0), (.string ⟨#[]⟩), (.slice none 0 0)] [(0, 16, Q97), (17, 1, (q 100))]), o 102 (.box (q 101)), o 103 (.mkIface 211 (q 102)), oM 2 103]
 .ret) .skip)))))))))))))))))) (sQ [o 104 (.load true 16 Q3), o 105 (.build zfZ [(0, 16, (q 104))]), o 106 (.box (q 105)), o 107 (.mkIface 214 (q 106)), oM 2 107] .ret))))))⟩
theorem F98_ok:Bc Tryz.prog 98=some F98:=by kernel_rfl
def X99:CF 99:=by refine⟨?_,?h⟩;rotate_left;conv=>lhs;cbv
def F99:FC:=X99.1
theorem F99_ok:Bc Tryz.prog 99=some F99:=X99.2
def X101:CF 101:=by refine⟨?_,?h⟩;rotate_left;conv=>lhs;cbv
def F101:FC:=X101.1
theorem F101_ok:Bc Tryz.prog 101=some F101:=X101.2
def F102 : FC := ⟨73, [.tmp 6], (sQ [o 6 (.mov kF)] (sQ [oM 11 0, o 12 (.call 154 [Q11, (.const (.slice none 0 0)), kF, (.const (.slice none 0 0))]), oM 13 1, o 14 (.call 154 [Q13, (.const (.slice none 0 0)), kF, (.const (.slice none 0 0))]), oM 7 12, oM 8 14]
 (.seq (sQ [oM 15 0, o 16 (.len 1 Q15), oM 17 1, o 18 (.len 1 Q17), o 19 (.bin .neq Q16 Q18 tI), oM 20 19, og 21 (.mov Q7) 20 false, og 22 (.len 1 Q21) 20 false, og 23 (.mov Q8) 20 false, og 24 (.len 1 Q23) 20 false, og 25 (.bin .neq Q22 Q24 tI) 20 false, o 26 (.pick Q20 kT Q25)] (.cond Q26 (sQ [o 6 (.mov kF)] .ret) .skip)) (.seq (sQ [oM 27 7, o 28 (.len 1 Q27), o 29 (.mov (kI 0))]
 (.block 0 (.loop (sQ [o 30 (.bin .lss Q29 Q28 tI)] (.seq (.cond Q30 .skip (.exit 0)) (.seq (.block 1 (sQ [oM 31 29, oM 9 31]
 (sQ [oM 32 2, oM 33 32, og 34 (.mov Q7) 33 false, og 35 (.mov Q9) 33 false, og 36 (.indexAddr 10 Q34 Q35) 33 false, og 37 (.fieldAddr 0 Q36) 33 false, og 38 (.load false 1 Q37) 33 false, og 39 (.len 1 Q38) 33 false, og 40 (.bin .gtr Q39 (kI 1) tI) 33 false, o 41 (.pick Q33 kT Q40), oM 10 41]
 (sQ [oM 42 7, oM 43 9, o 44 (.indexAddr 10 Q42 Q43), oA 45 1 44, o 46 (.load true 7 Q45), oM 47 8, oM 48 9, o 49 (.indexAddr 10 Q47 Q48), oA 50 1 49, o 51 (.load true 7 Q50), o 52 (.call 155 [Q46, Q51]), o 53 (.un .not Q52), oM 54 53, og 55 (.mov Q10) 54 false, og 56 (.mov Q55) 54 false, og 57 (.mov Q7) 56 true, og 58 (.mov Q9) 56 true, og 59 (.indexAddr 10 Q57 Q58) 56 true, og 60 (.fieldAddr 1 Q59) 56 true, og 61 (.fieldAddr 0 Q60) 56 true, og 62 (.load false 1 Q61) 56 true, og 63 (.mov Q8) 56 true, og 64 (.mov Q9) 56 true, og 65 (.indexAddr 10 Q63 Q64) 56 true, og 66 (.fieldAddr 1 Q65) 56 true, og 67 (.fieldAddr 0 Q66) 56 true, og 68 (.load false 1 Q67) 56 true, og 69 (.bin .neq Q62 Q68 (some .string)) 56 true, og 70 (.pick Q56 Q69 kF) 54 false, o 71 (.pick Q54 kT Q70)]
 (.cond Q71 (sQ [o 6 (.mov kF)] .ret) .skip))))) (.ops [o 72 (.bin .add Q29 (kI 1) tI), oM 29 72]))))))) (sQ [o 6 (.mov kT)] .ret)))))⟩
theorem F102_ok:Bc Tryz.prog 102=some F102:=by kernel_rfl
def X103:CF 103:=by refine⟨?_,?h⟩;rotate_left;conv=>lhs;cbv
def F103:FC:=X103.1
theorem F103_ok:Bc Tryz.prog 103=some F103:=X103.2
def X104:CF 104:=by refine⟨?_,?h⟩;rotate_left;conv=>lhs;cbv
def F104:FC:=X104.1
theorem F104_ok:Bc Tryz.prog 104=some F104:=X104.2
def F105 : FC := ⟨163, [.tmp 4, .tmp 5], (sQ [o 2 (.box Q0), o 3 (.box Q1), o 4 (.mov (kI 0)), o 5 (.mov (kI 0))] (sQ [oA 18 2 2, o 19 (.load true 5 Q18), o 20 (.call 156 [Q19]), oM 17 20, o 21 (.extract Q17 0), o 22 (.extract Q17 1), o 23 (.extract Q17 2), oM 6 21, oM 7 22, oM 8 23]
 (.seq (sQ [oA 24 3 3, oL 25 24, o 26 (.len 1 Q25), oM 27 6, o 28 (.bin .neq Q26 Q27 tI), oM 29 28, og 30 (.fieldAddr 4 Q3) 29 false, og 31 (.load false 1 Q30) 29 false, og 32 (.len 1 Q31) 29 false, og 33 (.mov Q7) 29 false, og 34 (.bin .neq Q32 Q33 tI) 29 false, o 35 (.pick Q29 kT Q34), oM 36 35, og 37 (.fieldAddr 5 Q3) 36 false, og 38 (.load false 1 Q37) 36 false, og 39 (.len 1 Q38) 36 false, og 40 (.mov Q8) 36 false, og 41 (.bin .neq Q39 Q40 tI) 36 false, o 42 (.pick Q36 kT Q41)]
 (.cond Q42 (sQ [o 4 (.mov (kI 80)), o 5 (.mov (kI 0))] .ret) .skip))
 (.seq (sQ [oA 43 0 3, oL 44 43, o 45 (.bin .lss Q44 (kI 0) tI), oM 46 45, og 47 (.fieldAddr 1 Q3) 46 false, og 48 (.load false 1 Q47) 46 false, og 49 (.bin .lss Q48 (kI 0) tI) 46 false, o 50 (.pick Q46 kT Q49), oM 51 50, og 52 (.fieldAddr 2 Q3) 51 false, og 53 (.load false 1 Q52) 51 false, og 54 (.bin .lss Q53 (kI 0) tI) 51 false, o 55 (.pick Q51 kT Q54), oM 56 55, og 57 (.fieldAddr 2 Q3) 56 false, og 58 (.load false 1 Q57) 56 false, og 59 (.fieldAddr 0 Q3) 56 false, og 60 (.load false 1 Q59) 56 false, og 61 (.bin .gtr Q58 Q60 tI) 56 false, o 62 (.pick Q56 kT Q61)]
 (.cond Q62 (sQ [o 4 (.mov (kI 81)), o 5 (.mov (kI 0))] .ret) .skip)) (.seq (sQ [oA 63 0 3, oL 64 63, o 65 (.bin .gtr Q64 (kI 4096) tI), oM 66 65, og 67 (.fieldAddr 1 Q3) 66 false, og 68 (.load false 1 Q67) 66 false, og 69 (.fieldAddr 0 Q3) 66 false, og 70 (.load false 1 Q69) 66 false, og 71 (.bin .sub (kI 4096) Q70 tI) 66 false, og 72 (.bin .gtr Q68 Q71 tI) 66 false, o 73 (.pick Q66 kT Q72)]
 (.cond Q73 (sQ [o 4 (.mov (kI 3)), o 5 (.mov (kI 0))] .ret) .skip)) (.seq (sQ [o 9 (.mov (kI 0))] (.block 0 (.loop (.seq (sQ [oM 74 9, oM 75 6, o 76 (.bin .lss Q74 Q75 tI)] (.cond Q76 .skip (.exit 0))) (.seq (.block 1 (sQ [oA 79 3 3, oL 80 79, oM 81 9, o 82 (.indexAddr 1 Q80 Q81), oL 83 82, o 84 (.len 1 Q83), o 85 (.bin .gtr Q84 (kI 65536) tI)] (.cond Q85 (sQ [oM 86 9, o 4 (.mov (kI 4)), oM 5 86]
 .ret) .skip))) (.ops [oM 77 9, o 78 (.bin .add Q77 (kI 1) tI), oM 9 78])))))) (sQ [oA 87 1 3, oL 88 87, oA 89 0 3, oL 90 89, o 91 (.bin .add Q88 Q90 tI), oM 10 91] (.seq (sQ [o 11 (.mov (kI 0))] (.block 2 (.loop (.seq (sQ [oM 92 11, oM 93 6, o 94 (.bin .lss Q92 Q93 tI)] (.cond Q94 .skip (.exit 2)))
 (.seq (.block 3 (sQ [oA 97 2 2, o 98 (.load true 5 Q97), oM 99 11, oM 100 10, o 101 (.call 157 [Q98, Q99, .tmp 100]), oM 12 101] (sQ [oA 102 3 3, oL 103 102, oM 104 11, o 105 (.indexAddr 1 (q 103) (q 104)), oL 106 105, o 107 (.len 1 (q 106)), oM 13 107] (sQ [oA 108 2 2, oA 109 0 108, oL 110 109, o 111 (.call 158 [.tmp 110]), oM 14 111]
 (.seq (sQ [oM 112 14, oM 113 112, og 114 (.mov Q11) 113 true, og 115 (.bin .eql (q 114) (kI 0) tI) 113 true, o 116 (.pick (q 113) (q 115) kF), oM 117 116, og 118 (.mov Q13) 117 true, og 119 (.bin .eql (q 118) (kI 0) tI) 117 true, o 120 (.pick (q 117) (q 119) kF)] (.cond (q 120) (.exit 3) .skip)) (sQ [oM 121 13, oM 122 12, o 123 (.bin .lss (q 121) (q 122) tI)] (.cond (q 123)
 (sQ [oM 124 11, o 4 (.mov (kI 82)), oM 5 124] .ret) .skip))))))) (.ops [oM 95 11, o 96 (.bin .add Q95 (kI 1) tI), oM 11 96])))))) (.seq (sQ [o 15 (.mov (kI 0))] (.block 4 (.loop (.seq (sQ [oM 125 15, oM 126 7, o 127 (.bin .lss (q 125) (q 126) tI)] (.cond (q 127) .skip (.exit 4)))
 (.seq (.block 5 (sQ [oA 130 4 3, oL 131 130, oM 132 15, o 133 (.indexAddr 6 (q 131) (q 132)), oA 134 0 133, oL 135 134, oM 16 135]
 (sQ [oA 136 2 2, oA 137 0 136, oL 138 137, o 139 (.bin .eql (q 138) (kI 16) tI), oM 140 139, og 141 (.mov Q16) 140 true, og 142 (.mov Q10) 140 true, og 143 (.fieldAddr 2 Q2) 140 true, og 144 (.fieldAddr 1 (q 143)) 140 true, og 145 (.load false 1 (q 144)) 140 true, og 146 (.bin .mul (q 142) (q 145) tI) 140 true, og 147 (.bin .lss (q 141) (q 146) tI) 140 true, o 148 (.pick (q 140) (q 147) kF), oM 149 148, og 150 (.fieldAddr 2 Q2) 149 false, og 151 (.fieldAddr 0 (q 150)) 149 false, og 152 (.load false 1 (q 151)) 149 false, og 153 (.bin .eql (q 152) (kI 17) tI) 149 false, og 154 (.mov (q 153)) 149 false, og 155 (.mov Q16) 154 true, og 156 (.mov Q10) 154 true, og 157 (.bin .lss (q 155) (q 156) tI) 154 true, og 158 (.pick (q 154) (q 157) kF) 149 false, o 159 (.pick (q 149) kT (q 158))]
 (.cond (q 159) (sQ [oM 160 6, oM 161 15, o 162 (.bin .add (q 160) (q 161) tI), o 4 (.mov (kI 82)), oM 5 162] .ret) .skip)))) (.ops [oM 128 15, o 129 (.bin .add (q 128) (kI 1) tI), oM 15 129])))))) (sQ [o 4 (.mov (kI 0)), o 5 (.mov (kI 0))] .ret))))))))))⟩
theorem F105_ok:Bc Tryz.prog 105=some F105:=by kernel_rfl
def X106:CF 106:=by refine⟨?_,?h⟩;rotate_left;conv=>lhs;cbv
def F106:FC:=X106.1
theorem F106_ok:Bc Tryz.prog 106=some F106:=X106.2
def X107:CF 107:=by refine⟨?_,?h⟩;rotate_left;conv=>lhs;cbv
def F107:FC:=X107.1
theorem F107_ok:Bc Tryz.prog 107=some F107:=X107.2
def F108 : FC := ⟨171, [.tmp 4, .tmp 5], (sQ [o 2 (.box Q0), o 3 (.box Q1), o 4 (.mov (kI 0)), o 5 (.mov (kI 0))] (sQ [oA 17 2 2, oA 18 0 17, oL 19 18, oM 6 19]
 (.seq (sQ [oM 20 6, o 21 (.bin .eql Q20 (kI 12) tI), oM 22 21, og 23 (.mov Q6) 22 false, og 24 (.bin .eql Q23 (kI 13) tI) 22 false, o 25 (.pick Q22 kT Q24), oM 26 25, og 27 (.mov Q6) 26 false, og 28 (.bin .eql Q27 (kI 15) tI) 26 false, o 29 (.pick Q26 kT Q28)] (.cond Q29 (sQ [o 7 (.mov (kI 0))] (.seq (sQ [oM 30 6, o 31 (.bin .eql Q30 (kI 15) tI)] (.cond Q31
 (.ops [oA 32 4 3, oL 33 32, o 34 (.indexAddr 6 Q33 (kI 0)), oA 35 0 34, oL 36 35, oM 7 36]) (.ops [oA 37 3 3, oL 38 37, o 39 (.indexAddr 1 Q38 (kI 2)), oL 40 39, o 41 (.len 1 Q40), oM 7 41]))) (sQ [o 8 (.mov (kI 0))] (.block 0 (.loop (.seq (sQ [oM 42 8, oA 43 0 3, oL 44 43, o 45 (.bin .leq Q42 Q44 tI)] (.cond Q45 .skip (.exit 0)))
 (.seq (.block 1 (sQ [o 48 (.load true 6 Q3), oA 49 1 3, oL 50 49, oM 51 8, o 52 (.bin .add Q50 Q51 tI), o 53 (.call 160 [Q48, Q52]), oM 9 53]
 (sQ [oM 54 9, o 55 (.bin .lss Q54 (kI 0) tI), oM 56 55, og 57 (.mov Q9) 56 false, og 58 (.mov Q7) 56 false, og 59 (.bin .gtr Q57 Q58 tI) 56 false, o 60 (.pick Q56 kT Q59), oM 61 60, og 62 (.mov Q8) 61 false, og 63 (.bin .gtr Q62 (kI 0) tI) 61 false, og 64 (.mov Q63) 61 false, og 65 (.mov Q9) 64 true, og 66 (.load true 6 Q3) 64 true, og 67 (.fieldAddr 1 Q3) 64 true, og 68 (.load false 1 Q67) 64 true, og 69 (.mov Q8) 64 true, og 70 (.bin .add Q68 Q69 tI) 64 true, og 71 (.bin .sub Q70 (kI 1) tI) 64 true, og 72 (.call 160 [Q66, Q71]) 64 true, og 73 (.bin .lss Q65 Q72 tI) 64 true, og 74 (.pick Q64 Q73 kF) 61 false, o 75 (.pick Q61 kT Q74)]
 (.cond Q75 (sQ [oM 76 8, o 4 (.mov (kI 83)), oM 5 76] .ret) .skip)))) (.ops [oM 46 8, o 47 (.bin .add Q46 (kI 1) tI), oM 8 47])))))))) .skip)) (.seq (sQ [o 10 (.mov (kI 0))] (.block 2 (.loop (.seq (sQ [oM 77 10, oA 78 0 3, oL 79 78, o 80 (.bin .lss Q77 Q79 tI)] (.cond Q80 .skip (.exit 2))) (.seq (.block 3 (sQ [oA 83 1 3, oL 84 83, oM 85 10, o 86 (.bin .add Q84 Q85 tI), oM 11 86]
 (sQ [o 87 (.load true 7 Q2), o 88 (.load true 6 Q3), oM 89 11, o 90 (.call 159 [Q87, Q88, Q89]), oM 12 90] (.block 4 (sQ [oM 92 6, o 93 (.bin .eql Q92 (kI 12) tI), oM 94 93, og 95 (.mov Q12) 94 true, og 96 (.un .not Q95) 94 true, o 97 (.pick Q94 Q96 kF), oM 91 97] (.cond Q91
 (sQ [oA 98 3 3, oL 99 98, o 100 (.indexAddr 1 Q99 (kI 2)), oL 101 100, o 102 (.load true 6 Q3), oM 103 11, o 105 (.load true 6 Q3), oM 106 11, o 107 (.bin .add (q 106) (kI 1) tI), o 104 (.call 160 [.tmp 102, .tmp 103]), ⟨none, .again 105 true 6 Q3, none⟩, ⟨none, .again 101 false 1 (q 100), none⟩, ⟨none, .again 99 false 1 Q98, none⟩, o 108 (.call 160 [.tmp 105, .tmp 107]), ⟨none, .again 101 false 1 (q 100), none⟩, ⟨none, .again 99 false 1 Q98, none⟩, o 109 (.slice 1 (q 101) (some (q 104)) (some (q 108)) none), o 110 (.b2s (q 109)), o 111 (.call 161 [.tmp 110]), oM 13 111]
 (sQ [oM 112 13, o 113 (.un .not (q 112))] (.cond (q 113) (sQ [oM 114 10, o 4 (.mov (kI 84)), oM 5 114] .ret) .skip))) (sQ [oM 116 6, o 117 (.bin .eql (q 116) (kI 18) tI), oM 115 117] (.cond (q 115) (sQ [oA 118 3 3, oL 119 118, o 120 (.indexAddr 1 (q 119) (kI 0)), oL 121 120, oM 122 11, o 123 (.indexAddr 1 (q 121) (q 122)), oL 124 123, o 125 (.conv .i64 (q 124)), oM 14 125]
 (.seq (sQ [oM 126 14, oA 127 4 3, oL 128 127, o 129 (.len 1 (q 128)), o 130 (.bin .geq (q 126) (q 129) tI)] (.cond (q 130) (sQ [oM 131 10, o 4 (.mov (kI 85)), oM 5 131] .ret) .skip)) (sQ [o 132 (.load true 6 Q3), oM 133 11, o 134 (.call 160 [.tmp 132, .tmp 133]), oM 15 134]
 (sQ [oM 135 15, o 136 (.bin .lss (q 135) (kI 0) tI), oM 137 136, og 138 (.mov Q15) 137 false, og 139 (.fieldAddr 4 Q3) 137 false, og 140 (.load false 1 (q 139)) 137 false, og 141 (.mov Q14) 137 false, og 142 (.indexAddr 6 (q 140) (q 141)) 137 false, og 143 (.fieldAddr 0 (q 142)) 137 false, og 144 (.load false 1 (q 143)) 137 false, og 145 (.bin .geq (q 138) (q 144) tI) 137 false, o 146 (.pick (q 137) kT (q 145))]
 (.cond (q 146) (sQ [oM 147 10, o 4 (.mov (kI 83)), oM 5 147] .ret) .skip))))) (sQ [oM 149 6, o 150 (.bin .eql (q 149) (kI 19) tI), oM 151 150, og 152 (.mov Q12) 151 true, og 153 (.un .not (q 152)) 151 true, o 154 (.pick (q 151) (q 153) kF), oM 148 154] (.cond (q 148) (sQ [o 155 (.load true 7 Q2), o 156 (.load true 6 Q3), oM 157 11, o 158 (.call 162 [.tmp 155, .tmp 156, .tmp 157]), oM 16 158]
 (sQ [oM 159 16, o 160 (.bin .lss (q 159) (kI 0) tI), oM 161 160, og 162 (.mov Q16) 161 false, og 163 (.fieldAddr 5 Q3) 161 false, og 164 (.load false 1 (q 163)) 161 false, og 165 (.indexAddr 6 (q 164) (kI 0)) 161 false, og 166 (.fieldAddr 0 (q 165)) 161 false, og 167 (.load false 1 (q 166)) 161 false, og 168 (.bin .geq (q 162) (q 167) tI) 161 false, o 169 (.pick (q 161) kT (q 168))]
 (.cond (q 169) (sQ [oM 170 10, o 4 (.mov (kI 86)), oM 5 170] .ret) .skip))) .skip)))))))))) (.ops [oM 81 10, o 82 (.bin .add Q81 (kI 1) tI), oM 10 82])))))) (sQ [o 4 (.mov (kI 0)), o 5 (.mov (kI 0))] .ret)))))⟩
theorem F108_ok:Bc Tryz.prog 108=some F108:=by kernel_rfl
def X109:CF 109:=by refine⟨?_,?h⟩;rotate_left;conv=>lhs;cbv
def F109:FC:=X109.1
theorem F109_ok:Bc Tryz.prog 109=some F109:=X109.2
def F110 : FC := ⟨34, [.cell 6 true 7, .cell 7 true 6], (sQ [o 3 (.box Q0), o 4 (.box Q1), o 6 (.alloc zaZ), o 7 (.alloc [.int .i64 0, .int .i64 0, .int .i64 0, .slice none 0 0, .slice none 0 0, .slice none 0 0])] (.seq (sQ [oA 9 2 3, oA 10 0 9, oL 11 10, o 12 (.bin .eql Q11 (kI 19) tI)] (.cond Q12
 (sQ [oA 13 2 3, oA 14 4 13, oL 15 14, o 16 (.indexAddr 7 Q15 (kI 0)), o 17 (.load true 7 Q16), oA 18 5 4, oL 19 18, o 20 (.indexAddr 6 Q19 (kI 0)), o 21 (.load true 6 Q20), oS 7 6 17, ⟨none, .again 21 true 6 Q20, none⟩, ⟨none, .again 19 false 1 Q18, none⟩, oS 6 7 21] .ret) .skip)) (sQ [oA 22 2 3, o 23 (.load true 5 Q22), o 24 (.call 163 [Q23]), oM 8 24]
 (sQ [oM 25 8, oM 26 2, o 27 (.indexAddr 7 Q25 Q26), o 28 (.load true 7 Q27), oA 29 4 4, oL 30 29, oM 31 2, o 32 (.indexAddr 6 Q30 Q31), o 33 (.load true 6 Q32), oS 7 6 28, ⟨none, .again 33 true 6 Q32, none⟩, ⟨none, .again 30 false 1 Q29, none⟩, oS 6 7 33] .ret))))⟩
theorem F110_ok:Bc Tryz.prog 110=some F110:=by kernel_rfl
def F111 : FC := ⟨49, [.tmp 2, .tmp 3], (sQ [o 1 (.box Q0), o 2 (.mov (kI 0)), o 3 (.mov (kI 0))] (sQ [oA 8 4 1, oL 9 8, o 10 (.indexAddr 6 Q9 (kI 0)), o 11 (.load true 6 Q10), o 4 (.alloc [.int .i64 0, .int .i64 0, .int .i64 0, .slice none 0 0, .slice none 0 0, .slice none 0 0]), oS 6 4 11]
 (.seq (sQ [oA 12 0 4, oL 13 12, oA 14 4 1, oL 15 14, o 16 (.indexAddr 6 Q15 (kI 1)), oA 17 0 16, oL 18 17, o 19 (.bin .neq Q13 Q18 tI)] (.cond Q19 (sQ [o 2 (.mov (kI 6)), o 3 (.mov (kI 0))] .ret) .skip)) (sQ [o 5 (.mov (kI 0))] (.seq (sQ [o 6 (.mov (kI 0))] (.block 0 (.loop (.seq (sQ [oM 20 6, oA 21 0 4, oL 22 21, o 23 (.bin .lss Q20 Q22 tI)] (.cond Q23 .skip (.exit 0)))
 (.seq (.block 1 (sQ [oA 26 3 4, oL 27 26, o 28 (.indexAddr 1 Q27 (kI 1)), oL 29 28, oA 30 1 4, oL 31 30, oM 32 6, o 33 (.bin .add Q31 Q32 tI), o 34 (.call 164 [(kI 5), Q29, Q33]), oM 7 34] (.seq (sQ [oM 35 7, oM 36 5, o 37 (.bin .leq Q35 Q36 tI)] (.cond Q37 (sQ [oM 38 6, o 2 (.mov (kI 87)), oM 3 38] .ret) .skip)) (.ops [oM 39 7, oM 5 39]))))
 (.ops [oM 24 6, o 25 (.bin .add Q24 (kI 1) tI), oM 6 25])))))) (.seq (sQ [oM 40 5, oA 41 1 1, oL 42 41, oA 43 0 1, oL 44 43, o 45 (.bin .add Q42 Q44 tI), o 46 (.bin .lss Q40 Q45 tI)] (.cond Q46 (sQ [oA 47 0 4, oL 48 47, o 2 (.mov (kI 87)), oM 3 48] .ret) .skip)) (sQ [o 2 (.mov (kI 0)), o 3 (.mov (kI 0))] .ret)))))))⟩
theorem F111_ok:Bc Tryz.prog 111=some F111:=by kernel_rfl
def X112:CF 112:=by refine⟨?_,?h⟩;rotate_left;conv=>lhs;cbv
def F112:FC:=X112.1
theorem F112_ok:Bc Tryz.prog 112=some F112:=X112.2
def X113:CF 113:=by refine⟨?_,?h⟩;rotate_left;conv=>lhs;cbv
def F113:FC:=X113.1
theorem F113_ok:Bc Tryz.prog 113=some F113:=X113.2
def F114 : FC := ⟨174, [.cell 8 true 4, .tmp 9], (sQ [o 5 (.box Q1), o 6 (.box Q2), o 8 (.alloc zbZ), o 9 (.mov kF)] (sQ [o 10 (.alloc zbZ)] (sQ [oA 17 2 5, oA 18 0 17, oL 19 18, oM 11 19] (sQ [o 20 (.load true 7 Q5), o 21 (.load true 6 Q6), oM 22 3, o 23 (.call 159 [Q20, Q21, Q22]), oM 12 23]
 (.seq (sQ [oM 24 11, o 25 (.bin .eql Q24 (kI 19) tI), oM 26 25, og 27 (.mov Q12) 26 true, og 28 (.un .not Q27) 26 true, o 29 (.pick Q26 Q28 kF)] (.cond Q29 (sQ [o 30 (.load true 7 Q5), o 31 (.load true 6 Q6), oM 32 3, o 33 (.call 162 [Q30, Q31, Q32]), oM 13 33]
 (.seq (sQ [oM 34 13, o 35 (.bin .lss Q34 (kI 0) tI), oM 36 35, og 37 (.mov Q13) 36 false, og 38 (.fieldAddr 5 Q6) 36 false, og 39 (.load false 1 Q38) 36 false, og 40 (.indexAddr 6 Q39 (kI 0)) 36 false, og 41 (.fieldAddr 0 Q40) 36 false, og 42 (.load false 1 Q41) 36 false, og 43 (.bin .geq Q37 Q42 tI) 36 false, o 44 (.pick Q36 kT Q43)] (.cond Q44
 (sQ [o 45 (.load true 4 Q10), oS 4 8 45, o 9 (.mov kF)] .ret) .skip))
 (sQ [oM 46 0, oA 47 2 5, oA 48 4 47, oL 49 48, o 50 (.indexAddr 7 Q49 (kI 0)), o 51 (.load true 7 Q50), oA 52 5 6, oL 53 52, o 54 (.indexAddr 6 Q53 (kI 0)), o 55 (.load true 6 Q54), oA 56 5 6, oL 57 56, o 58 (.indexAddr 6 Q57 (kI 0)), oA 59 1 58, oL 60 59, oM 61 13, o 62 (.bin .add Q60 Q61 tI), o 63 (.call 114 [Q46, Q51, Q55, Q62]), o 64 (.extract Q63 0), o 65 (.extract Q63 1), oS 4 8 64, oM 9 65]
 .ret))) .skip)) (.seq (sQ [oM 66 11, o 67 (.bin .eql Q66 (kI 20) tI)] (.cond Q67 (sQ [o 68 (.load true 6 Q6), oM 69 3, o 70 (.call 166 [Q68, Q69]), oM 14 70]
 (.seq (sQ [oM 71 14, o 72 (.bin .lss Q71 (kI 0) tI), oM 73 72, og 74 (.mov Q14) 73 false, og 75 (.fieldAddr 4 Q6) 73 false, og 76 (.load false 1 Q75) 73 false, og 77 (.indexAddr 6 Q76 (kI 1)) 73 false, og 78 (.fieldAddr 0 Q77) 73 false, og 79 (.load false 1 Q78) 73 false, og 80 (.bin .geq Q74 Q79 tI) 73 false, o 81 (.pick Q73 kT Q80)] (.cond Q81
 (sQ [o 82 (.load true 4 Q10), oS 4 8 82, o 9 (.mov kF)] .ret) .skip))
 (sQ [oM 83 0, oA 84 2 5, oA 85 4 84, oL 86 85, o 87 (.indexAddr 7 Q86 (kI 0)), o 88 (.load true 7 Q87), oA 89 4 6, oL 90 89, o 91 (.indexAddr 6 Q90 (kI 1)), o 92 (.load true 6 Q91), oA 93 4 6, oL 94 93, o 95 (.indexAddr 6 Q94 (kI 1)), oA 96 1 95, oL 97 96, oM 98 14, o 99 (.bin .add Q97 Q98 tI), o 100 (.call 114 [Q83, Q88, Q92, Q99]), o 101 (.extract (q 100) 0), o 102 (.extract (q 100) 1), oS 4 8 101, oM 9 102]
 .ret))) .skip)) (sQ [oM 103 0, o 104 (.nilCheck (q 103)), oA 105 0 104, oL 106 105, o 107 (.bin .sub (q 106) (kI 16) tI), o 108 (.nilCheck (q 103)), oA 109 0 108, oS 1 109 107] (.seq (sQ [oM 110 0, o 111 (.nilCheck (q 110)), oA 112 0 111, oL 113 112, o 114 (.bin .lss (q 113) (kI 0) tI)] (.cond (q 114) (sQ [o 115 (.load true 4 Q10), oS 4 8 115, o 9 (.mov kF)] .ret) .skip)) (.seq (sQ [oM 116 12]
 (.cond (q 116) (sQ [oA 117 0 10, ⟨none, .store 1 (q 117) kT, none⟩] (sQ [o 118 (.load true 4 Q10), oS 4 8 118, o 9 (.mov kT)] .ret)) .skip)) (.seq (sQ [oM 119 11] (.block 0 (.seq (sQ [o 129 (.bin .eql (q 119) (kI 12) tI), oM 128 129] (.cond (q 128) .skip (sQ [o 130 (.bin .eql (q 119) (kI 13) tI), oM 128 130] (.cond (q 128) .skip (.ops [o 131 (.bin .eql (q 119) (kI 14) tI), oM 128 131])))))
 (.cond (q 128) (sQ [oM 132 0, o 133 (.load true 7 Q5), o 134 (.load true 6 Q6), oM 135 3, o 136 (.call 167 [.tmp 132, .tmp 133, .tmp 134, .tmp 135]), o 137 (.extract (q 136) 0), o 138 (.extract (q 136) 1), oS 4 8 137, oM 9 138] .ret) (.seq (sQ [o 140 (.bin .eql (q 119) (kI 15) tI), oM 139 140] (.cond (q 139) .skip (sQ [o 141 (.bin .eql (q 119) (kI 16) tI), oM 139 141] (.cond (q 139) .skip
 (sQ [o 142 (.bin .eql (q 119) (kI 17) tI), oM 139 142] (.cond (q 139) .skip (.ops [o 143 (.bin .eql (q 119) (kI 18) tI), oM 139 143]))))))) (.cond (q 139) (sQ [oM 144 0, o 145 (.load true 7 Q5), o 146 (.load true 6 Q6), oM 147 3, o 148 (.call 168 [.tmp 144, .tmp 145, .tmp 146, .tmp 147]), o 149 (.extract (q 148) 0), o 150 (.extract (q 148) 1), oS 4 8 149, oM 9 150] .ret)
 (sQ [o 152 (.bin .eql (q 119) (kI 2) tI), oM 151 152] (.cond (q 151) (sQ [oA 153 3 6, oL 154 153, o 155 (.indexAddr 1 (q 154) (kI 1)), oL 156 155, oM 157 3, o 158 (.bin .quo (q 157) (kI 8) tI), o 159 (.indexAddr 1 (q 156) (q 158)), oL 160 159, o 161 (.conv .i64 (q 160)), oM 15 161] (.seq (sQ [o 16 (.mov (kI 0))]
 (.block 1 (.loop (.seq (sQ [oM 162 16, oM 163 3, o 164 (.bin .rem (q 163) (kI 8) tI), o 165 (.bin .lss (q 162) (q 164) tI)] (.cond (q 165) .skip (.exit 1))) (.seq (.block 2 (.ops [oM 168 15, o 169 (.bin .quo (q 168) (kI 2) tI), oM 15 169])) (.ops [oM 166 16, o 167 (.bin .add (q 166) (kI 1) tI), oM 16 167])))))) (.ops [oM 170 15, o 171 (.bin .rem (q 170) (kI 2) tI), oA 172 1 10, oS 1 172 171])))
 (.ops [oM 120 11, oA 121 3 6, oL 122 121, o 123 (.indexAddr 1 (q 122) (kI 1)), oL 124 123, oM 125 3, o 126 (.call 164 [.tmp 120, .tmp 124, .tmp 125]), oA 127 1 10, oS 1 127 126]))))))))) (sQ [o 173 (.load true 4 Q10), oS 4 8 173, o 9 (.mov kT)] .ret)))))))))))⟩
theorem F114_ok:Bc Tryz.prog 114=some F114:=by kernel_rfl
def X115:CF 115:=by refine⟨?_,?h⟩;rotate_left;conv=>lhs;cbv
def F115:FC:=X115.1
theorem F115_ok:Bc Tryz.prog 115=some F115:=X115.2
def F116 : FC := ⟨129, [.tmp 8, .tmp 9], (sQ [o 8 (.mov (kI 0)), o 9 (.mov (kI 0))] (sQ [oM 17 1, oM 18 2, o 19 (.call 172 [Q17, Q18]), oM 20 1, oM 21 3, o 22 (.call 172 [Q20, Q21]), o 10 (.alloc [.bool false, .int .u64 0]), o 11 (.alloc [.bool false, .int .u64 0]), oS 2 10 19, oS 2 11 22] (.seq (sQ [oM 23 0, o 24 (.bin .eql Q23 (kI 2) tI)] (.cond Q24
 (sQ [oA 25 0 11, oL 26 25, o 27 (.un .not Q26), oA 28 0 11, oS 1 28 27] (.ops [o 0 (.mov (kI 1))])) .skip)) (sQ [oA 29 0 10, oL 30 29, oA 31 0 11, oL 32 31, o 33 (.bin .neq Q30 Q32 (some .bool)), o 34 (.build [.bool false, .int .u64 0] [(0, 1, Q33), (1, 1, (.const (.int .u64 0)))]), o 12 (.alloc [.bool false, .int .u64 0]), oS 2 12 34] (sQ [o 13 (.mov kT)] (.seq (sQ [oM 35 0]
 (.block 0 (sQ [o 37 (.bin .eql Q35 (kI 1) tI), oM 36 37] (.cond Q36 (.block 1 (sQ [oA 47 0 10, oL 48 47, oA 49 0 11, oL 50 49, o 51 (.bin .eql Q48 Q50 (some .bool)), oM 46 51] (.cond Q46 (sQ [oA 52 0 10, oL 53 52, oA 54 1 10, oL 55 54, oA 56 1 11, oL 57 56, o 58 (.bin .add Q55 Q57 (some (.int .u64))), o 59 (.build [.bool false, .int .u64 0] [(0, 1, Q53), (1, 1, Q58)]), oS 2 12 59]
 (.ops [oA 60 1 12, oL 61 60, oA 62 1 10, oL 63 62, o 64 (.bin .geq Q61 Q63 (some (.int .u64))), oM 13 64])) (sQ [oA 66 1 10, oL 67 66, oA 68 1 11, oL 69 68, o 70 (.bin .geq Q67 Q69 (some (.int .u64))), oM 65 70] (.cond Q65
 (.ops [oA 71 0 10, oL 72 71, oA 73 1 10, oL 74 73, oA 75 1 11, oL 76 75, o 77 (.bin .sub Q74 Q76 (some (.int .u64))), o 78 (.build [.bool false, .int .u64 0] [(0, 1, Q72), (1, 1, Q77)]), oS 2 12 78])
 (.ops [oA 38 0 11, oL 39 38, oA 40 1 11, oL 41 40, oA 42 1 10, oL 43 42, o 44 (.bin .sub Q41 Q43 (some (.int .u64))), o 45 (.build [.bool false, .int .u64 0] [(0, 1, Q39), (1, 1, Q44)]), oS 2 12 45])))))) (sQ [o 80 (.bin .eql Q35 (kI 3) tI), oM 79 80] (.cond Q79 (sQ [oA 81 1 10, oL 82 81, oA 83 1 11, oL 84 83, o 85 (.call 173 [Q82, Q84]), o 14 (.alloc [.int .u64 0, .int .u64 0]), oS 2 14 85]
 (sQ [oA 86 1 14, oL 87 86, oA 88 1 12, oS 1 88 87] (.ops [oA 89 0 14, oL 90 89, o 91 (.bin .eql Q90 (.const (.int .u64 0)) (some (.int .u64))), oM 13 91]))) (sQ [o 93 (.bin .eql Q35 (kI 4) tI), oM 92 93] (.cond Q92 (.seq (sQ [oA 94 1 11, oL 95 94, o 96 (.bin .eql Q95 (.const (.int .u64 0)) (some (.int .u64)))] (.cond Q96 (sQ [o 8 (.mov (kI 0)), o 9 (.mov (kI 171))] .ret) .skip))
 (.ops [oA 97 1 10, oL 98 97, oA 99 1 11, oL 100 99, o 101 (.bin .quo Q98 (q 100) (some (.int .u64))), oA 102 1 12, oS 1 102 101])) (sQ [o 104 (.bin .eql Q35 (kI 5) tI), oM 103 104] (.cond (q 103) (.seq (sQ [oA 105 1 11, oL 106 105, o 107 (.bin .eql (q 106) (.const (.int .u64 0)) (some (.int .u64)))] (.cond (q 107) (sQ [o 8 (.mov (kI 0)), o 9 (.mov (kI 171))] .ret) .skip))
 (.ops [oA 108 0 10, oL 109 108, oA 110 1 10, oL 111 110, oA 112 1 11, oL 113 112, o 114 (.bin .rem (q 111) (q 113) (some (.int .u64))), o 115 (.build [.bool false, .int .u64 0] [(0, 1, (q 109)), (1, 1, (q 114))]), oS 2 12 115])) .skip))))))))))
 (sQ [o 117 (.load true 2 Q12), oM 118 1, o 119 (.call 174 [.tmp 117, .tmp 118]), oM 116 119, o 120 (.extract (q 116) 0), o 121 (.extract (q 116) 1), oM 15 120, oM 16 121] (.seq (sQ [oM 122 13, o 123 (.un .not (q 122)), oM 124 123, og 125 (.mov Q16) 124 false, og 126 (.un .not (q 125)) 124 false, o 127 (.pick (q 124) kT (q 126))] (.cond (q 127) (sQ [o 8 (.mov (kI 0)), o 9 (.mov (kI 170))] .ret)
 .skip)) (sQ [oM 128 15, oM 8 128, o 9 (.mov (kI 0))] .ret)))))))))⟩
theorem F116_ok:Bc Tryz.prog 116=some F116:=by kernel_rfl
def X117:CF 117:=by refine⟨?_,?h⟩;rotate_left;conv=>lhs;cbv
def F117:FC:=X117.1
theorem F117_ok:Bc Tryz.prog 117=some F117:=X117.2
def X118:CF 118:=by refine⟨?_,?h⟩;rotate_left;conv=>lhs;cbv
def F118:FC:=X118.1
theorem F118_ok:Bc Tryz.prog 118=some F118:=X118.2
def F119 : FC := ⟨146, [.tmp 6], (sQ [o 3 (.box Q0), o 4 (.box Q1), o 5 (.box Q2), o 6 (.mov (kI 0))] (sQ [oA 8 2 3, o 9 (.load true 5 Q8), o 7 (.alloc [.int .i64 0, .int .i64 0, .int .i64 0, .int .i64 0, .slice none 0 0]), oS 5 7 9] (.seq (sQ [oA 10 0 4, oL 11 10, oM 12 11, og 13 (.fieldAddr 0 Q5) 12 false, og 14 (.load false 1 Q13) 12 false, o 15 (.pick Q12 kT Q14)] (.cond Q15
 (sQ [oA 16 0 4, oL 17 16, oM 18 17, og 19 (.fieldAddr 0 Q5) 18 true, og 20 (.load false 1 Q19) 18 true, og 21 (.un .not Q20) 18 true, o 22 (.pick Q18 Q21 kF), oA 23 0 5, oL 24 23, oM 25 24, og 26 (.fieldAddr 0 Q4) 25 true, og 27 (.load false 1 Q26) 25 true, og 28 (.un .not Q27) 25 true, o 29 (.pick Q25 Q28 kF), o 30 (.call 175 [Q22, Q29]), oM 6 30] .ret) .skip)) (.seq (sQ [oA 31 0 7, oL 32 31]
 (.block 0 (.seq (sQ [o 34 (.bin .eql Q32 (kI 19) tI), oM 33 34] (.cond Q33 .skip (.ops [o 35 (.bin .eql Q32 (kI 20) tI), oM 33 35]))) (.cond Q33 (sQ [oA 36 4 7, oL 37 36, o 38 (.indexAddr 7 Q37 (kI 0)), o 39 (.load true 7 Q38), o 40 (.load true 4 Q4), o 41 (.load true 4 Q5), o 42 (.call 119 [Q39, Q40, Q41]), oM 6 42] .ret) (sQ [o 44 (.bin .eql Q32 (kI 10) tI), oM 43 44] (.cond Q43
 (sQ [oA 45 1 4, oL 46 45, o 47 (.conv .u64 Q46), oA 48 1 5, oL 49 48, o 50 (.conv .u64 Q49), o 51 (.bin .lss Q47 Q50 (some (.int .u64))), oA 52 1 4, oL 53 52, o 54 (.conv .u64 Q53), oA 55 1 5, oL 56 55, o 57 (.conv .u64 Q56), o 58 (.bin .gtr Q54 Q57 (some (.int .u64))), o 59 (.call 175 [Q51, Q58]), oM 6 59] .ret) (sQ [o 61 (.bin .eql Q32 (kI 11) tI), oM 60 61] (.cond Q60
 (sQ [oA 62 1 4, oL 63 62, oA 65 1 5, oL 66 65, oA 69 1 4, oL 70 69, oA 72 1 5, oL 73 72, o 64 (.call 176 [Q63]), ⟨none, .again 73 false 1 Q72, none⟩, ⟨none, .again 70 false 1 Q69, none⟩, ⟨none, .again 66 false 1 Q65, none⟩, o 67 (.call 176 [Q66]), ⟨none, .again 73 false 1 Q72, none⟩, ⟨none, .again 70 false 1 Q69, none⟩, o 68 (.bin .lss Q64 Q67 (some (.int .u64))), o 71 (.call 176 [Q70]), ⟨none, .again 73 false 1 Q72, none⟩, o 74 (.call 176 [Q73]), o 75 (.bin .gtr Q71 Q74 (some (.int .u64))), o 76 (.call 175 [Q68, Q75]), oM 6 76]
 .ret) (.seq (sQ [o 78 (.bin .eql Q32 (kI 12) tI), oM 77 78] (.cond Q77 .skip (sQ [o 79 (.bin .eql Q32 (kI 13) tI), oM 77 79] (.cond Q77 .skip (.ops [o 80 (.bin .eql Q32 (kI 14) tI), oM 77 80]))))) (.cond Q77
 (sQ [oA 81 2 4, oL 82 81, oA 83 2 5, oL 84 83, o 85 (.bin .lss Q82 Q84 (some .string)), oA 86 2 4, oL 87 86, oA 88 2 5, oL 89 88, o 90 (.bin .gtr Q87 Q89 (some .string)), o 91 (.call 175 [Q85, Q90]), oM 6 91] .ret) (sQ [o 93 (.bin .eql Q32 (kI 18) tI), oM 92 93] (.cond Q92 (.seq (sQ [oA 94 1 4, oL 95 94, oA 96 1 5, oL 97 96, o 98 (.bin .neq Q95 Q97 tI)] (.cond Q98
 (sQ [oA 99 1 4, oL 100 99, oA 101 1 5, oL 102 101, o 103 (.bin .lss (q 100) (q 102) tI), oA 104 1 4, oL 105 104, oA 106 1 5, oL 107 106, o 108 (.bin .gtr (q 105) (q 107) tI), o 109 (.call 175 [.tmp 103, .tmp 108]), oM 6 109] .ret) .skip))
 (sQ [oA 110 4 7, oL 111 110, oA 112 1 4, oL 113 112, o 114 (.indexAddr 7 (q 111) (q 113)), o 115 (.load true 7 (q 114)), oA 116 3 4, oL 117 116, o 118 (.indexAddr 4 (q 117) (kI 0)), o 119 (.load true 4 (q 118)), oA 120 3 5, oL 121 120, o 122 (.indexAddr 4 (q 121) (kI 0)), o 123 (.load true 4 (q 122)), o 124 (.call 119 [.tmp 115, .tmp 119, .tmp 123]), oM 6 124] .ret))
 (.seq (sQ [o 126 (.bin .eql Q32 (kI 15) tI), oM 125 126] (.cond (q 125) .skip (sQ [o 127 (.bin .eql Q32 (kI 16) tI), oM 125 127] (.cond (q 125) .skip (.ops [o 128 (.bin .eql Q32 (kI 17) tI), oM 125 128]))))) (.cond (q 125) (sQ [o 129 (.load true 5 Q7), oA 130 3 4, oL 131 130, oA 132 3 5, oL 133 132, o 134 (.call 177 [.tmp 129, .tmp 131, .tmp 133]), oM 6 134] .ret) .skip))))))))))))))
 (sQ [oA 135 1 4, oL 136 135, oA 137 1 5, oL 138 137, o 139 (.bin .lss (q 136) (q 138) tI), oA 140 1 4, oL 141 140, oA 142 1 5, oL 143 142, o 144 (.bin .gtr (q 141) (q 143) tI), o 145 (.call 175 [.tmp 139, .tmp 144]), oM 6 145] .ret)))))⟩
theorem F119_ok:Bc Tryz.prog 119=some F119:=by kernel_rfl
def X120:CF 120:=by refine⟨?_,?h⟩;rotate_left;conv=>lhs;cbv
def F120:FC:=X120.1
theorem F120_ok:Bc Tryz.prog 120=some F120:=X120.2
def X121:CF 121:=by refine⟨?_,?h⟩;rotate_left;conv=>lhs;cbv
def F121:FC:=X121.1
theorem F121_ok:Bc Tryz.prog 121=some F121:=X121.2
def F122 : FC := ⟨127, [.tmp 4], (sQ [o 2 (.box Q0), o 3 (.box Q1), o 4 (.mov kF)] (sQ [oA 9 2 2, o 10 (.load true 5 Q9), o 5 (.alloc [.int .i64 0, .int .i64 0, .int .i64 0, .int .i64 0, .slice none 0 0]), oS 5 5 10] (.seq (sQ [oA 11 0 3, oL 12 11] (.cond Q12 (sQ [o 13 (.load true 7 Q2), o 14 (.call 179 [Q13]), oM 6 14]
 (sQ [oM 15 6, oM 16 15, og 17 (.fieldAddr 1 Q3) 16 true, og 18 (.load false 1 Q17) 16 true, og 19 (.bin .eql Q18 (kI 0) tI) 16 true, o 20 (.pick Q16 Q19 kF), oM 21 20, og 22 (.fieldAddr 2 Q3) 21 true, og 23 (.load false 1 Q22) 21 true, ⟨some 24, .bin .eql Q23 (.const (.string ⟨#[]⟩)) (some .string), some (21, true)⟩, o 25 (.pick Q21 Q24 kF), oM 26 25, og 27 (.fieldAddr 3 Q3) 26 true, og 28 (.load false 1 Q27) 26 true, og 29 (.len 1 Q28) 26 true, og 30 (.bin .eql Q29 (kI 0) tI) 26 true, o 31 (.pick Q26 Q30 kF), oM 4 31]
 .ret)) .skip)) (sQ [oA 32 0 5, oL 33 32, o 34 (.call 180 [Q33]), oM 7 34] (.seq (.block 0 (sQ [oM 36 7, oM 35 36] (.cond Q35
 (sQ [oA 37 0 5, oL 38 37, oA 39 1 3, oL 40 39, o 41 (.call 181 [Q38, Q40]), oM 42 41, og 43 (.fieldAddr 2 Q3) 42 true, og 44 (.load false 1 Q43) 42 true, ⟨some 45, .bin .eql Q44 (.const (.string ⟨#[]⟩)) (some .string), some (42, true)⟩, o 46 (.pick Q42 Q45 kF), oM 47 46, og 48 (.fieldAddr 3 Q3) 47 true, og 49 (.load false 1 Q48) 47 true, og 50 (.len 1 Q49) 47 true, og 51 (.bin .eql Q50 (kI 0) tI) 47 true, o 52 (.pick Q47 Q51 kF), oM 4 52]
 .ret) (sQ [oA 54 0 5, oL 55 54, o 56 (.bin .eql Q55 (kI 12) tI), oM 53 56] (.cond Q53 (sQ [oA 57 2 3, oL 58 57, o 59 (.call 161 [Q58]), oM 8 59]
 (sQ [oM 60 8, oM 61 60, og 62 (.fieldAddr 1 Q3) 61 true, og 63 (.load false 1 Q62) 61 true, og 64 (.bin .eql Q63 (kI 0) tI) 61 true, o 65 (.pick Q61 Q64 kF), oM 66 65, og 67 (.fieldAddr 3 Q3) 66 true, og 68 (.load false 1 Q67) 66 true, og 69 (.len 1 Q68) 66 true, og 70 (.bin .eql Q69 (kI 0) tI) 66 true, o 71 (.pick Q66 Q70 kF), oM 4 71] .ret))
 (sQ [oA 73 0 5, oL 74 73, o 75 (.bin .eql Q74 (kI 13) tI), oM 72 75] (.cond Q72 (sQ [oA 76 1 3, oL 77 76, o 78 (.bin .eql Q77 (kI 0) tI), oM 79 78, og 80 (.fieldAddr 3 Q3) 79 true, og 81 (.load false 1 Q80) 79 true, og 82 (.len 1 Q81) 79 true, og 83 (.bin .eql Q82 (kI 0) tI) 79 true, o 84 (.pick Q79 Q83 kF), oM 4 84] .ret) (sQ [oA 86 0 5, oL 87 86, o 88 (.bin .eql Q87 (kI 14) tI), oM 85 88]
 (.cond Q85
 (sQ [oA 89 1 3, oL 90 89, o 91 (.bin .eql Q90 (kI 0) tI), oM 92 91, og 93 (.fieldAddr 3 Q3) 92 true, og 94 (.load false 1 Q93) 92 true, og 95 (.len 1 Q94) 92 true, og 96 (.bin .eql Q95 (kI 0) tI) 92 true, o 97 (.pick Q92 Q96 kF), oM 98 97, og 99 (.fieldAddr 2 Q3) 98 true, og 100 (.load false 1 Q99) 98 true, og 101 (.len 0 (q 100)) 98 true, og 102 (.fieldAddr 1 Q5) 98 true, og 103 (.load false 1 (q 102)) 98 true, og 104 (.bin .eql (q 101) (q 103) tI) 98 true, o 105 (.pick Q98 (q 104) kF), oM 4 105]
 .ret) (.seq (sQ [oA 107 0 5, oL 108 107, o 109 (.bin .eql (q 108) (kI 19) tI), oM 106 109] (.cond (q 106) .skip (.ops [oA 110 0 5, oL 111 110, o 112 (.bin .eql (q 111) (kI 20) tI), oM 106 112]))) (.cond (q 106) (sQ [oA 113 4 5, oL 114 113, o 115 (.indexAddr 7 (q 114) (kI 0)), o 116 (.load true 7 (q 115)), o 117 (.load true 4 Q3), o 118 (.call 122 [.tmp 116, .tmp 117]), oM 4 118] .ret)
 .skip))))))))))) (sQ [oA 119 2 3, oL 120 119, o 121 (.bin .eql (q 120) (.const (.string ⟨#[]⟩)) (some .string)), oM 122 121, og 123 (.load true 5 Q5) 122 true, og 124 (.load true 4 Q3) 122 true, og 125 (.call 182 [.tmp 123, .tmp 124]) 122 true, o 126 (.pick (q 122) (q 125) kF), oM 4 126] .ret))))))⟩
theorem F122_ok:Bc Tryz.prog 122=some F122:=by kernel_rfl
def F123 : FC := ⟨260, [.tmp 4], (sQ [o 3 (.box Q1), o 4 (.mov (kI 0))] (.seq (sQ [oM 10 0, o 11 (.nilCheck Q10), oA 12 7 11, oL 13 12, o 14 (.bin .geq Q13 (kI 4096) tI)] (.cond Q14 (sQ [o 4 (.mov (kI 3))] .ret) .skip)) (sQ [oM 15 0, o 16 (.nilCheck Q15), oA 17 7 16, oL 18 17, o 19 (.bin .add Q18 (kI 1) tI), o 20 (.nilCheck Q15), oA 21 7 20, oS 1 21 19]
 (sQ [oM 22 0, o 23 (.nilCheck Q22), oA 24 9 23, oL 25 24, o 26 (.load true 4 Q3), o 27 (.call 121 [Q26, (kI 4194304)]), ⟨none, .again 25 false 1 Q24, none⟩, o 28 (.bin .add Q25 Q27 tI), o 29 (.nilCheck Q22), oA 30 9 29, oS 1 30 28]
 (sQ [oM 31 0, o 32 (.nilCheck Q31), oA 33 0 32, oA 34 2 33, o 35 (.load true 5 Q34), o 5 (.alloc [.int .i64 0, .int .i64 0, .int .i64 0, .int .i64 0, .slice none 0 0]), oS 5 5 35] (.seq (sQ [oA 36 0 5, oL 37 36, o 38 (.bin .eql Q37 (kI 20) tI)] (.cond Q38 (sQ [oM 39 0, o 40 (.load true 4 Q3), o 41 (.call 183 [Q39, Q40]), oM 4 41] .ret) .skip)) (.seq (sQ [oA 42 0 3, oL 43 42] (.cond Q43
 (sQ [oM 44 0, o 45 (.nilCheck Q44), oA 46 8 45, oL 47 46, o 48 (.bin .add Q47 (kI 1) tI), o 49 (.nilCheck Q44), oA 50 8 49, oS 1 50 48] (sQ [oM 51 0, o 52 (.call 184 [Q51]), oM 4 52] .ret)) .skip))
 (sQ [oM 53 0, oM 54 0, o 55 (.nilCheck Q54), oA 56 10 55, oL 57 56, o 58 (.buildSlice 1 1 [.int .u8 0] [(0, 1, (.const (.int .u8 1)))]), o 59 (.append 1 1 Q57 Q58), o 60 (.nilCheck Q53), oA 61 10 60, oS 1 61 59] (.seq (sQ [oA 62 0 5, oL 63 62] (.block 0 (.seq (sQ [o 78 (.bin .eql Q63 (kI 12) tI), oM 77 78] (.cond Q77 .skip (.ops [o 79 (.bin .eql Q63 (kI 13) tI), oM 77 79]))) (.cond Q77
 (.seq (sQ [oM 80 0, o 81 (.nilCheck Q80), oA 82 14 81, oL 83 82, o 84 (.len 1 Q83), oA 85 2 3, oL 86 85, o 87 (.len 0 Q86), o 88 (.bin .add Q84 Q87 tI), o 89 (.bin .gtr Q88 (kI 65536) tI)] (.cond Q89 (sQ [o 4 (.mov (kI 4))] .ret) .skip))
 (sQ [oM 90 0, oM 91 0, o 92 (.nilCheck Q91), oA 93 14 92, oL 94 93, oA 95 2 3, oL 96 95, o 97 (.append 1 1 Q94 Q96), o 98 (.nilCheck Q90), oA 99 14 98, oS 1 99 97]
 (.ops [oM 100 0, oM 101 0, o 102 (.nilCheck (q 101)), oA 103 13 102, oL 104 103, oM 105 0, o 106 (.nilCheck (q 105)), oA 107 14 106, oL 108 107, o 109 (.len 1 (q 108)), o 110 (.buildSlice 1 1 [.int .i64 0] [(0, 1, (q 109))]), ⟨none, .again 104 false 1 (q 103), none⟩, o 111 (.append 1 8 (q 104) (q 110)), o 112 (.nilCheck (q 100)), oA 113 13 112, oS 1 113 111])))
 (sQ [o 115 (.bin .eql Q63 (kI 14) tI), oM 114 115] (.cond (q 114) (.ops [oM 116 0, oM 117 0, o 118 (.nilCheck (q 117)), oA 119 12 118, oL 120 119, oA 121 2 3, oL 122 121, o 123 (.append 1 1 (q 120) (q 122)), o 124 (.nilCheck (q 116)), oA 125 12 124, oS 1 125 123]) (.seq (sQ [o 127 (.bin .eql Q63 (kI 15) tI), oM 126 127] (.cond (q 126) .skip (.ops [o 128 (.bin .eql Q63 (kI 16) tI), oM 126 128])))
 (.cond (q 126) (.seq (sQ [o 6 (.mov (kI 0))] (.block 1 (.loop (.seq (sQ [oM 129 6, oA 130 3 3, oL 131 130, o 132 (.len 1 (q 131)), o 133 (.bin .lss (q 129) (q 132) tI)] (.cond (q 133) .skip (.exit 1)))
 (.seq (.block 2 (sQ [oM 136 0, o 137 (.nilCheck (q 136)), oA 138 18 137, oL 139 138, o 140 (.indexAddr 1 (q 139) (kI 0)), oL 141 140, oA 142 3 3, oL 143 142, oM 144 6, o 145 (.indexAddr 4 (q 143) (q 144)), o 146 (.load true 4 (q 145)), o 147 (.call 72 [.tmp 141, .tmp 146]), oM 7 147] (sQ [oM 148 7, o 149 (.bin .neq (q 148) (kI 0) tI)] (.cond (q 149) (sQ [oM 150 7, oM 4 150] .ret) .skip))))
 (.ops [oM 134 6, o 135 (.bin .add (q 134) (kI 1) tI), oM 6 135]))))))
 (.ops [oM 151 0, oM 152 0, o 153 (.nilCheck (q 152)), oA 154 13 153, oL 155 154, oM 156 0, o 157 (.nilCheck (q 156)), oA 158 18 157, oL 159 158, o 160 (.indexAddr 1 (q 159) (kI 0)), oL 161 160, o 162 (.nilCheck (q 161)), oA 163 7 162, oL 164 163, o 165 (.buildSlice 1 1 [.int .i64 0] [(0, 1, (q 164))]), ⟨none, .again 155 false 1 (q 154), none⟩, o 166 (.append 1 8 (q 155) (q 165)), o 167 (.nilCheck (q 151)), oA 168 13 167, oS 1 168 166]))
 (sQ [o 170 (.bin .eql Q63 (kI 17) tI), oM 169 170] (.cond (q 169) (sQ [o 8 (.mov (kI 0))] (.block 3 (.loop (.seq (sQ [oM 171 8, oA 172 3 3, oL 173 172, o 174 (.len 1 (q 173)), o 175 (.bin .lss (q 171) (q 174) tI)] (.cond (q 175) .skip (.exit 3)))
 (.seq (.block 4 (sQ [oM 178 0, o 179 (.nilCheck (q 178)), oA 180 18 179, oL 181 180, oM 182 8, o 183 (.indexAddr 1 (q 181) (q 182)), oL 184 183, oA 185 3 3, oL 186 185, oM 187 8, o 188 (.indexAddr 4 (q 186) (q 187)), o 189 (.load true 4 (q 188)), o 190 (.call 72 [.tmp 184, .tmp 189]), oM 9 190] (sQ [oM 191 9, o 192 (.bin .neq (q 191) (kI 0) tI)] (.cond (q 192) (sQ [oM 193 9, oM 4 193] .ret)
 .skip)))) (.ops [oM 176 8, o 177 (.bin .add (q 176) (kI 1) tI), oM 8 177])))))) (sQ [o 195 (.bin .eql Q63 (kI 18) tI), oM 194 195] (.cond (q 194)
 (sQ [oM 196 0, oM 197 0, o 198 (.nilCheck (q 197)), oA 199 11 198, oL 200 199, oA 201 1 3, oL 202 201, o 203 (.conv .u8 (q 202)), o 204 (.buildSlice 1 1 [.int .u8 0] [(0, 1, (q 203))]), ⟨none, .again 200 false 1 (q 199), none⟩, o 205 (.append 1 1 (q 200) (q 204)), o 206 (.nilCheck (q 196)), oA 207 11 206, oS 1 207 205]
 (sQ [oM 208 0, oM 209 0, o 210 (.nilCheck (q 209)), oA 211 13 210, oL 212 211, oM 213 0, o 214 (.nilCheck (q 213)), oA 215 18 214, oL 216 215, oA 217 1 3, oL 218 217, o 219 (.indexAddr 1 (q 216) (q 218)), oL 220 219, o 221 (.nilCheck (q 220)), oA 222 7 221, oL 223 222, o 224 (.buildSlice 1 1 [.int .i64 0] [(0, 1, (q 223))]), ⟨none, .again 212 false 1 (q 211), none⟩, o 225 (.append 1 8 (q 212) (q 224)), o 226 (.nilCheck (q 208)), oA 227 13 226, oS 1 227 225]
 (sQ [oM 228 0, o 229 (.nilCheck (q 228)), oA 230 18 229, oL 231 230, oA 232 1 3, oL 233 232, o 234 (.indexAddr 1 (q 231) (q 233)), oL 235 234, oA 236 3 3, oL 237 236, o 238 (.indexAddr 4 (q 237) (kI 0)), o 239 (.load true 4 (q 238)), o 240 (.call 72 [.tmp 235, .tmp 239]), oM 4 240] .ret))) (sQ [o 242 (.bin .eql Q63 (kI 19) tI), oM 241 242] (.cond (q 241)
 (sQ [oM 243 0, o 244 (.load true 4 Q3), o 245 (.call 185 [.tmp 243, .tmp 244]), oM 4 245] .ret) (sQ [o 247 (.bin .eql Q63 (kI 2) tI), oM 246 247] (.cond (q 246)
 (.ops [oM 248 0, oM 249 0, o 250 (.nilCheck (q 249)), oA 251 12 250, oL 252 251, oA 253 1 3, oL 254 253, o 255 (.conv .u8 (q 254)), o 256 (.buildSlice 1 1 [.int .u8 0] [(0, 1, (q 255))]), ⟨none, .again 252 false 1 (q 251), none⟩, o 257 (.append 1 1 (q 252) (q 256)), o 258 (.nilCheck (q 248)), oA 259 12 258, oS 1 259 257])
 (.ops [oM 64 0, oM 65 0, o 66 (.nilCheck Q65), oA 67 12 66, oL 68 67, oA 69 1 3, oL 70 69, oA 71 0 5, oL 72 71, o 73 (.call 75 [Q72]), ⟨none, .again 70 false 1 Q69, none⟩, ⟨none, .again 68 false 1 Q67, none⟩, o 74 (.call 124 [Q68, Q70, Q73]), o 75 (.nilCheck Q64), oA 76 12 75, oS 1 76 74]))))))))))))))))) (sQ [o 4 (.mov (kI 0))] .ret))))))))))⟩
theorem F123_ok:Bc Tryz.prog 123=some F123:=by kernel_rfl
def X124:CF 124:=by refine⟨?_,?h⟩;rotate_left;conv=>lhs;cbv
def F124:FC:=X124.1
theorem F124_ok:Bc Tryz.prog 124=some F124:=X124.2
def X125:CF 125:=by refine⟨?_,?h⟩;rotate_left;conv=>lhs;cbv
def F125:FC:=X125.1
theorem F125_ok:Bc Tryz.prog 125=some F125:=X125.2
def F129 : FC := ⟨27, [.tmp 6], (sQ [o 6 (.mov (.const (.pointer none)))]
 (sQ [oM 7 0, oM 8 1, o 9 (.nilCheck Q8), oA 10 0 9, oL 11 10, oM 12 2, o 13 (.nilCheck Q12), oA 14 0 13, oL 15 14, o 16 (.bin .neq Q11 Q15 (some .bool)), oM 17 1, o 18 (.nilCheck Q17), oA 19 1 18, oL 20 19, oM 21 2, o 22 (.nilCheck Q21), oA 23 1 22, oL 24 23, o 25 (.call 190 [Q20, Q24]), ⟨none, .again 15 false 1 Q14, none⟩, ⟨none, .again 11 false 1 Q10, none⟩, o 26 (.call 188 [Q7, Q16, Q25]), oM 6 26]
 .ret))⟩
theorem F129_ok:Bc Tryz.prog 129=some F129:=by kernel_rfl
def X132:CF 132:=by refine⟨?_,?h⟩;rotate_left;conv=>lhs;cbv
def F132:FC:=X132.1
theorem F132_ok:Bc Tryz.prog 132=some F132:=X132.2
def X135:CF 135:=by refine⟨?_,?h⟩;rotate_left;conv=>lhs;cbv
def F135:FC:=X135.1
theorem F135_ok:Bc Tryz.prog 135=some F135:=X135.2
def X136:CF 136:=by refine⟨?_,?h⟩;rotate_left;conv=>lhs;cbv
def F136:FC:=X136.1
theorem F136_ok:Bc Tryz.prog 136=some F136:=X136.2
def X137:CF 137:=by refine⟨?_,?h⟩;rotate_left;conv=>lhs;cbv
def F137:FC:=X137.1
theorem F137_ok:Bc Tryz.prog 137=some F137:=X137.2
def X138:CF 138:=by refine⟨?_,?h⟩;rotate_left;conv=>lhs;cbv
def F138:FC:=X138.1
theorem F138_ok:Bc Tryz.prog 138=some F138:=X138.2
def F139 : FC := ⟨145, [.tmp 6], (sQ [o 3 (.box Q0), o 4 (.box Q1), o 5 (.box Q2), o 6 (.mov (kI 0))] (.seq (sQ [oA 11 0 4, oL 12 11, oM 13 12, og 14 (.fieldAddr 0 Q5) 13 false, og 15 (.load false 1 Q14) 13 false, o 16 (.pick Q13 kT Q15)] (.cond Q16
 (.seq (.block 0 (sQ [oA 18 0 4, oL 19 18, oM 20 19, og 21 (.fieldAddr 0 Q5) 20 true, og 22 (.load false 1 Q21) 20 true, o 23 (.pick Q20 Q22 kF), oM 17 23] (.cond Q17 (sQ [o 6 (.mov (kI 0))] .ret) (sQ [oA 25 0 4, oL 26 25, oM 24 26] (.cond Q24 (sQ [o 6 (.mov (kI (-1)))] .ret) .skip))))) (sQ [o 6 (.mov (kI 1))] .ret)) .skip))
 (sQ [oA 27 2 3, o 28 (.load true 5 Q27), o 7 (.alloc [.int .i64 0, .int .i64 0, .int .i64 0, .int .i64 0, .slice none 0 0]), oS 5 7 28] (.seq (sQ [oA 29 0 7, oL 30 29] (.block 1 (.seq (sQ [o 32 (.bin .eql Q30 (kI 19) tI), oM 31 32] (.cond Q31 .skip (.ops [o 33 (.bin .eql Q30 (kI 20) tI), oM 31 33]))) (.cond Q31
 (sQ [oA 34 4 7, oL 35 34, o 36 (.indexAddr 7 Q35 (kI 0)), o 37 (.load true 7 Q36), o 38 (.load true 4 Q4), o 39 (.load true 4 Q5), o 40 (.call 139 [Q37, Q38, Q39]), oM 6 40] .ret) (sQ [o 42 (.bin .eql Q30 (kI 10) tI), oM 41 42] (.cond Q41 (sQ [oA 43 1 4, oL 44 43, o 45 (.conv .u64 Q44), oA 46 1 5, oL 47 46, o 48 (.conv .u64 Q47), o 49 (.call 203 [Q45, Q48]), oM 6 49] .ret)
 (sQ [o 51 (.bin .eql Q30 (kI 11) tI), oM 50 51] (.cond Q50 (sQ [oA 52 1 4, oL 53 52, oA 55 1 5, oL 56 55, o 54 (.call 204 [Q53]), ⟨none, .again 56 false 1 Q55, none⟩, o 57 (.call 204 [Q56]), o 58 (.call 203 [Q54, Q57]), oM 6 58] .ret) (.seq (sQ [o 60 (.bin .eql Q30 (kI 12) tI), oM 59 60] (.cond Q59 .skip (sQ [o 61 (.bin .eql Q30 (kI 13) tI), oM 59 61] (.cond Q59 .skip
 (.ops [o 62 (.bin .eql Q30 (kI 14) tI), oM 59 62]))))) (.cond Q59 (sQ [oA 63 2 4, oL 64 63, oA 65 2 5, oL 66 65, o 67 (.call 205 [Q64, Q66]), oM 6 67] .ret) (sQ [o 69 (.bin .eql Q30 (kI 18) tI), oM 68 69] (.cond Q68 (.seq (sQ [oA 70 1 4, oL 71 70, oA 72 1 5, oL 73 72, o 74 (.bin .neq Q71 Q73 tI)] (.cond Q74 (sQ [oA 75 1 4, oL 76 75, oA 77 1 5, oL 78 77, o 79 (.call 206 [Q76, Q78]), oM 6 79] .ret)
 .skip)) (sQ [oA 80 4 7, oL 81 80, oA 82 1 4, oL 83 82, o 84 (.indexAddr 7 Q81 Q83), o 85 (.load true 7 Q84), oA 86 3 4, oL 87 86, o 88 (.indexAddr 4 Q87 (kI 0)), o 89 (.load true 4 Q88), oA 90 3 5, oL 91 90, o 92 (.indexAddr 4 Q91 (kI 0)), o 93 (.load true 4 Q92), o 94 (.call 139 [Q85, Q89, Q93]), oM 6 94] .ret)) (.seq (sQ [o 96 (.bin .eql Q30 (kI 15) tI), oM 95 96] (.cond Q95 .skip
 (sQ [o 97 (.bin .eql Q30 (kI 16) tI), oM 95 97] (.cond Q95 .skip (.ops [o 98 (.bin .eql Q30 (kI 17) tI), oM 95 98]))))) (.cond Q95 (.seq (sQ [oA 99 3 4, oL 100 99, o 101 (.len 1 (q 100)), oA 102 3 5, oL 103 102, o 104 (.len 1 (q 103)), o 105 (.minmax false (q 101) [.tmp 104]), o 106 (.mov (kI 0))] (.block 2 (.loop (sQ [o 107 (.bin .lss (q 106) (q 105) tI)] (.seq (.cond (q 107) .skip (.exit 2))
 (.seq (.block 3 (sQ [oM 108 106, oM 8 108] (sQ [o 9 (.mov (kI 0))] (.seq (sQ [oA 109 0 7, oL 110 109, o 111 (.bin .eql (q 110) (kI 17) tI)] (.cond (q 111) (.ops [oM 112 8, oM 9 112]) .skip))
 (sQ [oA 113 4 7, oL 114 113, oM 115 9, o 116 (.indexAddr 7 (q 114) (q 115)), o 117 (.load true 7 (q 116)), oA 118 3 4, oL 119 118, oM 120 8, o 121 (.indexAddr 4 (q 119) (q 120)), o 122 (.load true 4 (q 121)), oA 123 3 5, oL 124 123, oM 125 8, o 126 (.indexAddr 4 (q 124) (q 125)), o 127 (.load true 4 (q 126)), o 128 (.call 139 [.tmp 117, .tmp 122, .tmp 127]), oM 10 128]
 (sQ [oM 129 10, o 130 (.bin .neq (q 129) (kI 0) tI)] (.cond (q 130) (sQ [oM 131 10, oM 6 131] .ret) .skip))))))) (.ops [o 132 (.bin .add (q 106) (kI 1) tI), oM 106 132]))))))) (sQ [oA 133 3 4, oL 134 133, o 135 (.len 1 (q 134)), oA 136 3 5, oL 137 136, o 138 (.len 1 (q 137)), o 139 (.call 207 [.tmp 135, .tmp 138]), oM 6 139] .ret)) .skip))))))))))))))
 (sQ [oA 140 1 4, oL 141 140, oA 142 1 5, oL 143 142, o 144 (.call 206 [.tmp 141, .tmp 143]), oM 6 144] .ret)))))⟩
theorem F139_ok:Bc Tryz.prog 139=some F139:=by kernel_rfl
def X142:CF 142:=by refine⟨?_,?h⟩;rotate_left;conv=>lhs;cbv
def F142:FC:=X142.1
theorem F142_ok:Bc Tryz.prog 142=some F142:=X142.2
def X143:CF 143:=by refine⟨?_,?h⟩;rotate_left;conv=>lhs;cbv
def F143:FC:=X143.1
theorem F143_ok:Bc Tryz.prog 143=some F143:=X143.2
def X144:CF 144:=by refine⟨?_,?h⟩;rotate_left;conv=>lhs;cbv
def F144:FC:=X144.1
theorem F144_ok:Bc Tryz.prog 144=some F144:=X144.2
def F145 : FC := ⟨92, [.cell 4 true 3, .tmp 5], (sQ [o 2 (.box Q0), o 3 (.box Q1), o 4 (.alloc [.int .i64 0, .slice none 0 0, .int .i64 0]), o 5 (.mov (.const (.slice none 0 0)))] (.seq (sQ [o 18 (.load true 7 Q2), o 19 (.load true 6 Q3), o 20 (.call 217 [Q18, Q19]), o 6 (.alloc [.int .i64 0, .slice none 0 0, .int .i64 0]), oS 3 6 20] (sQ [oA 21 0 6, oL 22 21, o 23 (.bin .neq Q22 (kI 0) tI)]
 (.cond Q23 (sQ [o 24 (.load true 3 Q6), oS 3 4 24, o 5 (.mov (.const (.slice none 0 0)))] .ret) .skip))) (.seq (sQ [o 25 (.load true 7 Q2), o 26 (.load true 6 Q3), o 27 (.call 218 [Q25, Q26]), o 7 (.alloc [.int .i64 0, .slice none 0 0, .int .i64 0]), oS 3 7 27] (sQ [oA 28 0 7, oL 29 28, o 30 (.bin .neq Q29 (kI 0) tI)] (.cond Q30
 (sQ [o 31 (.load true 3 Q7), oS 3 4 31, o 5 (.mov (.const (.slice none 0 0)))] .ret) .skip))) (sQ [o 8 (.mov (.const (.slice none 0 0)))] (.seq (sQ [o 32 (.load true 6 Q3), o 33 (.call 219 [Q32]), o 34 (.len 1 Q33), o 35 (.mov (kI 0))] (.block 0 (.loop (sQ [o 36 (.bin .lss Q35 Q34 tI)] (.seq (.cond Q36 .skip (.exit 0))
 (.seq (.block 1 (sQ [oM 37 35, o 38 (.indexAddr 6 Q33 Q35), o 39 (.load true 6 Q38), o 10 (.alloc [.int .i64 0, .int .i64 0, .int .i64 0, .slice none 0 0, .slice none 0 0, .slice none 0 0]), oM 9 37, oS 6 10 39]
 (sQ [o 41 (.load true 7 Q2), oM 42 9, o 44 (.load true 6 Q10), o 43 (.call 220 [Q41, Q42]), ⟨none, .again 44 true 6 Q10, none⟩, o 45 (.call 145 [Q43, Q44]), oM 40 45, o 46 (.extract Q40 0), o 47 (.extract Q40 1), o 11 (.alloc [.int .i64 0, .slice none 0 0, .int .i64 0]), oS 3 11 46, oM 12 47] (.seq (sQ [oA 48 0 11, oL 49 48, o 50 (.bin .neq Q49 (kI 0) tI)] (.cond Q50
 (sQ [oM 51 9, o 52 (.buildSlice 1 1 [.int .i64 0] [(0, 1, Q51)]), oA 53 1 11, oL 54 53, o 55 (.append 1 8 Q52 Q54), oA 56 1 11, oS 1 56 55] (sQ [o 57 (.load true 3 Q11), oS 3 4 57, o 5 (.mov (.const (.slice none 0 0)))] .ret)) .skip)) (.ops [oM 58 8, oM 59 12, o 60 (.buildSlice 1 1 [.slice none 0 0] [(0, 1, Q59)]), o 61 (.append 1 24 Q58 Q60), oM 8 61])))))
 (.ops [o 62 (.bin .add Q35 (kI 1) tI), oM 35 62]))))))) (.seq (sQ [oA 63 2 2, oA 64 0 63, oL 65 64, o 66 (.bin .eql Q65 (kI 20) tI)] (.cond Q66 (sQ [o 67 (.load true 6 Q3), o 68 (.call 221 [Q67]), o 13 (.alloc [.int .i64 0, .slice none 0 0, .int .i64 0]), oS 3 13 68] (sQ [oA 69 0 13, oL 70 69, o 71 (.bin .neq Q70 (kI 0) tI)] (.cond Q71
 (sQ [o 72 (.load true 3 Q13), oS 3 4 72, o 5 (.mov (.const (.slice none 0 0)))] .ret) .skip))) .skip)) (sQ [o 73 (.load true 7 Q2), o 74 (.load true 6 Q3), oM 75 8, o 76 (.call 222 [Q73, Q74, Q75]), oM 14 76] (sQ [o 15 (.mov (kI 0))] (.seq (sQ [oM 77 14, o 78 (.len 1 Q77), o 79 (.mov (kI 0))] (.block 2 (.loop (sQ [o 80 (.bin .lss Q79 Q78 tI)] (.seq (.cond Q80 .skip (.exit 2))
 (.seq (.block 3 (sQ [o 81 (.indexAddr 1 Q77 Q79), oL 82 81, oM 17 82] (.ops [oM 83 15, oM 84 17, o 85 (.bin .add Q83 Q84 tI), oM 15 85]))) (.ops [o 86 (.bin .add Q79 (kI 1) tI), oM 79 86]))))))) (.seq (sQ [oM 87 15, o 88 (.bin .gtr Q87 (kI 4194304) tI)] (.cond Q88 (sQ [o 89 (.call 144 [(kI 3), (kI 1)]), oS 3 4 89, o 5 (.mov (.const (.slice none 0 0)))] .ret) .skip))
 (sQ [o 90 (.build [.int .i64 0, .slice none 0 0, .int .i64 0] []), oM 91 14, oS 3 4 90, oM 5 91] .ret)))))))))))⟩
theorem F145_ok:Bc Tryz.prog 145=some F145:=by kernel_rfl
def X146:CF 146:=by refine⟨?_,?h⟩;rotate_left;conv=>lhs;cbv
def F146:FC:=X146.1
theorem F146_ok:Bc Tryz.prog 146=some F146:=X146.2
def X147:CF 147:=by refine⟨?_,?h⟩;rotate_left;conv=>lhs;cbv
def F147:FC:=X147.1
theorem F147_ok:Bc Tryz.prog 147=some F147:=X147.2
def X148:CF 148:=by refine⟨?_,?h⟩;rotate_left;conv=>lhs;cbv
def F148:FC:=X148.1
theorem F148_ok:Bc Tryz.prog 148=some F148:=X148.2
def X149:CF 149:=by refine⟨?_,?h⟩;rotate_left;conv=>lhs;cbv
def F149:FC:=X149.1
theorem F149_ok:Bc Tryz.prog 149=some F149:=X149.2
def X150:CF 150:=by refine⟨?_,?h⟩;rotate_left;conv=>lhs;cbv
def F150:FC:=X150.1
theorem F150_ok:Bc Tryz.prog 150=some F150:=X150.2
def X152:CF 152:=by refine⟨?_,?h⟩;rotate_left;conv=>lhs;cbv
def F152:FC:=X152.1
theorem F152_ok:Bc Tryz.prog 152=some F152:=X152.2
def F154 : FC := ⟨63, [.tmp 8], (sQ [o 8 (.mov (.const (.slice none 0 0)))] (.seq (sQ [oM 12 0, o 13 (.len 1 Q12), o 14 (.mov (kI 0))] (.block 0 (.loop (sQ [o 15 (.bin .lss Q14 Q13 tI)] (.seq (.cond Q15 .skip (.exit 0)) (.seq (.block 1 (sQ [oM 16 14, o 17 (.indexAddr 7 Q12 Q14), o 18 (.load true 7 Q17), o 10 (.alloc zaZ), oM 9 16, oS 7 10 18]
 (.seq (sQ [oM 19 3, o 20 (.len 1 Q19), o 21 (.bin .gtr Q20 (kI 256) tI)] (.cond Q21 (sQ [oM 22 3, oM 8 22] .ret) .skip)) (sQ [oM 23 1, o 24 (.len 1 Q23), o 25 (.bin .add Q24 (kI 1) tI), o 26 (.mkSlice 1 8 [.int .i64 0] Q25 Q25), oM 11 26] (sQ [oM 27 11, oM 28 1, o 29 (.copy 1 Q27 Q28)] (sQ [oM 30 11, oM 31 1, o 32 (.len 1 Q31), oM 33 9, o 34 (.indexAddr 1 Q30 Q32), oS 1 34 33]
 (sQ [oM 35 3, oM 36 11, o 37 (.load true 7 Q10), oM 38 0, oM 39 9, o 40 (.slice 7 Q38 none (some Q39) none), oM 41 2, o 42 (.build ziZ [(0, 1, Q36), (1, 7, Q37), (8, 1, Q40), (9, 1, Q41)]), o 43 (.buildSlice 10 1 ziZ [(0, 10, Q42)]), o 44 (.append 10 136 Q35 Q43), oM 3 44] (sQ [oM 45 11, o 46 (.len 1 Q45), o 47 (.bin .leq Q46 (kI 64) tI)] (.cond Q47
 (.ops [oA 48 2 10, oA 49 4 48, oL 50 49, oM 51 11, oM 52 2, oM 53 52, og 54 (.fieldAddr 2 Q10) 53 false, og 55 (.fieldAddr 0 Q54) 53 false, og 56 (.load false 1 Q55) 53 false, og 57 (.bin .eql Q56 (kI 19) tI) 53 false, o 58 (.pick Q53 kT Q57), oM 59 3, o 60 (.call 154 [Q50, Q51, Q58, Q59]), oM 3 60]) .skip))))))))) (.ops [o 61 (.bin .add Q14 (kI 1) tI), oM 14 61]))))))) (sQ [oM 62 3, oM 8 62]
 .ret)))⟩
theorem F154_ok:Bc Tryz.prog 154=some F154:=by kernel_rfl
def F155 : FC := ⟨53, [.tmp 4], (sQ [o 2 (.box Q0), o 3 (.box Q1), o 4 (.mov kF)] (sQ [oA 7 2 2, o 8 (.load true 5 Q7), oA 9 2 3, o 10 (.load true 5 Q9), o 5 (.alloc [.int .i64 0, .int .i64 0, .int .i64 0, .int .i64 0, .slice none 0 0]), oS 5 5 8, ⟨none, .again 10 true 5 Q9, none⟩, o 6 (.alloc [.int .i64 0, .int .i64 0, .int .i64 0, .int .i64 0, .slice none 0 0]), oS 5 6 10]
 (sQ [oA 11 1 2, oL 12 11, oA 13 1 3, oL 14 13, o 15 (.bin .eql Q12 Q14 (some .bool)), oM 16 15, og 17 (.fieldAddr 0 Q5) 16 true, og 18 (.load false 1 Q17) 16 true, og 19 (.fieldAddr 0 Q6) 16 true, og 20 (.load false 1 Q19) 16 true, og 21 (.bin .eql Q18 Q20 tI) 16 true, o 22 (.pick Q16 Q21 kF), oM 23 22, og 24 (.fieldAddr 1 Q5) 23 true, og 25 (.load false 1 Q24) 23 true, og 26 (.fieldAddr 1 Q6) 23 true, og 27 (.load false 1 Q26) 23 true, og 28 (.bin .eql Q25 Q27 tI) 23 true, o 29 (.pick Q23 Q28 kF), oM 30 29, og 31 (.fieldAddr 2 Q5) 30 true, og 32 (.load false 1 Q31) 30 true, og 33 (.fieldAddr 2 Q6) 30 true, og 34 (.load false 1 Q33) 30 true, og 35 (.bin .eql Q32 Q34 tI) 30 true, o 36 (.pick Q30 Q35 kF), oM 37 36, og 38 (.fieldAddr 3 Q5) 37 true, og 39 (.load false 1 Q38) 37 true, og 40 (.fieldAddr 3 Q6) 37 true, og 41 (.load false 1 Q40) 37 true, og 42 (.bin .eql Q39 Q41 tI) 37 true, o 43 (.pick Q37 Q42 kF), oM 44 43, og 45 (.fieldAddr 4 Q5) 44 true, og 46 (.load false 1 Q45) 44 true, og 47 (.len 1 Q46) 44 true, og 48 (.fieldAddr 4 Q6) 44 true, og 49 (.load false 1 Q48) 44 true, og 50 (.len 1 Q49) 44 true, og 51 (.bin .eql Q47 Q50 tI) 44 true, o 52 (.pick Q44 Q51 kF), oM 4 52]
 .ret)))⟩
theorem F155_ok:Bc Tryz.prog 155=some F155:=by kernel_rfl
def F156 : FC := ⟨32, [.tmp 2, .tmp 3, .tmp 4], (sQ [o 1 (.box Q0), o 2 (.mov (kI 0)), o 3 (.mov (kI 0)), o 4 (.mov (kI 0))] (.seq (sQ [o 5 (.load true 5 Q1), o 6 (.call 101 [Q5]), o 7 (.un .not Q6)] (.cond Q7 (sQ [o 2 (.mov (kI (-1))), o 3 (.mov (kI (-1))), o 4 (.mov (kI (-1)))] .ret) .skip)) (.seq (sQ [oA 8 0 1, oL 9 8] (.block 0 (sQ [o 11 (.bin .eql Q9 (kI 1) tI), oM 10 11] (.cond Q10
 (sQ [o 2 (.mov (kI 0)), o 3 (.mov (kI 0)), o 4 (.mov (kI 0))] .ret) (.seq (sQ [o 13 (.bin .eql Q9 (kI 12) tI), oM 12 13] (.cond Q12 .skip (.ops [o 14 (.bin .eql Q9 (kI 13) tI), oM 12 14]))) (.cond Q12 (sQ [o 2 (.mov (kI 3)), o 3 (.mov (kI 0)), o 4 (.mov (kI 0))] .ret) (sQ [o 16 (.bin .eql Q9 (kI 15) tI), oM 15 16] (.cond Q15 (sQ [o 2 (.mov (kI 2)), o 3 (.mov (kI 1)), o 4 (.mov (kI 0))] .ret)
 (.seq (sQ [o 18 (.bin .eql Q9 (kI 16) tI), oM 17 18] (.cond Q17 .skip (.ops [o 19 (.bin .eql Q9 (kI 17) tI), oM 17 19]))) (.cond Q17 (sQ [oA 20 4 1, oL 21 20, o 22 (.len 1 Q21), o 2 (.mov (kI 1)), oM 3 22, o 4 (.mov (kI 0))] .ret) (sQ [o 24 (.bin .eql Q9 (kI 18) tI), oM 23 24] (.cond Q23 (sQ [oA 25 4 1, oL 26 25, o 27 (.len 1 Q26), o 2 (.mov (kI 2)), oM 3 27, o 4 (.mov (kI 0))] .ret)
 (sQ [o 29 (.bin .eql Q9 (kI 19) tI), oM 28 29] (.cond Q28 (sQ [o 2 (.mov (kI 2)), o 3 (.mov (kI 0)), o 4 (.mov (kI 1))] .ret) (sQ [o 31 (.bin .eql Q9 (kI 20) tI), oM 30 31] (.cond Q30 (sQ [o 2 (.mov (kI 0)), o 3 (.mov (kI 2)), o 4 (.mov (kI 0))] .ret) .skip)))))))))))))))) (sQ [o 2 (.mov (kI 2)), o 3 (.mov (kI 0)), o 4 (.mov (kI 0))] .ret))))⟩
theorem F156_ok:Bc Tryz.prog 156=some F156:=by kernel_rfl
def X157:CF 157:=by refine⟨?_,?h⟩;rotate_left;conv=>lhs;cbv
def F157:FC:=X157.1
theorem F157_ok:Bc Tryz.prog 157=some F157:=X157.2
def X158:CF 158:=by refine⟨?_,?h⟩;rotate_left;conv=>lhs;cbv
def F158:FC:=X158.1
theorem F158_ok:Bc Tryz.prog 158=some F158:=X158.2
def X159:CF 159:=by refine⟨?_,?h⟩;rotate_left;conv=>lhs;cbv
def F159:FC:=X159.1
theorem F159_ok:Bc Tryz.prog 159=some F159:=X159.2
def X160:CF 160:=by refine⟨?_,?h⟩;rotate_left;conv=>lhs;cbv
def F160:FC:=X160.1
theorem F160_ok:Bc Tryz.prog 160=some F160:=X160.2
def X161:CF 161:=by refine⟨?_,?h⟩;rotate_left;conv=>lhs;cbv
def F161:FC:=X161.1
theorem F161_ok:Bc Tryz.prog 161=some F161:=X161.2
def F162:FC:=⟨20,[.tmp 6],(sQ [o 3 (.box Q0),o 4 (.box Q1),o 6 (.mov (kI 0))] (sQ [oA 8 2 3,oA 9 3 8,oL 10 9,oA 11 3 4,oL 12 11,o 13 (.indexAddr 1 Q12 (kI 1)),oL 14 13,oM 15 2,o 16 (.call 164 [Q10,Q14,Q15]),oM 7 16] (.seq (sQ [oM 17 7,o 18 (.bin .lss Q17 (kI 0) tI)] (.cond Q18 (sQ [o 6 (.mov (kI (-1)))] .ret) .skip)) (sQ [oM 19 7,oM 6 19] .ret))))⟩
theorem F162_ok:Bc Tryz.prog 162=some F162:=by kernel_rfl
def F163 : FC := ⟨22, [.tmp 2], (sQ [o 1 (.box Q0), o 2 (.mov (.const (.slice none 0 0)))] (.seq (sQ [o 3 (.load true 5 Q1), o 4 (.call 101 [Q3]), o 5 (.un .not Q4), oM 6 5, og 7 (.fieldAddr 0 Q1) 6 false, og 8 (.load false 1 Q7) 6 false, og 9 (.bin .eql Q8 (kI 19) tI) 6 false, o 10 (.pick Q6 kT Q9)] (.cond Q10 (sQ [o 2 (.mov (.const (.slice none 0 0)))] .ret) .skip))
 (.seq (sQ [oA 11 0 1, oL 12 11, o 13 (.bin .eql Q12 (kI 20) tI)] (.cond Q13 (sQ [oA 15 4 1, oL 16 15, o 17 (.indexAddr 7 Q16 (kI 0)), o 18 (.load true 7 Q17), o 14 (.call 231 []), ⟨none, .again 18 true 7 Q17, none⟩, ⟨none, .again 16 false 1 Q15, none⟩, o 19 (.buildSlice 7 2 zjZ [(0, 7, Q14), (7, 7, Q18)]), oM 2 19] .ret) .skip)) (sQ [oA 20 4 1, oL 21 20, oM 2 21] .ret))))⟩
theorem F163_ok:Bc Tryz.prog 163=some F163:=by kernel_rfl
def X164:CF 164:=by refine⟨?_,?h⟩;rotate_left;conv=>lhs;cbv
def F164:FC:=X164.1
theorem F164_ok:Bc Tryz.prog 164=some F164:=X164.2
def F165 : FC := ⟨122, [.tmp 8], (sQ [o 4 (.box Q0), o 5 (.box Q1), o 8 (.mov (kI 0))] (.seq (sQ [oA 11 2 4, oA 12 0 11, oL 13 12] (.block 0 (.seq (sQ [o 15 (.bin .eql Q13 (kI 12) tI), oM 14 15] (.cond Q14 .skip (.ops [o 16 (.bin .eql Q13 (kI 13) tI), oM 14 16]))) (.cond Q14
 (sQ [o 17 (.load true 6 Q5), oM 18 2, o 19 (.bin .add Q18 (kI 1) tI), o 22 (.load true 6 Q5), oM 23 2, o 20 (.call 160 [Q17, Q19]), ⟨none, .again 22 true 6 Q5, none⟩, o 21 (.bin .add (kI 16) Q20 tI), o 24 (.call 160 [Q22, Q23]), o 25 (.bin .sub Q21 Q24 tI), oM 8 25] .ret) (sQ [o 27 (.bin .eql Q13 (kI 14) tI), oM 26 27] (.cond Q26
 (sQ [oA 28 2 4, oA 29 1 28, oL 30 29, o 31 (.bin .add (kI 16) Q30 tI), oM 8 31] .ret) (sQ [o 33 (.bin .eql Q13 (kI 15) tI), oM 32 33] (.cond Q32
 (sQ [oM 34 3, o 35 (.indexAddr 1 Q34 (kI 0)), oL 36 35, o 37 (.load true 6 Q5), oM 38 2, o 40 (.load true 6 Q5), oM 41 2, o 42 (.bin .add Q41 (kI 1) tI), o 39 (.call 160 [Q37, Q38]), ⟨none, .again 40 true 6 Q5, none⟩, ⟨none, .again 36 false 1 Q35, none⟩, o 43 (.call 160 [Q40, Q42]), ⟨none, .again 36 false 1 Q35, none⟩, o 44 (.call 233 [Q36, Q39, Q43]), o 45 (.bin .add (kI 16) Q44 tI), oM 8 45]
 .ret) (sQ [o 47 (.bin .eql Q13 (kI 16) tI), oM 46 47] (.cond Q46 (sQ [oM 48 3, o 49 (.indexAddr 1 Q48 (kI 0)), oL 50 49, oM 51 2, oA 52 2 4, oA 53 1 52, oL 54 53, o 55 (.bin .mul Q51 Q54 tI), oM 56 2, o 57 (.bin .add Q56 (kI 1) tI), oA 58 2 4, oA 59 1 58, oL 60 59, o 61 (.bin .mul Q57 Q60 tI), o 62 (.call 233 [Q50, Q55, Q61]), o 63 (.bin .add (kI 16) Q62 tI), oM 8 63] .ret)
 (sQ [o 65 (.bin .eql Q13 (kI 17) tI), oM 64 65] (.cond Q64 (sQ [o 9 (.mov (kI 16))] (.seq (sQ [o 10 (.mov (kI 0))] (.block 1 (.loop (.seq (sQ [oM 66 10, oM 67 3, o 68 (.len 1 Q67), o 69 (.bin .lss Q66 Q68 tI)] (.cond Q69 .skip (.exit 1)))
 (.seq (.block 2 (.ops [oM 72 9, oM 73 3, oM 74 10, o 75 (.indexAddr 1 Q73 Q74), oL 76 75, oM 77 2, o 78 (.indexAddr 1 Q76 Q77), oL 79 78, o 80 (.bin .add Q72 Q79 tI), oM 9 80])) (.ops [oM 70 10, o 71 (.bin .add Q70 (kI 1) tI), oM 10 71])))))) (sQ [oM 81 9, oM 8 81] .ret))) (sQ [o 83 (.bin .eql Q13 (kI 18) tI), oM 82 83] (.cond Q82
 (sQ [oM 84 3, oA 85 3 5, oL 86 85, o 87 (.indexAddr 1 Q86 (kI 0)), oL 88 87, oM 89 2, o 90 (.indexAddr 1 Q88 Q89), oL 91 90, o 92 (.conv .i64 Q91), o 93 (.indexAddr 1 Q84 Q92), oL 94 93, o 95 (.load true 6 Q5), oM 96 2, o 97 (.call 160 [Q95, Q96]), ⟨none, .again 94 false 1 Q93, none⟩, ⟨none, .again 91 false 1 Q90, none⟩, ⟨none, .again 88 false 1 Q87, none⟩, ⟨none, .again 86 false 1 Q85, none⟩, o 98 (.indexAddr 1 Q94 Q97), oL 99 98, o 100 (.bin .add (kI 16) Q99 tI), oM 8 100]
 .ret) (sQ [o 102 (.bin .eql Q13 (kI 19) tI), oM 101 102] (.cond (q 101) (sQ [oM 103 3, o 104 (.indexAddr 1 (q 103) (kI 0)), oL 105 104, o 106 (.load true 7 Q4), o 107 (.load true 6 Q5), oM 108 2, o 109 (.call 162 [.tmp 106, .tmp 107, .tmp 108]), ⟨none, .again 105 false 1 (q 104), none⟩, o 110 (.indexAddr 1 (q 105) (q 109)), oL 111 110, oM 8 111] .ret)
 (sQ [o 113 (.bin .eql Q13 (kI 20) tI), oM 112 113] (.cond (q 112) (sQ [oM 114 3, o 115 (.indexAddr 1 (q 114) (kI 1)), oL 116 115, o 117 (.load true 6 Q5), oM 118 2, o 119 (.call 166 [.tmp 117, .tmp 118]), ⟨none, .again 116 false 1 (q 115), none⟩, o 120 (.indexAddr 1 (q 116) (q 119)), oL 121 120, oM 8 121] .ret) .skip)))))))))))))))))) (sQ [o 8 (.mov (kI 16))] .ret)))⟩
theorem F165_ok:Bc Tryz.prog 165=some F165:=by kernel_rfl
def F166 : FC := ⟨31, [.tmp 4], (sQ [o 2 (.box Q0), o 4 (.mov (kI 0))] (sQ [oA 8 4 2, oL 9 8, o 10 (.indexAddr 6 Q9 (kI 0)), o 11 (.load true 6 Q10), o 5 (.alloc [.int .i64 0, .int .i64 0, .int .i64 0, .slice none 0 0, .slice none 0 0, .slice none 0 0]), oS 6 5 11] (.seq (sQ [o 6 (.mov (kI 0))] (.block 0 (.loop (.seq (sQ [oM 12 6, oA 13 0 5, oL 14 13, o 15 (.bin .lss Q12 Q14 tI)] (.cond Q15 .skip
 (.exit 0))) (.seq (.block 1 (sQ [oA 18 3 5, oL 19 18, o 20 (.indexAddr 1 Q19 (kI 1)), oL 21 20, oA 22 1 5, oL 23 22, oM 24 6, o 25 (.bin .add Q23 Q24 tI), o 26 (.call 164 [(kI 5), Q21, Q25]), oM 7 26] (sQ [oM 27 7, oM 28 1, o 29 (.bin .gtr Q27 Q28 tI)] (.cond Q29 (sQ [oM 30 6, oM 4 30] .ret) .skip)))) (.ops [oM 16 6, o 17 (.bin .add Q16 (kI 1) tI), oM 6 17])))))) (sQ [o 4 (.mov (kI (-1)))]
 .ret))))⟩
theorem F166_ok:Bc Tryz.prog 166=some F166:=by kernel_rfl
def F167 : FC := ⟨92, [.cell 8 true 4, .tmp 9], (sQ [o 5 (.box Q1), o 6 (.box Q2), o 8 (.alloc zbZ), o 9 (.mov kF)] (sQ [o 10 (.alloc zbZ)]
 (sQ [oM 15 3, oA 16 2 5, oA 17 1 16, oL 18 17, o 19 (.bin .mul Q15 Q18 tI), oM 20 3, o 21 (.bin .add Q20 (kI 1) tI), oA 22 2 5, oA 23 1 22, oL 24 23, o 25 (.bin .mul Q21 Q24 tI), oA 26 3 6, oL 27 26, o 28 (.indexAddr 1 Q27 (kI 1)), oL 29 28, oM 11 19, oM 12 25, oM 13 29] (.seq (sQ [oA 30 2 5, oA 31 0 30, oL 32 31, o 33 (.bin .neq Q32 (kI 14) tI)] (.cond Q33
 (.ops [o 34 (.load true 6 Q6), oM 35 3, o 37 (.load true 6 Q6), oM 38 3, o 39 (.bin .add Q38 (kI 1) tI), oA 41 3 6, oL 42 41, o 43 (.indexAddr 1 Q42 (kI 2)), oL 44 43, o 36 (.call 160 [Q34, Q35]), ⟨none, .again 44 false 1 Q43, none⟩, ⟨none, .again 42 false 1 Q41, none⟩, ⟨none, .again 37 true 6 Q6, none⟩, o 40 (.call 160 [Q37, Q39]), ⟨none, .again 44 false 1 Q43, none⟩, ⟨none, .again 42 false 1 Q41, none⟩, oM 11 36, oM 12 40, oM 13 44])
 .skip)) (.seq (sQ [oM 45 11, o 46 (.bin .lss Q45 (kI 0) tI), oM 47 46, og 48 (.mov Q12) 47 false, og 49 (.mov Q11) 47 false, og 50 (.bin .lss Q48 Q49 tI) 47 false, o 51 (.pick Q47 kT Q50), oM 52 51, og 53 (.mov Q12) 52 false, og 54 (.mov Q13) 52 false, og 55 (.len 1 Q54) 52 false, og 56 (.bin .gtr Q53 Q55 tI) 52 false, o 57 (.pick Q52 kT Q56)] (.cond Q57
 (sQ [o 58 (.load true 4 Q10), oS 4 8 58, o 9 (.mov kF)] .ret) .skip)) (sQ [oM 59 0, o 60 (.nilCheck Q59), oA 61 0 60, oL 62 61, oM 63 12, oM 64 11, o 65 (.bin .sub Q63 Q64 tI), o 66 (.bin .sub Q62 Q65 tI), o 67 (.nilCheck Q59), oA 68 0 67, oS 1 68 66] (.seq (sQ [oM 69 0, o 70 (.nilCheck Q69), oA 71 0 70, oL 72 71, o 73 (.bin .lss Q72 (kI 0) tI)] (.cond Q73
 (sQ [o 74 (.load true 4 Q10), oS 4 8 74, o 9 (.mov kF)] .ret) .skip)) (sQ [oM 75 13, oM 76 11, oM 77 12, o 78 (.slice 1 Q75 (some Q76) (some Q77) none), o 79 (.b2s Q78), oA 80 2 10, oS 1 80 79] (.seq (sQ [oA 81 2 5, oA 82 0 81, oL 83 82, o 84 (.bin .eql Q83 (kI 12) tI)] (.cond Q84 (sQ [oA 85 2 10, oL 86 85, o 87 (.call 161 [Q86]), oM 14 87] (sQ [oM 88 14, o 89 (.un .not Q88)] (.cond Q89
 (sQ [o 90 (.build zbZ []), oS 4 8 90, o 9 (.mov kF)] .ret) .skip))) .skip)) (sQ [o 91 (.load true 4 Q10), oS 4 8 91, o 9 (.mov kT)] .ret))))))))))⟩
theorem F167_ok:Bc Tryz.prog 167=some F167:=by kernel_rfl
def F168 : FC := ⟨180, [.cell 8 true 4, .tmp 9], (sQ [o 5 (.box Q1), o 6 (.box Q2), o 8 (.alloc zbZ), o 9 (.mov kF)] (sQ [o 10 (.alloc zbZ)] (.seq (sQ [oA 25 2 5, oA 26 0 25, oL 27 26] (.block 0 (sQ [o 29 (.bin .eql Q27 (kI 17) tI), oM 28 29] (.cond Q28 (.seq (sQ [o 11 (.mov (kI 0))] (.block 1 (.loop (.seq (sQ [oM 30 11, oA 31 4 6, oL 32 31, o 33 (.len 1 Q32), o 34 (.bin .lss Q30 Q33 tI)]
 (.cond Q34 .skip (.exit 1)))
 (.seq (.block 2 (sQ [oM 38 0, oA 39 2 5, oA 40 4 39, oL 41 40, oM 42 11, o 43 (.indexAddr 7 Q41 Q42), o 44 (.load true 7 Q43), oA 45 4 6, oL 46 45, oM 47 11, o 48 (.indexAddr 6 Q46 Q47), o 49 (.load true 6 Q48), oA 50 4 6, oL 51 50, oM 52 11, o 53 (.indexAddr 6 Q51 Q52), oA 54 1 53, oL 55 54, oM 56 3, o 57 (.bin .add Q55 Q56 tI), o 58 (.call 114 [Q38, Q44, Q49, Q57]), oM 37 58, o 59 (.extract Q37 0), o 60 (.extract Q37 1), o 12 (.alloc zbZ), oS 4 12 59, oM 13 60]
 (.seq (sQ [oM 61 13, o 62 (.un .not Q61)] (.cond Q62 (sQ [o 63 (.build zbZ []), oS 4 8 63, o 9 (.mov kF)] .ret) .skip)) (.ops [oA 64 3 10, oL 65 64, o 66 (.load true 4 Q12), o 67 (.buildSlice 4 1 zbZ [(0, 4, Q66)]), o 68 (.append 4 56 Q65 Q67), oA 69 3 10, oS 1 69 68])))) (.ops [oM 35 11, o 36 (.bin .add Q35 (kI 1) tI), oM 11 36])))))) (sQ [o 70 (.load true 4 Q10), oS 4 8 70, o 9 (.mov kT)]
 .ret)) (sQ [o 72 (.bin .eql Q27 (kI 18) tI), oM 71 72] (.cond Q71 (sQ [oA 73 3 6, oL 74 73, o 75 (.indexAddr 1 Q74 (kI 0)), oL 76 75, oM 77 3, o 78 (.indexAddr 1 Q76 Q77), oL 79 78, o 80 (.conv .i64 Q79), o 81 (.load true 6 Q6), oM 82 3, o 83 (.call 160 [Q81, Q82]), ⟨none, .again 79 false 1 Q78, none⟩, ⟨none, .again 76 false 1 Q75, none⟩, ⟨none, .again 74 false 1 Q73, none⟩, oM 14 80, oM 15 83]
 (.seq (sQ [oM 84 14, oA 85 4 6, oL 86 85, o 87 (.len 1 Q86), o 88 (.bin .geq Q84 Q87 tI)] (.cond Q88 (sQ [o 89 (.load true 4 Q10), oS 4 8 89, o 9 (.mov kF)] .ret) .skip)) (sQ [oA 90 4 6, oL 91 90, oM 92 14, o 93 (.indexAddr 6 Q91 Q92), o 94 (.load true 6 Q93), o 16 (.alloc [.int .i64 0, .int .i64 0, .int .i64 0, .slice none 0 0, .slice none 0 0, .slice none 0 0]), oS 6 16 94]
 (.seq (sQ [oM 95 15, o 96 (.bin .lss Q95 (kI 0) tI), oM 97 96, og 98 (.mov Q15) 97 false, og 99 (.fieldAddr 0 Q16) 97 false, og 100 (.load false 1 Q99) 97 false, og 101 (.bin .geq Q98 (q 100) tI) 97 false, o 102 (.pick Q97 kT (q 101))] (.cond (q 102) (sQ [o 103 (.load true 4 Q10), oS 4 8 103, o 9 (.mov kF)] .ret) .skip))
 (sQ [oM 105 0, oA 106 2 5, oA 107 4 106, oL 108 107, oM 109 14, o 110 (.indexAddr 7 (q 108) (q 109)), o 111 (.load true 7 (q 110)), o 112 (.load true 6 Q16), oA 113 1 16, oL 114 113, oM 115 15, o 116 (.bin .add (q 114) (q 115) tI), o 117 (.call 114 [.tmp 105, .tmp 111, .tmp 112, .tmp 116]), oM 104 117, o 118 (.extract (q 104) 0), o 119 (.extract (q 104) 1), o 17 (.alloc zbZ), oS 4 17 118, oM 18 119]
 (.seq (sQ [oM 120 18, o 121 (.un .not (q 120))] (.cond (q 121) (sQ [o 122 (.build zbZ []), oS 4 8 122, o 9 (.mov kF)] .ret) .skip)) (sQ [oM 123 14, oA 124 1 10, oS 1 124 123] (sQ [oA 125 3 10, oL 126 125, o 127 (.load true 4 Q17), o 128 (.buildSlice 4 1 zbZ [(0, 4, (q 127))]), o 129 (.append 4 56 (q 126) (q 128)), oA 130 3 10, oS 1 130 129]
 (sQ [o 131 (.load true 4 Q10), oS 4 8 131, o 9 (.mov kT)] .ret))))))))) .skip)))))) (sQ [o 133 (.load true 7 Q5), o 134 (.load true 6 Q6), oM 135 3, o 136 (.call 234 [.tmp 133, .tmp 134, .tmp 135]), oM 132 136, o 137 (.extract (q 132) 0), o 138 (.extract (q 132) 1), o 139 (.extract (q 132) 2), oM 19 137, oM 20 138, oM 21 139] (.seq (sQ [oM 140 21, o 141 (.un .not (q 140))] (.cond (q 141)
 (sQ [o 142 (.load true 4 Q10), oS 4 8 142, o 9 (.mov kF)] .ret) .skip)) (.seq (sQ [oM 143 19, oM 22 143] (.block 3 (.loop (.seq (sQ [oM 144 22, oM 145 20, o 146 (.bin .lss (q 144) (q 145) tI)] (.cond (q 146) .skip (.exit 3)))
 (.seq (.block 4 (sQ [oM 150 0, oA 151 2 5, oA 152 4 151, oL 153 152, o 154 (.indexAddr 7 (q 153) (kI 0)), o 155 (.load true 7 (q 154)), oA 156 4 6, oL 157 156, o 158 (.indexAddr 6 (q 157) (kI 0)), o 159 (.load true 6 (q 158)), oA 160 4 6, oL 161 160, o 162 (.indexAddr 6 (q 161) (kI 0)), oA 163 1 162, oL 164 163, oM 165 22, o 166 (.bin .add (q 164) (q 165) tI), o 167 (.call 114 [.tmp 150, .tmp 155, .tmp 159, .tmp 166]), oM 149 167, o 168 (.extract (q 149) 0), o 169 (.extract (q 149) 1), o 23 (.alloc zbZ), oS 4 23 168, oM 24 169]
 (.seq (sQ [oM 170 24, o 171 (.un .not (q 170))] (.cond (q 171) (sQ [o 172 (.build zbZ []), oS 4 8 172, o 9 (.mov kF)] .ret) .skip)) (.ops [oA 173 3 10, oL 174 173, o 175 (.load true 4 Q23), o 176 (.buildSlice 4 1 zbZ [(0, 4, (q 175))]), o 177 (.append 4 56 (q 174) (q 176)), oA 178 3 10, oS 1 178 177])))) (.ops [oM 147 22, o 148 (.bin .add (q 147) (kI 1) tI), oM 22 148]))))))
 (sQ [o 179 (.load true 4 Q10), oS 4 8 179, o 9 (.mov kT)] .ret)))))))⟩
theorem F168_ok:Bc Tryz.prog 168=some F168:=by kernel_rfl
end Go.Proofs.YtkjhfefbklcciaaGreatDoor.Stats
