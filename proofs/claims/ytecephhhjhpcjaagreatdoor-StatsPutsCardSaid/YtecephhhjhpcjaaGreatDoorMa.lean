/- YtecephhhjhpcjaaGreatDoorMa: the texts Sca, Scb, brought together. No conditions. -/
import Derived.Test.YtecephhhjhpcjaaGreatDoorX22
import Derived.Test.YtecephhhjhpcjaaGreatDoorProg
import Derived.KernelRfl
section
set_option linter.unusedVariables false
namespace Go.Proofs.YtecephhhjhpcjaaGreatDoor.Stats
open Go Go.Proofs.YtecephhhjhpcjaaGreatDoor Go.Proofs.YtecephhhjhpcjaaGreatDoor.Em
/-- what the program's variables hold -/
def gs : List (List EV) := [[], [.lit (.string ⟨#[]⟩), .lit (.int .i64 0), .lit (.int .i64 0), .lit (.bool false), .lit (.string ⟨#[110, 117, 108, 108]⟩), .lit (.int .i64 0), .lit (.int .i64 0), .lit (.bool false), .lit (.string ⟨#[98, 111, 111, 108]⟩), .lit (.int .i64 0), .lit (.int .i64 2), .lit (.bool false), .lit (.string ⟨#[105, 110, 116, 56]⟩), .lit (.int .i64 1), .lit (.int .i64 2), .lit (.bool true), .lit (.string ⟨#[105, 110, 116, 49, 54]⟩), .lit (.int .i64 2), .lit (.int .i64 2), .lit (.bool true), .lit (.string ⟨#[105, 110, 116, 51, 50]⟩), .lit (.int .i64 4), .lit (.int .i64 2), .lit (.bool true), .lit (.string ⟨#[105, 110, 116, 54, 52]⟩), .lit (.int .i64 8), .lit (.int .i64 2), .lit (.bool true), .lit (.string ⟨#[117, 105, 110, 116, 56]⟩), .lit (.int .i64 1), .lit (.int .i64 2), .lit (.bool true), .lit (.string ⟨#[117, 105, 110, 116, 49, 54]⟩), .lit (.int .i64 2), .lit (.int .i64 2), .lit (.bool true), .lit (.string ⟨#[117, 105, 110, 116, 51, 50]⟩), .lit (.int .i64 4), .lit (.int .i64 2), .lit (.bool true), .lit (.string ⟨#[117, 105, 110, 116, 54, 52]⟩), .lit (.int .i64 8), .lit (.int .i64 2), .lit (.bool true), .lit (.string ⟨#[102, 108, 111, 97, 116, 54, 52]⟩), .lit (.int .i64 8), .lit (.int .i64 2), .lit (.bool false), .lit (.string ⟨#[116, 101, 120, 116]⟩), .lit (.int .i64 0), .lit (.int .i64 3), .lit (.bool false), .lit (.string ⟨#[98, 121, 116, 101, 115]⟩), .lit (.int .i64 0), .lit (.int .i64 3), .lit (.bool false), .lit (.string ⟨#[102, 105, 120, 101, 100]⟩), .lit (.int .i64 0), .lit (.int .i64 2), .lit (.bool false), .lit (.string ⟨#[108, 105, 115, 116]⟩), .lit (.int .i64 0), .lit (.int .i64 2), .lit (.bool false), .lit (.string ⟨#[115, 112, 97, 110]⟩), .lit (.int .i64 0), .lit (.int .i64 1), .lit (.bool false), .lit (.string ⟨#[115, 116, 114, 117, 99, 116]⟩), .lit (.int .i64 0), .lit (.int .i64 1), .lit (.bool false), .lit (.string ⟨#[99, 104, 111, 105, 99, 101]⟩), .lit (.int .i64 0), .lit (.int .i64 2), .lit (.bool false), .lit (.string ⟨#[100, 105, 99, 116]⟩), .lit (.int .i64 0), .lit (.int .i64 2), .lit (.bool false), .lit (.string ⟨#[114, 117, 110, 115]⟩), .lit (.int .i64 0), .lit (.int .i64 0), .lit (.bool false)], [], [.lit (.int .u8 128), .lit (.int .u8 191), .lit (.int .u8 160), .lit (.int .u8 191), .lit (.int .u8 128), .lit (.int .u8 159), .lit (.int .u8 144), .lit (.int .u8 191), .lit (.int .u8 128), .lit (.int .u8 143), .lit (.int .u8 0), .lit (.int .u8 0), .lit (.int .u8 0), .lit (.int .u8 0), .lit (.int .u8 0), .lit (.int .u8 0), .lit (.int .u8 0), .lit (.int .u8 0), .lit (.int .u8 0), .lit (.int .u8 0), .lit (.int .u8 0), .lit (.int .u8 0), .lit (.int .u8 0), .lit (.int .u8 0), .lit (.int .u8 0), .lit (.int .u8 0), .lit (.int .u8 0), .lit (.int .u8 0), .lit (.int .u8 0), .lit (.int .u8 0), .lit (.int .u8 0), .lit (.int .u8 0)]]
abbrev o (n : Nat) (i : EI) : EOp := ⟨some n, i, none⟩
abbrev q (n : Nat) : Operand := .tmp n
abbrev oM (n m : Nat) : EOp := ⟨some n, .mov (.tmp m), none⟩
abbrev oA (n k m : Nat) : EOp := ⟨some n, .fieldAddr k (.tmp m), none⟩
abbrev oL (n m : Nat) : EOp := ⟨some n, .load false 1 (.tmp m), none⟩
abbrev oS (k n m : Nat) : EOp := ⟨none, .store k (.tmp n) (.tmp m), none⟩
abbrev og (n : Nat) (i : EI) (g : Nat) (b : Bool) : EOp := ⟨some n, i, some (g, b)⟩
abbrev tI : Option TypeDesc := some (.int .i64)
abbrev kI (n : Int) : Operand := .const (.int .i64 n)
abbrev kT : Operand := .const (.bool true)
abbrev kF : Operand := .const (.bool false)
abbrev sQ (l : List EOp) (c : EC) : EC := .seq (.ops l) c
abbrev zaZ : List Value := [(.int .i64 0), (.int .i64 0), (.bool false), (.bool false), (.int .i64 0), (.string ⟨#[]⟩), (.slice none 0 0), (.bool false), (.int .i64 0), (.string ⟨#[]⟩), (.slice none 0 0)]
abbrev zbZ : List Value := [(.string ⟨#[]⟩), (.bool false), (.int .i64 0), (.int .i64 0), (.int .i64 0), (.int .i64 0), (.slice none 0 0)]
abbrev zcZ : List Value := [(.bool false), (.int .i64 0), (.string ⟨#[]⟩), (.slice none 0 0)]
abbrev zdZ : List Value := [(.slice none 0 0), (.slice none 0 0), (.string ⟨#[]⟩), (.bool false), (.int .i64 0), (.int .i64 0), (.int .i64 0), (.int .i64 0), (.slice none 0 0), (.bool false)]
abbrev zeZ : List Value := [(.slice none 0 0), (.string ⟨#[]⟩), (.bool false), (.int .i64 0), (.int .i64 0), (.int .i64 0), (.int .i64 0), (.slice none 0 0), (.slice none 0 0), (.bool false)]
/-- colonnade/colonnadelaw23.StatsMerges -/
def F3 : FC := ⟨36, [.tmp 6],
  (sQ [o 3 (.box (q 0)), o 4 (.box (q 1)), o 5 (.box (q 2)), o 6 (.mov kF)]
  (sQ [o 12 (.load true 7 (q 3)), o 13 (.load true 11 (q 4)), o 14 (.load true 11 (q 5)), o 15 (.call 6 [.tmp 12, .tmp 13, .tmp 14]), oM 11 15, o 16 (.extract (q 11) 0), o 17 (.extract (q 11) 1), o 7 (.alloc zaZ), oS 11 7 16, oM 8 17]
  (sQ [o 19 (.load true 7 (q 3)), o 20 (.load true 11 (q 4)), o 21 (.load true 11 (q 5)), o 22 (.call 7 [.tmp 19, .tmp 20, .tmp 21]), oM 18 22, o 23 (.extract (q 18) 0), o 24 (.extract (q 18) 1), o 9 (.alloc zaZ), oS 11 9 23, oM 10 24]
  (sQ [oM 25 8, oM 26 10, o 27 (.bin .eql (q 25) (q 26) tI), oM 28 27, og 29 (.load true 11 (q 7)) 28 true, og 30 (.load true 11 (q 9)) 28 true, og 31 (.call 8 [.tmp 29, .tmp 30]) 28 true, o 32 (.pick (q 28) (q 31) kF), oM 33 32, og 34 (.call 9 []) 33 true, o 35 (.pick (q 33) (q 34) kF), oM 6 35]
  .ret))))⟩
theorem F3_ok : compF Tryz.prog 3 = some F3 := by kernel_rfl
/-- colonnade/stats.Merge -/
def F6 : FC := ⟨118, [.cell 6 true 11, .tmp 7],
  (sQ [o 3 (.box (q 0)), o 4 (.box (q 1)), o 5 (.box (q 2)), o 6 (.alloc zaZ), o 7 (.mov (kI 0))]
  (.seq (.block 0 (sQ [o 11 (.load true 7 (q 3)), o 12 (.call 15 [.tmp 11]), o 13 (.field false 0 1 (q 12)), o 14 (.bin .neq (q 13) (kI 0) tI), oM 10 14]
  (.cond (q 10)
  (sQ [o 15 (.build zaZ []), oS 11 6 15, o 7 (.mov (kI 5))]
  .ret)
  (sQ [o 17 (.load true 7 (q 3)), o 18 (.load true 11 (q 4)), o 19 (.call 16 [.tmp 17, .tmp 18]), o 20 (.un .not (q 19)), oM 21 20, og 22 (.load true 7 (q 3)) 21 false, og 23 (.load true 11 (q 5)) 21 false, og 24 (.call 16 [.tmp 22, .tmp 23]) 21 false, og 25 (.un .not (q 24)) 21 false, o 26 (.pick (q 21) kT (q 25)), oM 16 26]
  (.cond (q 16)
  (sQ [o 27 (.build zaZ []), oS 11 6 27, o 7 (.mov (kI 7))]
  .ret)
  (sQ [oA 29 0 4, oL 30 29, oA 31 0 5, oL 32 31, o 33 (.bin .add (q 30) (q 32) tI), o 34 (.bin .gtr (q 33) (kI 1048576) tI), oM 28 34]
  (.cond (q 28)
  (sQ [o 35 (.build zaZ []), oS 11 6 35, o 7 (.mov (kI 3))]
  .ret)
  .skip)))))))
  (sQ [oA 36 0 4, oL 37 36, oA 38 0 5, oL 39 38, o 40 (.bin .add (q 37) (q 39) tI), oA 41 1 4, oL 42 41, oA 43 1 5, oL 44 43, o 45 (.bin .add (q 42) (q 44) tI), o 46 (.build zaZ [(0, 1, (q 40)), (1, 1, (q 45))]), o 8 (.alloc zaZ), oS 11 8 46]
  (sQ [o 47 (.load true 7 (q 3)), o 48 (.call 17 [.tmp 47]), o 9 (.alloc zbZ), oS 7 9 48]
  (.seq (.block 1 (sQ [oA 50 1 4, oL 51 50, oA 52 0 4, oL 53 52, o 54 (.bin .eql (q 51) (q 53) tI), oM 49 54]
  (.cond (q 49)
  (.ops [oA 55 2 5, oL 56 55, oA 57 3 5, o 58 (.load true 4 (q 57)), oA 59 7 5, o 60 (.load true 4 (q 59)), oA 61 2 8, oS 1 61 56, ⟨none, .again 60 true 4 (q 59), none⟩, ⟨none, .again 58 true 4 (q 57), none⟩, oA 62 3 8, oS 4 62 58, ⟨none, .again 60 true 4 (q 59), none⟩, oA 63 7 8, oS 4 63 60])
  (sQ [oA 65 1 5, oL 66 65, oA 67 0 5, oL 68 67, o 69 (.bin .eql (q 66) (q 68) tI), oM 64 69]
  (.cond (q 64)
  (.ops [oA 70 2 4, oL 71 70, oA 72 3 4, o 73 (.load true 4 (q 72)), oA 74 7 4, o 75 (.load true 4 (q 74)), oA 76 2 8, oS 1 76 71, ⟨none, .again 75 true 4 (q 74), none⟩, ⟨none, .again 73 true 4 (q 72), none⟩, oA 77 3 8, oS 4 77 73, ⟨none, .again 75 true 4 (q 74), none⟩, oA 78 7 8, oS 4 78 75])
  (sQ [oA 80 2 4, oL 81 80, oM 82 81, og 83 (.fieldAddr 2 (q 5)) 82 true, og 84 (.load false 1 (q 83)) 82 true, o 85 (.pick (q 82) (q 84) kF), oM 79 85]
  (.cond (q 79)
  (sQ [oA 86 3 4, o 87 (.load true 4 (q 86)), oA 88 7 4, o 89 (.load true 4 (q 88)), oA 90 2 8, ⟨none, .store 1 (q 90) kT, none⟩, ⟨none, .again 89 true 4 (q 88), none⟩, ⟨none, .again 87 true 4 (q 86), none⟩, oA 91 3 8, oS 4 91 87, ⟨none, .again 89 true 4 (q 88), none⟩, oA 92 7 8, oS 4 92 89]
  (.seq (sQ [o 93 (.load true 7 (q 9)), oA 94 3 5, o 95 (.load true 4 (q 94)), oA 96 3 8, o 97 (.load true 4 (q 96)), o 98 (.call 18 [.tmp 93, .tmp 95, .tmp 97]), o 99 (.bin .lss (q 98) (kI 0) tI)]
  (.cond (q 99)
  (.ops [oA 100 3 5, o 101 (.load true 4 (q 100)), oA 102 3 8, oS 4 102 101])
  .skip))
  (sQ [o 103 (.load true 7 (q 9)), oA 104 7 5, o 105 (.load true 4 (q 104)), oA 106 7 8, o 107 (.load true 4 (q 106)), o 108 (.call 18 [.tmp 103, .tmp 105, .tmp 107]), o 109 (.bin .gtr (q 108) (kI 0) tI)]
  (.cond (q 109)
  (.ops [oA 110 7 5, o 111 (.load true 4 (q 110)), oA 112 7 8, oS 4 112 111])
  .skip))))
  .skip)))))))
  (sQ [oA 113 3 8, oA 114 3 113, ⟨none, .store 1 (q 114) (.const (.slice none 0 0)), none⟩, oA 115 7 8, oA 116 3 115, ⟨none, .store 1 (q 116) (.const (.slice none 0 0)), none⟩]
  (sQ [o 117 (.load true 11 (q 8)), oS 11 6 117, o 7 (.mov (kI 0))]
  .ret)))))))⟩
theorem F6_ok : compF Tryz.prog 6 = some F6 := by kernel_rfl
/-- colonnade/colonnaderef23.Merge -/
def F7 : FC := ⟨113, [.cell 6 true 11, .tmp 7],
  (sQ [o 3 (.box (q 0)), o 4 (.box (q 1)), o 5 (.box (q 2)), o 6 (.alloc zaZ), o 7 (.mov (kI 0))]
  (sQ [o 13 (.load true 7 (q 3)), o 14 (.call 19 [.tmp 13]), oM 8 14]
  (.seq (sQ [oM 15 8, o 16 (.un .not (q 15))]
  (.cond (q 16)
  (sQ [o 17 (.build zaZ []), oS 11 6 17, o 7 (.mov (kI 5))]
  .ret)
  .skip))
  (sQ [o 18 (.load true 7 (q 3)), o 19 (.load true 11 (q 4)), o 20 (.call 20 [.tmp 18, .tmp 19]), oM 9 20]
  (sQ [o 21 (.load true 7 (q 3)), o 22 (.load true 11 (q 5)), o 23 (.call 20 [.tmp 21, .tmp 22]), oM 10 23]
  (.seq (sQ [oM 24 9, o 25 (.un .not (q 24)), oM 26 25, og 27 (.mov (q 10)) 26 false, og 28 (.un .not (q 27)) 26 false, o 29 (.pick (q 26) kT (q 28))]
  (.cond (q 29)
  (sQ [o 30 (.build zaZ []), oS 11 6 30, o 7 (.mov (kI 7))]
  .ret)
  .skip))
  (sQ [oA 31 0 4, oL 32 31, oA 33 0 5, oL 34 33, o 35 (.bin .add (q 32) (q 34) tI), oA 36 1 4, oL 37 36, oA 38 1 5, oL 39 38, o 40 (.bin .add (q 37) (q 39) tI), o 41 (.build zaZ [(0, 1, (q 35)), (1, 1, (q 40))]), o 11 (.alloc zaZ), oS 11 11 41]
  (.seq (sQ [oA 42 0 11, oL 43 42, o 44 (.bin .gtr (q 43) (kI 1048576) tI)]
  (.cond (q 44)
  (sQ [o 45 (.build zaZ []), oS 11 6 45, o 7 (.mov (kI 3))]
  .ret)
  .skip))
  (.seq (.block 0 (sQ [oA 47 1 4, oL 48 47, oA 49 0 4, oL 50 49, o 51 (.bin .eql (q 48) (q 50) tI), oM 46 51]
  (.cond (q 46)
  (.ops [oA 52 2 5, oL 53 52, oA 54 3 5, o 55 (.load true 4 (q 54)), oA 56 7 5, o 57 (.load true 4 (q 56)), oA 58 2 11, oS 1 58 53, ⟨none, .again 57 true 4 (q 56), none⟩, ⟨none, .again 55 true 4 (q 54), none⟩, oA 59 3 11, oS 4 59 55, ⟨none, .again 57 true 4 (q 56), none⟩, oA 60 7 11, oS 4 60 57])
  (sQ [oA 62 1 5, oL 63 62, oA 64 0 5, oL 65 64, o 66 (.bin .eql (q 63) (q 65) tI), oM 61 66]
  (.cond (q 61)
  (.ops [oA 67 2 4, oL 68 67, oA 69 3 4, o 70 (.load true 4 (q 69)), oA 71 7 4, o 72 (.load true 4 (q 71)), oA 73 2 11, oS 1 73 68, ⟨none, .again 72 true 4 (q 71), none⟩, ⟨none, .again 70 true 4 (q 69), none⟩, oA 74 3 11, oS 4 74 70, ⟨none, .again 72 true 4 (q 71), none⟩, oA 75 7 11, oS 4 75 72])
  (sQ [oA 77 2 4, oL 78 77, oM 79 78, og 80 (.fieldAddr 2 (q 5)) 79 true, og 81 (.load false 1 (q 80)) 79 true, o 82 (.pick (q 79) (q 81) kF), oM 76 82]
  (.cond (q 76)
  (sQ [o 83 (.load true 7 (q 3)), o 84 (.call 21 [.tmp 83]), oM 12 84]
  (sQ [oA 85 2 11, ⟨none, .store 1 (q 85) kT, none⟩]
  (sQ [oA 86 3 4, o 87 (.load true 4 (q 86)), oA 88 3 11, oS 4 88 87]
  (.seq (sQ [oM 89 12, oA 90 3 5, o 91 (.load true 4 (q 90)), oA 92 3 4, o 93 (.load true 4 (q 92)), o 94 (.call 22 [.tmp 89, .tmp 91, .tmp 93]), o 95 (.bin .lss (q 94) (kI 0) tI)]
  (.cond (q 95)
  (.ops [oA 96 3 5, o 97 (.load true 4 (q 96)), oA 98 3 11, oS 4 98 97])
  .skip))
  (sQ [oA 99 7 4, o 100 (.load true 4 (q 99)), oA 101 7 11, oS 4 101 100]
  (sQ [oM 102 12, oA 103 7 5, o 104 (.load true 4 (q 103)), oA 105 7 4, o 106 (.load true 4 (q 105)), o 107 (.call 22 [.tmp 102, .tmp 104, .tmp 106]), o 108 (.bin .gtr (q 107) (kI 0) tI)]
  (.cond (q 108)
  (.ops [oA 109 7 5, o 110 (.load true 4 (q 109)), oA 111 7 11, oS 4 111 110])
  .skip)))))))
  .skip)))))))
  (sQ [o 112 (.load true 11 (q 11)), oS 11 6 112, o 7 (.mov (kI 0))]
  .ret))))))))))⟩
theorem F7_ok : compF Tryz.prog 7 = some F7 := by kernel_rfl
/-- colonnade/colonnadelaw23.same -/
def F8 : FC := ⟨38, [.tmp 4],
  (sQ [o 2 (.box (q 0)), o 3 (.box (q 1)), o 4 (.mov kF)]
  (sQ [oA 5 0 2, oL 6 5, oA 7 0 3, oL 8 7, o 9 (.bin .eql (q 6) (q 8) tI), oM 10 9, og 11 (.fieldAddr 1 (q 2)) 10 true, og 12 (.load false 1 (q 11)) 10 true, og 13 (.fieldAddr 1 (q 3)) 10 true, og 14 (.load false 1 (q 13)) 10 true, og 15 (.bin .eql (q 12) (q 14) tI) 10 true, o 16 (.pick (q 10) (q 15) kF), oM 17 16, og 18 (.fieldAddr 2 (q 2)) 17 true, og 19 (.load false 1 (q 18)) 17 true, og 20 (.fieldAddr 2 (q 3)) 17 true, og 21 (.load false 1 (q 20)) 17 true, og 22 (.bin .eql (q 19) (q 21) (some .bool)) 17 true, o 23 (.pick (q 17) (q 22) kF), oM 24 23, og 25 (.fieldAddr 3 (q 2)) 24 true, og 26 (.load true 4 (q 25)) 24 true, og 27 (.fieldAddr 3 (q 3)) 24 true, og 28 (.load true 4 (q 27)) 24 true, og 29 (.call 23 [.tmp 26, .tmp 28]) 24 true, o 30 (.pick (q 24) (q 29) kF), oM 31 30, og 32 (.fieldAddr 7 (q 2)) 31 true, og 33 (.load true 4 (q 32)) 31 true, og 34 (.fieldAddr 7 (q 3)) 31 true, og 35 (.load true 4 (q 34)) 31 true, og 36 (.call 23 [.tmp 33, .tmp 35]) 31 true, o 37 (.pick (q 31) (q 36) kF), oM 4 37]
  .ret))⟩
theorem F8_ok : compF Tryz.prog 8 = some F8 := by kernel_rfl
/-- colonnade/colonnadelaw23.fixed -/
def F9 : FC := ⟨43, [.tmp 0],
  (sQ [o 0 (.mov kF)]
  (sQ [o 4 (.build [.int .i64 0, .int .i64 0, .int .i64 0, .int .i64 0, .slice none 0 0] [(0, 1, (kI 3))]), o 5 (.build zbZ [(0, 1, (.const (.string ⟨#[97]⟩))), (1, 1, kT), (2, 5, (q 4))]), o 1 (.alloc zbZ), oS 7 1 5]
  (sQ [o 7 (.load true 7 (q 1)), o 8 (.buildSlice 1 1 [.int .u8 0] [(0, 1, (.const (.int .u8 5)))]), o 9 (.buildSlice 1 3 [.int .u8 0, .int .u8 0, .int .u8 0] [(0, 1, (.const (.int .u8 3))), (1, 1, (.const (.int .u8 9))), (2, 1, (.const (.int .u8 255)))]), o 10 (.buildSlice 1 2 [.slice none 0 0, .slice none 0 0] [(0, 1, (q 8)), (1, 1, (q 9))]), o 11 (.build [.int .i64 0, .int .i64 0, .int .i64 0, .slice none 0 0, .slice none 0 0, .slice none 0 0] [(0, 1, (kI 3)), (2, 1, (kI 1)), (3, 1, (q 10))]), o 12 (.call 24 [.tmp 7, .tmp 11]), oM 6 12, o 13 (.extract (q 6) 0), o 14 (.extract (q 6) 1), o 2 (.alloc zaZ), oS 11 2 13, oM 3 14]
  (sQ [oM 15 3, o 16 (.bin .eql (q 15) (kI 0) tI), oM 17 16, og 18 (.fieldAddr 0 (q 2)) 17 true, og 19 (.load false 1 (q 18)) 17 true, og 20 (.bin .eql (q 19) (kI 3) tI) 17 true, o 21 (.pick (q 17) (q 20) kF), oM 22 21, og 23 (.fieldAddr 1 (q 2)) 22 true, og 24 (.load false 1 (q 23)) 22 true, og 25 (.bin .eql (q 24) (kI 1) tI) 22 true, o 26 (.pick (q 22) (q 25) kF), oM 27 26, og 28 (.fieldAddr 2 (q 2)) 27 true, og 29 (.load false 1 (q 28)) 27 true, o 30 (.pick (q 27) (q 29) kF), oM 31 30, og 32 (.fieldAddr 3 (q 2)) 31 true, og 33 (.fieldAddr 1 (q 32)) 31 true, og 34 (.load false 1 (q 33)) 31 true, og 35 (.bin .eql (q 34) (kI (-1)) tI) 31 true, o 36 (.pick (q 31) (q 35) kF), oM 37 36, og 38 (.fieldAddr 7 (q 2)) 37 true, og 39 (.fieldAddr 1 (q 38)) 37 true, og 40 (.load false 1 (q 39)) 37 true, og 41 (.bin .eql (q 40) (kI 3) tI) 37 true, o 42 (.pick (q 37) (q 41) kF), oM 0 42]
  .ret))))⟩
theorem F9_ok : compF Tryz.prog 9 = some F9 := by kernel_rfl
/-- colonnade/kind.CheckField -/
def F15 : FC := ⟨17, [.cell 2 true 3],
  (sQ [o 1 (.box (q 0)), o 2 (.alloc [.int .i64 0, .slice none 0 0, .int .i64 0])]
  (sQ [o 4 (.load true 7 (q 1)), o 5 (.buildSlice 7 1 zbZ [(0, 7, (q 4))]), o 6 (.build [.slice none 0 0, .slice none 0 0] [(0, 1, (q 5))]), o 7 (.call 31 [.tmp 6]), o 3 (.alloc [.int .i64 0, .slice none 0 0, .int .i64 0]), oS 3 3 7]
  (.seq (sQ [oA 8 1 3, oL 9 8, o 10 (.len 1 (q 9)), o 11 (.bin .gtr (q 10) (kI 0) tI)]
  (.cond (q 11)
  (.ops [oA 12 1 3, oL 13 12, o 14 (.slice 1 (q 13) (some (kI 1)) none none), oA 15 1 3, oS 1 15 14])
  .skip))
  (sQ [o 16 (.load true 3 (q 3)), oS 3 2 16]
  .ret))))⟩
theorem F15_ok : compF Tryz.prog 15 = some F15 := by kernel_rfl
/-- colonnade/stats.isStat -/
def F16 : FC := ⟨72, [.tmp 4],
  (sQ [o 2 (.box (q 0)), o 3 (.box (q 1)), o 4 (.mov kF)]
  (.seq (sQ [oA 6 0 3, oL 7 6, o 8 (.bin .lss (q 7) (kI 0) tI), oM 9 8, og 10 (.fieldAddr 0 (q 3)) 9 false, og 11 (.load false 1 (q 10)) 9 false, og 12 (.bin .gtr (q 11) (kI 1048576) tI) 9 false, o 13 (.pick (q 9) kT (q 12)), oM 14 13, og 15 (.fieldAddr 1 (q 3)) 14 false, og 16 (.load false 1 (q 15)) 14 false, og 17 (.bin .lss (q 16) (kI 0) tI) 14 false, o 18 (.pick (q 14) kT (q 17)), oM 19 18, og 20 (.fieldAddr 1 (q 3)) 19 false, og 21 (.load false 1 (q 20)) 19 false, og 22 (.fieldAddr 0 (q 3)) 19 false, og 23 (.load false 1 (q 22)) 19 false, og 24 (.bin .gtr (q 21) (q 23) tI) 19 false, o 25 (.pick (q 19) kT (q 24))]
  (.cond (q 25)
  (sQ [o 4 (.mov kF)]
  .ret)
  .skip))
  (.seq (sQ [oA 26 2 3, oL 27 26, o 28 (.un .not (q 27))]
  (.cond (q 28)
  (sQ [oA 29 3 3, o 30 (.load true 4 (q 29)), o 31 (.call 37 [.tmp 30]), oM 32 31, og 33 (.fieldAddr 7 (q 3)) 32 true, og 34 (.load true 4 (q 33)) 32 true, og 35 (.call 37 [.tmp 34]) 32 true, o 36 (.pick (q 32) (q 35) kF), oM 4 36]
  .ret)
  .skip))
  (sQ [o 37 (.load true 7 (q 2)), o 38 (.call 17 [.tmp 37]), o 5 (.alloc zbZ), oS 7 5 38]
  (.seq (sQ [oA 39 2 5, oA 40 0 39, oL 41 40, o 42 (.call 38 [.tmp 41]), o 43 (.un .not (q 42)), oM 44 43, og 45 (.fieldAddr 1 (q 3)) 44 false, og 46 (.load false 1 (q 45)) 44 false, og 47 (.fieldAddr 0 (q 3)) 44 false, og 48 (.load false 1 (q 47)) 44 false, og 49 (.bin .eql (q 46) (q 48) tI) 44 false, o 50 (.pick (q 44) kT (q 49)), oM 51 50, og 52 (.load true 7 (q 5)) 51 false, og 53 (.fieldAddr 3 (q 3)) 51 false, og 54 (.load true 4 (q 53)) 51 false, og 55 (.call 39 [.tmp 52, .tmp 54]) 51 false, og 56 (.un .not (q 55)) 51 false, o 57 (.pick (q 51) kT (q 56)), oM 58 57, og 59 (.load true 7 (q 5)) 58 false, og 60 (.fieldAddr 7 (q 3)) 58 false, og 61 (.load true 4 (q 60)) 58 false, og 62 (.call 39 [.tmp 59, .tmp 61]) 58 false, og 63 (.un .not (q 62)) 58 false, o 64 (.pick (q 58) kT (q 63))]
  (.cond (q 64)
  (sQ [o 4 (.mov kF)]
  .ret)
  .skip))
  (sQ [o 65 (.load true 7 (q 5)), oA 66 3 3, o 67 (.load true 4 (q 66)), oA 68 7 3, o 69 (.load true 4 (q 68)), o 70 (.call 18 [.tmp 65, .tmp 67, .tmp 69]), o 71 (.bin .leq (q 70) (kI 0) tI), oM 4 71]
  .ret))))))⟩
theorem F16_ok : compF Tryz.prog 16 = some F16 := by kernel_rfl
/-- colonnade/stats.plain -/
def F17 : FC := ⟨31, [.cell 2 true 7],
  (sQ [o 1 (.box (q 0)), o 2 (.alloc zbZ)]
  (.seq (.block 0 (.loop (.seq (sQ [oA 4 2 1, oA 5 0 4, oL 6 5, o 7 (.bin .eql (q 6) (kI 19) tI), oM 8 7, og 9 (.fieldAddr 2 (q 1)) 8 false, og 10 (.fieldAddr 0 (q 9)) 8 false, og 11 (.load false 1 (q 10)) 8 false, og 12 (.bin .eql (q 11) (kI 20) tI) 8 false, o 13 (.pick (q 8) kT (q 12))]
  (.cond (q 13)
  .skip
  (.exit 0)))
  (.block 1 (sQ [oA 14 2 1, oA 15 4 14, oL 16 15, o 17 (.indexAddr 7 (q 16) (kI 0)), o 18 (.load true 7 (q 17)), o 3 (.alloc zbZ), oS 7 3 18]
  (.seq (sQ [oA 19 2 1, oA 20 0 19, oL 21 20, o 22 (.bin .eql (q 21) (kI 19) tI)]
  (.cond (q 22)
  (.ops [oA 23 1 1, oL 24 23, oA 25 1 3, oS 1 25 24])
  .skip))
  (sQ [oA 26 0 1, oL 27 26, oA 28 0 3, oS 1 28 27]
  (.ops [o 29 (.load true 7 (q 3)), oS 7 1 29]))))))))
  (sQ [o 30 (.load true 7 (q 1)), oS 7 2 30]
  .ret)))⟩
theorem F17_ok : compF Tryz.prog 17 = some F17 := by kernel_rfl
/-- colonnade/stats.order -/
def F18 : FC := ⟨28, [.tmp 6],
  (sQ [o 3 (.box (q 0)), o 4 (.box (q 1)), o 5 (.box (q 2)), o 6 (.mov (kI 0))]
  (.seq (sQ [oA 9 2 3, oA 10 0 9, oL 11 10, o 12 (.call 40 [.tmp 11])]
  (.cond (q 12)
  (sQ [oA 13 2 4, oL 14 13, oA 15 2 5, oL 16 15, o 17 (.call 41 [.tmp 14, .tmp 16]), oM 6 17]
  .ret)
  .skip))
  (sQ [oA 19 2 3, o 20 (.load true 5 (q 19)), o 21 (.build zbZ [(0, 1, (.const (.string ⟨#[97]⟩))), (2, 5, (q 20))]), o 22 (.load true 4 (q 4)), o 23 (.load true 4 (q 5)), o 24 (.call 42 [.tmp 21, .tmp 22, .tmp 23]), oM 18 24, o 25 (.extract (q 18) 0), o 26 (.extract (q 18) 1), oM 7 25, oM 8 26]
  (sQ [oM 27 7, oM 6 27]
  .ret))))⟩
theorem F18_ok : compF Tryz.prog 18 = some F18 := by kernel_rfl
/-- colonnade/colonnaderef03.MayBe -/
def F19 : FC := ⟨7, [.tmp 2],
  (sQ [o 1 (.box (q 0)), o 2 (.mov kF)]
  (sQ [o 3 (.load true 7 (q 1)), o 4 (.call 43 [.tmp 3]), o 5 (.field false 0 1 (q 4)), o 6 (.bin .eql (q 5) (kI 0) tI), oM 2 6]
  .ret))⟩
theorem F19_ok : compF Tryz.prog 19 = some F19 := by kernel_rfl
/-- colonnade/colonnaderef23.Is -/
def F20 : FC := ⟨74, [.tmp 4],
  (sQ [o 2 (.box (q 0)), o 3 (.box (q 1)), o 4 (.mov kF)]
  (.seq (sQ [oA 9 0 3, oL 10 9, o 11 (.bin .lss (q 10) (kI 0) tI), oM 12 11, og 13 (.fieldAddr 0 (q 3)) 12 false, og 14 (.load false 1 (q 13)) 12 false, og 15 (.bin .gtr (q 14) (kI 1048576) tI) 12 false, o 16 (.pick (q 12) kT (q 15)), oM 17 16, og 18 (.fieldAddr 1 (q 3)) 17 false, og 19 (.load false 1 (q 18)) 17 false, og 20 (.bin .lss (q 19) (kI 0) tI) 17 false, o 21 (.pick (q 17) kT (q 20)), oM 22 21, og 23 (.fieldAddr 1 (q 3)) 22 false, og 24 (.load false 1 (q 23)) 22 false, og 25 (.fieldAddr 0 (q 3)) 22 false, og 26 (.load false 1 (q 25)) 22 false, og 27 (.bin .gtr (q 24) (q 26) tI) 22 false, o 28 (.pick (q 22) kT (q 27))]
  (.cond (q 28)
  (sQ [o 4 (.mov kF)]
  .ret)
  .skip))
  (.seq (sQ [oA 29 2 3, oL 30 29, o 31 (.un .not (q 30))]
  (.cond (q 31)
  (sQ [oA 32 3 3, o 33 (.load true 4 (q 32)), o 34 (.call 44 [.tmp 33]), oM 35 34, og 36 (.fieldAddr 7 (q 3)) 35 true, og 37 (.load true 4 (q 36)) 35 true, og 38 (.call 44 [.tmp 37]) 35 true, o 39 (.pick (q 35) (q 38) kF), oM 4 39]
  .ret)
  .skip))
  (sQ [o 40 (.load true 7 (q 2)), o 41 (.call 21 [.tmp 40]), oM 5 41]
  (sQ [oM 42 5, o 43 (.call 45 [.tmp 42]), oM 6 43]
  (.seq (sQ [oM 44 6, o 45 (.un .not (q 44)), oM 46 45, og 47 (.fieldAddr 1 (q 3)) 46 false, og 48 (.load false 1 (q 47)) 46 false, og 49 (.fieldAddr 0 (q 3)) 46 false, og 50 (.load false 1 (q 49)) 46 false, og 51 (.bin .eql (q 48) (q 50) tI) 46 false, o 52 (.pick (q 46) kT (q 51))]
  (.cond (q 52)
  (sQ [o 4 (.mov kF)]
  .ret)
  .skip))
  (sQ [oM 53 5, oA 54 3 3, o 55 (.load true 4 (q 54)), o 56 (.call 46 [.tmp 53, .tmp 55]), oM 7 56]
  (sQ [oM 57 5, oA 58 7 3, o 59 (.load true 4 (q 58)), o 60 (.call 46 [.tmp 57, .tmp 59]), oM 8 60]
  (sQ [oM 61 7, oM 62 61, og 63 (.mov (q 8)) 62 true, o 64 (.pick (q 62) (q 63) kF), oM 65 64, og 66 (.mov (q 5)) 65 true, og 67 (.fieldAddr 3 (q 3)) 65 true, og 68 (.load true 4 (q 67)) 65 true, og 69 (.fieldAddr 7 (q 3)) 65 true, og 70 (.load true 4 (q 69)) 65 true, og 71 (.call 22 [.tmp 66, .tmp 68, .tmp 70]) 65 true, og 72 (.bin .leq (q 71) (kI 0) tI) 65 true, o 73 (.pick (q 65) (q 72) kF), oM 4 73]
  .ret)))))))))⟩
theorem F20_ok : compF Tryz.prog 20 = some F20 := by kernel_rfl
/-- colonnade/colonnaderef23.kindOf -/
def F21 : FC := ⟨9, [.tmp 2],
  (sQ [o 1 (.box (q 0)), o 2 (.mov (kI 0))]
  (sQ [o 4 (.load true 7 (q 1)), o 5 (.call 47 [.tmp 4]), o 3 (.alloc zbZ), oS 7 3 5]
  (sQ [oA 6 2 3, oA 7 0 6, oL 8 7, oM 2 8]
  .ret)))⟩
theorem F21_ok : compF Tryz.prog 21 = some F21 := by kernel_rfl
/-- colonnade/colonnaderef23.order -/
def F22 : FC := ⟨12, [.tmp 6],
  (sQ [o 4 (.box (q 1)), o 5 (.box (q 2)), o 6 (.mov (kI 0))]
  (sQ [oM 7 0, o 9 (.load true 4 (q 4)), o 10 (.load true 4 (q 5)), o 8 (.call 49 [.tmp 7]), ⟨none, .again 10 true 4 (q 5), none⟩, ⟨none, .again 9 true 4 (q 4), none⟩, o 11 (.call 48 [.tmp 8, .tmp 9, .tmp 10]), oM 6 11]
  .ret))⟩
theorem F22_ok : compF Tryz.prog 22 = some F22 := by kernel_rfl
/-- colonnade/colonnaderef04.Same -/
def F23 : FC := ⟨55, [.tmp 4],
  (sQ [o 2 (.box (q 0)), o 3 (.box (q 1)), o 4 (.mov kF)]
  (.seq (sQ [oA 7 0 2, oL 8 7, oA 9 0 3, oL 10 9, o 11 (.bin .neq (q 8) (q 10) (some .bool)), oM 12 11, og 13 (.fieldAddr 1 (q 2)) 12 false, og 14 (.load false 1 (q 13)) 12 false, og 15 (.fieldAddr 1 (q 3)) 12 false, og 16 (.load false 1 (q 15)) 12 false, og 17 (.bin .neq (q 14) (q 16) tI) 12 false, o 18 (.pick (q 12) kT (q 17)), oM 19 18, og 20 (.fieldAddr 2 (q 2)) 19 false, og 21 (.load false 1 (q 20)) 19 false, og 22 (.fieldAddr 2 (q 3)) 19 false, og 23 (.load false 1 (q 22)) 19 false, og 24 (.bin .neq (q 21) (q 23) (some .string)) 19 false, o 25 (.pick (q 19) kT (q 24)), oM 26 25, og 27 (.fieldAddr 3 (q 2)) 26 false, og 28 (.load false 1 (q 27)) 26 false, og 29 (.len 1 (q 28)) 26 false, og 30 (.fieldAddr 3 (q 3)) 26 false, og 31 (.load false 1 (q 30)) 26 false, og 32 (.len 1 (q 31)) 26 false, og 33 (.bin .neq (q 29) (q 32) tI) 26 false, o 34 (.pick (q 26) kT (q 33))]
  (.cond (q 34)
  (sQ [o 4 (.mov kF)]
  .ret)
  .skip))
  (.seq (sQ [o 5 (.mov (kI 0))]
  (.block 0 (.loop (.seq (sQ [oM 35 5, oA 36 3 2, oL 37 36, o 38 (.len 1 (q 37)), o 39 (.bin .lss (q 35) (q 38) tI)]
  (.cond (q 39)
  .skip
  (.exit 0)))
  (.seq (.block 1 (sQ [oA 42 3 2, oL 43 42, oM 44 5, o 45 (.indexAddr 4 (q 43) (q 44)), o 46 (.load true 4 (q 45)), oA 47 3 3, oL 48 47, oM 49 5, o 50 (.indexAddr 4 (q 48) (q 49)), o 51 (.load true 4 (q 50)), o 52 (.call 23 [.tmp 46, .tmp 51]), oM 6 52]
  (sQ [oM 53 6, o 54 (.un .not (q 53))]
  (.cond (q 54)
  (sQ [o 4 (.mov kF)]
  .ret)
  .skip))))
  (.ops [oM 40 5, o 41 (.bin .add (q 40) (kI 1) tI), oM 5 41]))))))
  (sQ [o 4 (.mov kT)]
  .ret))))⟩
theorem F23_ok : compF Tryz.prog 23 = some F23 := by kernel_rfl
/-- colonnade/stats.Of -/
def F24 : FC := ⟨99, [.cell 4 true 11, .tmp 5],
  (sQ [o 2 (.box (q 0)), o 3 (.box (q 1)), o 4 (.alloc zaZ), o 5 (.mov (kI 0))]
  (.seq (sQ [o 15 (.load true 7 (q 2)), o 16 (.call 15 [.tmp 15]), o 17 (.field false 0 1 (q 16)), o 18 (.bin .neq (q 17) (kI 0) tI)]
  (.cond (q 18)
  (sQ [o 19 (.build zaZ []), oS 11 4 19, o 5 (.mov (kI 5))]
  .ret)
  .skip))
  (sQ [o 21 (.load true 7 (q 2)), o 22 (.load true 6 (q 3)), o 23 (.call 50 [.tmp 21, .tmp 22]), oM 20 23, o 24 (.extract (q 20) 0), o 25 (.extract (q 20) 1), o 7 (.alloc [.int .i64 0, .slice none 0 0, .int .i64 0]), oM 6 24, oS 3 7 25]
  (.seq (sQ [oA 26 0 7, oL 27 26, o 28 (.bin .neq (q 27) (kI 0) tI)]
  (.cond (q 28)
  (sQ [o 29 (.build zaZ []), oA 30 0 7, oL 31 30, oS 11 4 29, ⟨none, .again 31 false 1 (q 30), none⟩, oM 5 31]
  .ret)
  .skip))
  (sQ [o 32 (.load true 7 (q 2)), o 33 (.call 17 [.tmp 32]), o 8 (.alloc zbZ), oS 7 8 33]
  (sQ [oM 34 6, o 35 (.call 51 [.tmp 34]), o 36 (.build zaZ [(0, 1, (q 35))]), o 9 (.alloc zaZ), oS 11 9 36]
  (sQ [o 37 (.build zcZ []), o 38 (.build zcZ []), o 10 (.alloc zcZ), o 11 (.alloc zcZ), oS 4 10 37, oS 4 11 38]
  (sQ [o 12 (.alloc [.bool false]), ⟨none, .store 1 (q 12) kF, none⟩]
  (.seq (sQ [oM 39 6, o 40 (.call 52 [.tmp 39])]
  (.block 0 (.rf (q 40) [41, 42]
  (.ops [o 14 (.alloc zcZ), oS 4 14 42])
  (.block 1 (.seq (sQ [oA 43 0 14, oL 44 43]
  (.cond (q 44)
  (sQ [oA 45 1 9, oL 46 45, o 47 (.bin .add (q 46) (kI 1) tI), oA 48 1 9, oS 1 48 47]
  (.exit 1))
  .skip))
  (.seq (sQ [oA 49 2 8, oA 50 0 49, oL 51 50, o 52 (.call 38 [.tmp 51]), o 53 (.un .not (q 52))]
  (.cond (q 53)
  (.exit 1)
  .skip))
  (.seq (sQ [oL 54 12, o 55 (.un .not (q 54)), oM 56 55, og 57 (.load true 7 (q 8)) 56 false, og 58 (.load true 4 (q 14)) 56 false, og 59 (.load true 4 (q 10)) 56 false, og 60 (.call 18 [.tmp 57, .tmp 58, .tmp 59]) 56 false, og 61 (.bin .lss (q 60) (kI 0) tI) 56 false, o 62 (.pick (q 56) kT (q 61))]
  (.cond (q 62)
  (.ops [o 63 (.load true 4 (q 14)), oS 4 10 63])
  .skip))
  (.seq (sQ [oL 64 12, o 65 (.un .not (q 64)), oM 66 65, og 67 (.load true 7 (q 8)) 66 false, og 68 (.load true 4 (q 14)) 66 false, og 69 (.load true 4 (q 11)) 66 false, og 70 (.call 18 [.tmp 67, .tmp 68, .tmp 69]) 66 false, og 71 (.bin .gtr (q 70) (kI 0) tI) 66 false, o 72 (.pick (q 66) kT (q 71))]
  (.cond (q 72)
  (.ops [o 73 (.load true 4 (q 14)), oS 4 11 73])
  .skip))
  (.ops [⟨none, .store 1 (q 12) kT, none⟩])))))))))
  (.seq (sQ [oL 74 12, oM 75 74, og 76 (.fieldAddr 2 (q 8)) 75 true, og 77 (.fieldAddr 0 (q 76)) 75 true, og 78 (.load false 1 (q 77)) 75 true, og 79 (.call 40 [.tmp 78]) 75 true, o 80 (.pick (q 75) (q 79) kF)]
  (.cond (q 80)
  (sQ [oA 81 2 10, oL 82 81, o 83 (.call 53 [.tmp 82]), oA 84 2 10, oS 1 84 83]
  (.ops [oA 86 2 11, oL 87 86, o 88 (.call 54 [.tmp 87]), oM 85 88, o 89 (.extract (q 85) 0), o 90 (.extract (q 85) 1), oA 91 2 11, oS 1 91 89, oS 1 12 90]))
  .skip))
  (.seq (sQ [oL 92 12]
  (.cond (q 92)
  (.ops [o 93 (.load true 4 (q 10)), o 94 (.load true 4 (q 11)), oA 95 2 9, ⟨none, .store 1 (q 95) kT, none⟩, ⟨none, .again 94 true 4 (q 11), none⟩, ⟨none, .again 93 true 4 (q 10), none⟩, oA 96 3 9, oS 4 96 93, ⟨none, .again 94 true 4 (q 11), none⟩, oA 97 7 9, oS 4 97 94])
  .skip))
  (sQ [o 98 (.load true 11 (q 9)), oS 11 4 98, o 5 (.mov (kI 0))]
  .ret))))))))))))⟩
theorem F24_ok : compF Tryz.prog 24 = some F24 := by kernel_rfl
/-- colonnade/colonnaderef03.Check -/
def F28 : FC := ⟨61, [.cell 2 true 3],
  (sQ [o 1 (.box (q 0)), o 2 (.alloc [.int .i64 0, .slice none 0 0, .int .i64 0])]
  (.seq (sQ [oA 8 0 1, oL 9 8, o 10 (.len 1 (q 9)), o 11 (.bin .gtr (q 10) (kI 32) tI)]
  (.cond (q 11)
  (sQ [o 12 (.build [.int .i64 0, .slice none 0 0, .int .i64 0] [(0, 1, (kI 34)), (2, 1, (kI 32))]), oS 3 2 12]
  .ret)
  .skip))
  (.seq (sQ [oA 13 1 1, oL 14 13, o 15 (.len 1 (q 14)), o 16 (.bin .gtr (q 15) (kI 16) tI)]
  (.cond (q 16)
  (sQ [o 17 (.build [.int .i64 0, .slice none 0 0, .int .i64 0] [(0, 1, (kI 34)), (2, 1, (kI 16))]), oS 3 2 17]
  .ret)
  .skip))
  (.seq (sQ [oA 18 1 1, oL 19 18, o 20 (.len 1 (q 19)), o 21 (.mov (kI 0))]
  (.block 0 (.loop (sQ [o 22 (.bin .lss (q 21) (q 20) tI)]
  (.seq (.cond (q 22)
  .skip
  (.exit 0))
  (.seq (.block 1 (sQ [oM 23 21, o 24 (.indexAddr 2 (q 19) (q 21)), o 25 (.load true 2 (q 24)), o 4 (.alloc [(.string ⟨#[]⟩), (.string ⟨#[]⟩)]), oM 3 23, oS 2 4 25]
  (sQ [oA 26 0 4, oL 27 26, o 28 (.len 0 (q 27)), o 29 (.bin .gtr (q 28) (kI 256) tI), oM 30 29, og 31 (.fieldAddr 1 (q 4)) 30 false, og 32 (.load false 1 (q 31)) 30 false, og 33 (.len 0 (q 32)) 30 false, og 34 (.bin .gtr (q 33) (kI 256) tI) 30 false, o 35 (.pick (q 30) kT (q 34))]
  (.cond (q 35)
  (sQ [oM 36 3, o 37 (.build [.int .i64 0, .slice none 0 0, .int .i64 0] [(0, 1, (kI 37)), (2, 1, (q 36))]), oS 3 2 37]
  .ret)
  .skip))))
  (.ops [o 38 (.bin .add (q 21) (kI 1) tI), oM 21 38])))))))
  (sQ [oA 39 0 1, oL 40 39, o 41 (.call 55 [.tmp 40, (.const (.slice none 0 0)), kF, (.const (.slice none 0 0))]), oM 5 41]
  (.seq (sQ [oM 42 5, o 43 (.len 1 (q 42)), o 44 (.mov (kI 0))]
  (.block 2 (.loop (sQ [o 45 (.bin .lss (q 44) (q 43) tI)]
  (.seq (.cond (q 45)
  .skip
  (.exit 2))
  (.seq (.block 3 (sQ [oM 46 44, oM 6 46]
  (sQ [oM 47 5, oM 48 6, o 49 (.call 56 [.tmp 47, .tmp 48]), oM 7 49]
  (sQ [oM 50 7, o 51 (.bin .neq (q 50) (kI 0) tI)]
  (.cond (q 51)
  (sQ [oM 52 7, oM 53 5, oM 54 6, o 55 (.indexAddr 10 (q 53) (q 54)), oA 56 0 55, oL 57 56, o 58 (.build [.int .i64 0, .slice none 0 0, .int .i64 0] [(0, 1, (q 52)), (1, 1, (q 57))]), oS 3 2 58]
  .ret)
  .skip)))))
  (.ops [o 59 (.bin .add (q 44) (kI 1) tI), oM 44 59])))))))
  (sQ [o 60 (.build [.int .i64 0, .slice none 0 0, .int .i64 0] []), oS 3 2 60]
  .ret)))))))⟩
theorem F28_ok : compF Tryz.prog 28 = some F28 := by kernel_rfl
/-- colonnade/kind.Check -/
def F31 : FC := ⟨71, [.cell 2 true 3],
  (sQ [o 1 (.box (q 0)), o 2 (.alloc [.int .i64 0, .slice none 0 0, .int .i64 0])]
  (.seq (.block 0 (sQ [oA 10 0 1, oL 11 10, o 12 (.len 1 (q 11)), o 13 (.bin .gtr (q 12) (kI 32) tI), oM 9 13]
  (.cond (q 9)
  (sQ [o 14 (.build [.int .i64 0, .slice none 0 0, .int .i64 0] [(0, 1, (kI 34)), (2, 1, (kI 32))]), oS 3 2 14]
  .ret)
  (sQ [oA 16 1 1, oL 17 16, o 18 (.len 1 (q 17)), o 19 (.bin .gtr (q 18) (kI 16) tI), oM 15 19]
  (.cond (q 15)
  (sQ [o 20 (.build [.int .i64 0, .slice none 0 0, .int .i64 0] [(0, 1, (kI 34)), (2, 1, (kI 16))]), oS 3 2 20]
  .ret)
  .skip)))))
  (.seq (sQ [oA 21 1 1, oL 22 21, o 23 (.len 1 (q 22)), o 24 (.mov (kI 0))]
  (.block 1 (.loop (sQ [o 25 (.bin .lss (q 24) (q 23) tI)]
  (.seq (.cond (q 25)
  .skip
  (.exit 1))
  (.seq (.block 2 (sQ [oM 26 24, o 27 (.indexAddr 2 (q 22) (q 24)), o 28 (.load true 2 (q 27)), o 4 (.alloc [(.string ⟨#[]⟩), (.string ⟨#[]⟩)]), oM 3 26, oS 2 4 28]
  (sQ [oA 29 0 4, oL 30 29, o 31 (.len 0 (q 30)), o 32 (.bin .gtr (q 31) (kI 256) tI), oM 33 32, og 34 (.fieldAddr 1 (q 4)) 33 false, og 35 (.load false 1 (q 34)) 33 false, og 36 (.len 0 (q 35)) 33 false, og 37 (.bin .gtr (q 36) (kI 256) tI) 33 false, o 38 (.pick (q 33) kT (q 37))]
  (.cond (q 38)
  (sQ [oM 39 3, o 40 (.build [.int .i64 0, .slice none 0 0, .int .i64 0] [(0, 1, (kI 37)), (2, 1, (q 39))]), oS 3 2 40]
  .ret)
  .skip))))
  (.ops [o 41 (.bin .add (q 24) (kI 1) tI), oM 24 41])))))))
  (sQ [o 5 (.alloc [.int .i64 0]), ⟨none, .store 1 (q 5) (kI 0), none⟩]
  (sQ [o 42 (.mkMap), o 6 (.alloc [.map none]), oS 1 6 42]
  (.seq (sQ [oA 43 0 1, oL 44 43, o 45 (.call 58 [.tmp 44, (kI 65)])]
  (.block 3 (.rf (q 45) [46]
  (.ops [o 7 (.alloc zdZ), oS 10 7 46])
  (.block 4 (.seq (sQ [o 47 (.load true 10 (q 7)), oL 48 5, oL 49 6, o 50 (.call 59 [.tmp 47, .tmp 48, .tmp 49]), oM 8 50]
  (sQ [oM 51 8, o 52 (.bin .neq (q 51) (kI 0) tI)]
  (.cond (q 52)
  (sQ [oM 53 8, oA 54 0 7, oL 55 54, o 56 (.build [.int .i64 0, .slice none 0 0, .int .i64 0] [(0, 1, (q 53)), (1, 1, (q 55))]), oS 3 2 56]
  .ret)
  .skip)))
  (sQ [oL 57 5, o 58 (.bin .add (q 57) (kI 1) tI), oS 1 5 58]
  (sQ [oA 59 2 7, oA 60 2 59, oA 61 0 60, oL 62 61, o 63 (.bin .eql (q 62) (kI 19) tI)]
  (.cond (q 63)
  (.ops [oL 64 6, oA 65 2 7, oA 66 2 65, oA 67 2 66, oL 68 67, oL 69 5, ⟨none, .mapSet 0 (q 64) (q 68) (q 69), none⟩])
  .skip))))))))
  (sQ [o 70 (.build [.int .i64 0, .slice none 0 0, .int .i64 0] []), oS 3 2 70]
  .ret)))))))⟩
theorem F31_ok : compF Tryz.prog 31 = some F31 := by kernel_rfl
/-- colonnade/stats.isNone -/
def F37 : FC := ⟨22, [.tmp 2],
  (sQ [o 1 (.box (q 0)), o 2 (.mov kF)]
  (sQ [oA 3 0 1, oL 4 3, o 5 (.un .not (q 4)), oM 6 5, og 7 (.fieldAddr 1 (q 1)) 6 true, og 8 (.load false 1 (q 7)) 6 true, og 9 (.bin .eql (q 8) (kI 0) tI) 6 true, o 10 (.pick (q 6) (q 9) kF), oM 11 10, og 12 (.fieldAddr 2 (q 1)) 11 true, og 13 (.load false 1 (q 12)) 11 true, ⟨some 14, .bin .eql (q 13) (.const (.string ⟨#[]⟩)) (some .string), some (11, true)⟩, o 15 (.pick (q 11) (q 14) kF), oM 16 15, og 17 (.fieldAddr 3 (q 1)) 16 true, og 18 (.load false 1 (q 17)) 16 true, og 19 (.len 1 (q 18)) 16 true, og 20 (.bin .eql (q 19) (kI 0) tI) 16 true, o 21 (.pick (q 16) (q 20) kF), oM 2 21]
  .ret))⟩
theorem F37_ok : compF Tryz.prog 37 = some F37 := by kernel_rfl
/-- colonnade/stats.hasBounds -/
def F38 : FC := ⟨9, [.tmp 2],
  (sQ [o 2 (.mov kF)]
  (sQ [oM 3 0, o 4 (.bin .geq (q 3) (kI 2) tI), oM 5 4, og 6 (.mov (q 0)) 5 true, og 7 (.bin .leq (q 6) (kI 14) tI) 5 true, o 8 (.pick (q 5) (q 7) kF), oM 2 8]
  .ret))⟩
theorem F38_ok : compF Tryz.prog 38 = some F38 := by kernel_rfl
/-- colonnade/stats.isBound -/
def F39 : FC := ⟨32, [.tmp 4],
  (sQ [o 2 (.box (q 0)), o 3 (.box (q 1)), o 4 (.mov kF)]
  (.seq (sQ [oA 5 0 3, oL 6 5, oM 7 6, og 8 (.fieldAddr 3 (q 3)) 7 false, og 9 (.load false 1 (q 8)) 7 false, og 10 (.len 1 (q 9)) 7 false, og 11 (.bin .gtr (q 10) (kI 0) tI) 7 false, o 12 (.pick (q 7) kT (q 11))]
  (.cond (q 12)
  (sQ [o 4 (.mov kF)]
  .ret)
  .skip))
  (.seq (sQ [oA 13 2 2, oA 14 0 13, oL 15 14, o 16 (.call 40 [.tmp 15])]
  (.cond (q 16)
  (sQ [oA 17 1 3, oL 18 17, o 19 (.bin .eql (q 18) (kI 0) tI), oM 20 19, og 21 (.fieldAddr 2 (q 3)) 20 true, og 22 (.load false 1 (q 21)) 20 true, og 23 (.len 0 (q 22)) 20 true, og 24 (.bin .leq (q 23) (kI 16) tI) 20 true, o 25 (.pick (q 20) (q 24) kF), oM 4 25]
  .ret)
  .skip))
  (sQ [oA 26 2 2, o 27 (.load true 5 (q 26)), o 28 (.build zbZ [(0, 1, (.const (.string ⟨#[97]⟩))), (2, 5, (q 27))]), o 29 (.load true 4 (q 3)), o 30 (.call 62 [.tmp 28, .tmp 29]), o 31 (.bin .eql (q 30) (kI 0) tI), oM 4 31]
  .ret))))⟩
theorem F39_ok : compF Tryz.prog 39 = some F39 := by kernel_rfl
/-- colonnade/stats.isText -/
def F40 : FC := ⟨9, [.tmp 2],
  (sQ [o 2 (.mov kF)]
  (sQ [oM 3 0, o 4 (.bin .geq (q 3) (kI 12) tI), oM 5 4, og 6 (.mov (q 0)) 5 true, og 7 (.bin .leq (q 6) (kI 14) tI) 5 true, o 8 (.pick (q 5) (q 7) kF), oM 2 8]
  .ret))⟩
theorem F40_ok : compF Tryz.prog 40 = some F40 := by kernel_rfl
/-- colonnade/value.Compare -/
def F42 : FC := ⟨27, [.tmp 6, .tmp 7],
  (sQ [o 3 (.box (q 0)), o 4 (.box (q 1)), o 5 (.box (q 2)), o 6 (.mov (kI 0)), o 7 (.mov (kI 0))]
  (.seq (.block 0 (sQ [o 9 (.load true 7 (q 3)), o 10 (.call 64 [.tmp 9]), o 11 (.un .not (q 10)), oM 8 11]
  (.cond (q 8)
  (sQ [o 6 (.mov (kI 0)), o 7 (.mov (kI 5))]
  .ret)
  (sQ [o 13 (.load true 7 (q 3)), o 14 (.load true 4 (q 4)), o 15 (.call 65 [.tmp 13, .tmp 14]), o 16 (.un .not (q 15)), oM 17 16, og 18 (.load true 7 (q 3)) 17 false, og 19 (.load true 4 (q 5)) 17 false, og 20 (.call 65 [.tmp 18, .tmp 19]) 17 false, og 21 (.un .not (q 20)) 17 false, o 22 (.pick (q 17) kT (q 21)), oM 12 22]
  (.cond (q 12)
  (sQ [o 6 (.mov (kI 0)), o 7 (.mov (kI 7))]
  .ret)
  .skip)))))
  (sQ [o 23 (.load true 7 (q 3)), o 24 (.load true 4 (q 4)), o 25 (.load true 4 (q 5)), o 26 (.call 66 [.tmp 23, .tmp 24, .tmp 25]), oM 6 26, o 7 (.mov (kI 0))]
  .ret)))⟩
theorem F42_ok : compF Tryz.prog 42 = some F42 := by kernel_rfl
/-- colonnade/colonnaderef03.CheckField -/
def F43 : FC := ⟨17, [.cell 2 true 3],
  (sQ [o 1 (.box (q 0)), o 2 (.alloc [.int .i64 0, .slice none 0 0, .int .i64 0])]
  (sQ [o 4 (.load true 7 (q 1)), o 5 (.buildSlice 7 1 zbZ [(0, 7, (q 4))]), o 6 (.build [.slice none 0 0, .slice none 0 0] [(0, 1, (q 5))]), o 7 (.call 28 [.tmp 6]), o 3 (.alloc [.int .i64 0, .slice none 0 0, .int .i64 0]), oS 3 3 7]
  (.seq (sQ [oA 8 1 3, oL 9 8, o 10 (.len 1 (q 9)), o 11 (.bin .gtr (q 10) (kI 0) tI)]
  (.cond (q 11)
  (.ops [oA 12 1 3, oL 13 12, o 14 (.slice 1 (q 13) (some (kI 1)) none none), oA 15 1 3, oS 1 15 14])
  .skip))
  (sQ [o 16 (.load true 3 (q 3)), oS 3 2 16]
  .ret))))⟩
theorem F43_ok : compF Tryz.prog 43 = some F43 := by kernel_rfl
/-- colonnade/colonnaderef23.zero -/
def F44 : FC := ⟨22, [.tmp 2],
  (sQ [o 1 (.box (q 0)), o 2 (.mov kF)]
  (sQ [oA 3 0 1, oL 4 3, o 5 (.un .not (q 4)), oM 6 5, og 7 (.fieldAddr 1 (q 1)) 6 true, og 8 (.load false 1 (q 7)) 6 true, og 9 (.bin .eql (q 8) (kI 0) tI) 6 true, o 10 (.pick (q 6) (q 9) kF), oM 11 10, og 12 (.fieldAddr 2 (q 1)) 11 true, og 13 (.load false 1 (q 12)) 11 true, ⟨some 14, .bin .eql (q 13) (.const (.string ⟨#[]⟩)) (some .string), some (11, true)⟩, o 15 (.pick (q 11) (q 14) kF), oM 16 15, og 17 (.fieldAddr 3 (q 1)) 16 true, og 18 (.load false 1 (q 17)) 16 true, og 19 (.len 1 (q 18)) 16 true, og 20 (.bin .eql (q 19) (kI 0) tI) 16 true, o 21 (.pick (q 16) (q 20) kF), oM 2 21]
  .ret))⟩
theorem F44_ok : compF Tryz.prog 44 = some F44 := by kernel_rfl
/-- colonnade/colonnaderef23.Bounded -/
def F45 : FC := ⟨17, [.tmp 2],
  (sQ [o 2 (.mov kF)]
  (sQ [oM 3 0, o 4 (.bin .eql (q 3) (kI 2) tI), oM 5 4, og 6 (.mov (q 0)) 5 false, og 7 (.bin .geq (q 6) (kI 3) tI) 5 false, og 8 (.mov (q 7)) 5 false, og 9 (.mov (q 0)) 8 true, og 10 (.bin .leq (q 9) (kI 11) tI) 8 true, og 11 (.pick (q 8) (q 10) kF) 5 false, o 12 (.pick (q 5) kT (q 11)), oM 13 12, og 14 (.mov (q 0)) 13 false, og 15 (.call 57 [.tmp 14]) 13 false, o 16 (.pick (q 13) kT (q 15)), oM 2 16]
  .ret))⟩
theorem F45_ok : compF Tryz.prog 45 = some F45 := by kernel_rfl
/-- colonnade/colonnaderef23.bound -/
def F46 : FC := ⟨33, [.tmp 4],
  (sQ [o 3 (.box (q 1)), o 4 (.mov kF)]
  (.seq (sQ [oA 5 0 3, oL 6 5, oM 7 6, og 8 (.fieldAddr 3 (q 3)) 7 false, og 9 (.load false 1 (q 8)) 7 false, og 10 (.len 1 (q 9)) 7 false, og 11 (.bin .gtr (q 10) (kI 0) tI) 7 false, o 12 (.pick (q 7) kT (q 11))]
  (.cond (q 12)
  (sQ [o 4 (.mov kF)]
  .ret)
  .skip))
  (.seq (sQ [oM 13 0, o 14 (.call 57 [.tmp 13])]
  (.cond (q 14)
  (sQ [oA 15 1 3, oL 16 15, o 17 (.bin .eql (q 16) (kI 0) tI), oM 18 17, og 19 (.fieldAddr 2 (q 3)) 18 true, og 20 (.load false 1 (q 19)) 18 true, og 21 (.len 0 (q 20)) 18 true, og 22 (.bin .leq (q 21) (kI 16) tI) 18 true, o 23 (.pick (q 18) (q 22) kF), oM 4 23]
  .ret)
  .skip))
  (sQ [oA 24 2 3, oL 25 24, o 26 (.bin .eql (q 25) (.const (.string ⟨#[]⟩)) (some .string)), oM 27 26, og 28 (.mov (q 0)) 27 true, og 30 (.load true 4 (q 3)) 27 true, og 29 (.call 49 [.tmp 28]) 27 true, ⟨none, .again 30 true 4 (q 3), some (27, true)⟩, og 31 (.call 67 [.tmp 29, .tmp 30]) 27 true, o 32 (.pick (q 27) (q 31) kF), oM 4 32]
  .ret))))⟩
theorem F46_ok : compF Tryz.prog 46 = some F46 := by kernel_rfl
/-- colonnade/colonnaderef17.Plain -/
def F47 : FC := ⟨43, [.cell 2 true 7],
  (sQ [o 1 (.box (q 0)), o 2 (.alloc zbZ)]
  (.seq (.block 0 (.loop (.seq (sQ [oA 5 2 1, oA 6 0 5, oL 7 6, o 8 (.bin .eql (q 7) (kI 19) tI), oM 9 8, og 10 (.fieldAddr 2 (q 1)) 9 false, og 11 (.fieldAddr 0 (q 10)) 9 false, og 12 (.load false 1 (q 11)) 9 false, og 13 (.bin .eql (q 12) (kI 20) tI) 9 false, o 14 (.pick (q 9) kT (q 13)), oM 15 14, og 16 (.fieldAddr 2 (q 1)) 15 true, og 17 (.fieldAddr 4 (q 16)) 15 true, og 18 (.load false 1 (q 17)) 15 true, og 19 (.len 1 (q 18)) 15 true, og 20 (.bin .eql (q 19) (kI 1) tI) 15 true, o 21 (.pick (q 15) (q 20) kF)]
  (.cond (q 21)
  .skip
  (.exit 0)))
  (.block 1 (sQ [oA 22 2 1, oA 23 4 22, oL 24 23, o 25 (.indexAddr 7 (q 24) (kI 0)), o 26 (.load true 7 (q 25)), o 3 (.alloc zbZ), oS 7 3 26]
  (sQ [oA 27 0 1, oL 28 27, oA 29 1 3, oL 30 29, oA 31 2 3, o 32 (.load true 5 (q 31)), o 33 (.build zbZ [(0, 1, (q 28)), (1, 1, (q 30)), (2, 5, (q 32))]), o 4 (.alloc zbZ), oS 7 4 33]
  (.seq (sQ [oA 34 2 1, oA 35 0 34, oL 36 35, o 37 (.bin .eql (q 36) (kI 19) tI)]
  (.cond (q 37)
  (.ops [oA 38 1 1, oL 39 38, oA 40 1 4, oS 1 40 39])
  .skip))
  (.ops [o 41 (.load true 7 (q 4)), oS 7 1 41]))))))))
  (sQ [o 42 (.load true 7 (q 1)), oS 7 2 42]
  .ret)))⟩
theorem F47_ok : compF Tryz.prog 47 = some F47 := by kernel_rfl
end Go.Proofs.YtecephhhjhpcjaaGreatDoor.Stats
end
section
set_option linter.unusedVariables false
namespace Go.Proofs.YtecephhhjhpcjaaGreatDoor.Stats
open Go Go.Proofs.YtecephhhjhpcjaaGreatDoor Go.Proofs.YtecephhhjhpcjaaGreatDoor.Em
/-- colonnade/colonnaderef04.Order -/
def F48 : FC := ⟨146, [.tmp 6],
  (sQ [o 3 (.box (q 0)), o 4 (.box (q 1)), o 5 (.box (q 2)), o 6 (.mov (kI 0))]
  (sQ [oA 8 2 3, o 9 (.load true 5 (q 8)), o 7 (.alloc [.int .i64 0, .int .i64 0, .int .i64 0, .int .i64 0, .slice none 0 0]), oS 5 7 9]
  (.seq (sQ [oA 10 0 4, oL 11 10, oM 12 11, og 13 (.fieldAddr 0 (q 5)) 12 false, og 14 (.load false 1 (q 13)) 12 false, o 15 (.pick (q 12) kT (q 14))]
  (.cond (q 15)
  (sQ [oA 16 0 4, oL 17 16, oM 18 17, og 19 (.fieldAddr 0 (q 5)) 18 true, og 20 (.load false 1 (q 19)) 18 true, og 21 (.un .not (q 20)) 18 true, o 22 (.pick (q 18) (q 21) kF), oA 23 0 5, oL 24 23, oM 25 24, og 26 (.fieldAddr 0 (q 4)) 25 true, og 27 (.load false 1 (q 26)) 25 true, og 28 (.un .not (q 27)) 25 true, o 29 (.pick (q 25) (q 28) kF), o 30 (.call 68 [.tmp 22, .tmp 29]), oM 6 30]
  .ret)
  .skip))
  (.seq (sQ [oA 31 0 7, oL 32 31]
  (.block 0 (.seq (sQ [o 34 (.bin .eql (q 32) (kI 19) tI), oM 33 34]
  (.cond (q 33)
  .skip
  (.ops [o 35 (.bin .eql (q 32) (kI 20) tI), oM 33 35])))
  (.cond (q 33)
  (sQ [oA 36 4 7, oL 37 36, o 38 (.indexAddr 7 (q 37) (kI 0)), o 39 (.load true 7 (q 38)), o 40 (.load true 4 (q 4)), o 41 (.load true 4 (q 5)), o 42 (.call 48 [.tmp 39, .tmp 40, .tmp 41]), oM 6 42]
  .ret)
  (sQ [o 44 (.bin .eql (q 32) (kI 10) tI), oM 43 44]
  (.cond (q 43)
  (sQ [oA 45 1 4, oL 46 45, o 47 (.conv .u64 (q 46)), oA 48 1 5, oL 49 48, o 50 (.conv .u64 (q 49)), o 51 (.bin .lss (q 47) (q 50) (some (.int .u64))), oA 52 1 4, oL 53 52, o 54 (.conv .u64 (q 53)), oA 55 1 5, oL 56 55, o 57 (.conv .u64 (q 56)), o 58 (.bin .gtr (q 54) (q 57) (some (.int .u64))), o 59 (.call 68 [.tmp 51, .tmp 58]), oM 6 59]
  .ret)
  (sQ [o 61 (.bin .eql (q 32) (kI 11) tI), oM 60 61]
  (.cond (q 60)
  (sQ [oA 62 1 4, oL 63 62, oA 65 1 5, oL 66 65, oA 69 1 4, oL 70 69, oA 72 1 5, oL 73 72, o 64 (.call 69 [.tmp 63]), ⟨none, .again 73 false 1 (q 72), none⟩, ⟨none, .again 70 false 1 (q 69), none⟩, ⟨none, .again 66 false 1 (q 65), none⟩, o 67 (.call 69 [.tmp 66]), ⟨none, .again 73 false 1 (q 72), none⟩, ⟨none, .again 70 false 1 (q 69), none⟩, o 68 (.bin .lss (q 64) (q 67) (some (.int .u64))), o 71 (.call 69 [.tmp 70]), ⟨none, .again 73 false 1 (q 72), none⟩, o 74 (.call 69 [.tmp 73]), o 75 (.bin .gtr (q 71) (q 74) (some (.int .u64))), o 76 (.call 68 [.tmp 68, .tmp 75]), oM 6 76]
  .ret)
  (.seq (sQ [o 78 (.bin .eql (q 32) (kI 12) tI), oM 77 78]
  (.cond (q 77)
  .skip
  (sQ [o 79 (.bin .eql (q 32) (kI 13) tI), oM 77 79]
  (.cond (q 77)
  .skip
  (.ops [o 80 (.bin .eql (q 32) (kI 14) tI), oM 77 80])))))
  (.cond (q 77)
  (sQ [oA 81 2 4, oL 82 81, oA 83 2 5, oL 84 83, o 85 (.bin .lss (q 82) (q 84) (some .string)), oA 86 2 4, oL 87 86, oA 88 2 5, oL 89 88, o 90 (.bin .gtr (q 87) (q 89) (some .string)), o 91 (.call 68 [.tmp 85, .tmp 90]), oM 6 91]
  .ret)
  (sQ [o 93 (.bin .eql (q 32) (kI 18) tI), oM 92 93]
  (.cond (q 92)
  (.seq (sQ [oA 94 1 4, oL 95 94, oA 96 1 5, oL 97 96, o 98 (.bin .neq (q 95) (q 97) tI)]
  (.cond (q 98)
  (sQ [oA 99 1 4, oL 100 99, oA 101 1 5, oL 102 101, o 103 (.bin .lss (q 100) (q 102) tI), oA 104 1 4, oL 105 104, oA 106 1 5, oL 107 106, o 108 (.bin .gtr (q 105) (q 107) tI), o 109 (.call 68 [.tmp 103, .tmp 108]), oM 6 109]
  .ret)
  .skip))
  (sQ [oA 110 4 7, oL 111 110, oA 112 1 4, oL 113 112, o 114 (.indexAddr 7 (q 111) (q 113)), o 115 (.load true 7 (q 114)), oA 116 3 4, oL 117 116, o 118 (.indexAddr 4 (q 117) (kI 0)), o 119 (.load true 4 (q 118)), oA 120 3 5, oL 121 120, o 122 (.indexAddr 4 (q 121) (kI 0)), o 123 (.load true 4 (q 122)), o 124 (.call 48 [.tmp 115, .tmp 119, .tmp 123]), oM 6 124]
  .ret))
  (.seq (sQ [o 126 (.bin .eql (q 32) (kI 15) tI), oM 125 126]
  (.cond (q 125)
  .skip
  (sQ [o 127 (.bin .eql (q 32) (kI 16) tI), oM 125 127]
  (.cond (q 125)
  .skip
  (.ops [o 128 (.bin .eql (q 32) (kI 17) tI), oM 125 128])))))
  (.cond (q 125)
  (sQ [o 129 (.load true 5 (q 7)), oA 130 3 4, oL 131 130, oA 132 3 5, oL 133 132, o 134 (.call 70 [.tmp 129, .tmp 131, .tmp 133]), oM 6 134]
  .ret)
  .skip))))))))))))))
  (sQ [oA 135 1 4, oL 136 135, oA 137 1 5, oL 138 137, o 139 (.bin .lss (q 136) (q 138) tI), oA 140 1 4, oL 141 140, oA 142 1 5, oL 143 142, o 144 (.bin .gtr (q 141) (q 143) tI), o 145 (.call 68 [.tmp 139, .tmp 144]), oM 6 145]
  .ret)))))⟩
theorem F48_ok : compF Tryz.prog 48 = some F48 := by kernel_rfl
/-- colonnade/colonnaderef23.simple -/
def F49 : FC := ⟨8, [.cell 2 true 7],
  (sQ [o 2 (.alloc zbZ)]
  (.seq (sQ [oM 3 0, o 4 (.call 57 [.tmp 3])]
  (.cond (q 4)
  (.ops [o 0 (.mov (kI 13))])
  .skip))
  (sQ [oM 5 0, o 6 (.build [.int .i64 0, .int .i64 0, .int .i64 0, .int .i64 0, .slice none 0 0] [(0, 1, (q 5))]), o 7 (.build zbZ [(0, 1, (.const (.string ⟨#[120]⟩))), (2, 5, (q 6))]), oS 7 2 7]
  .ret)))⟩
theorem F49_ok : compF Tryz.prog 49 = some F49 := by kernel_rfl
/-- colonnade/array.Open -/
def F50 : FC := ⟨20, [.tmp 4, .cell 5 true 3],
  (sQ [o 2 (.box (q 0)), o 3 (.box (q 1)), o 4 (.mov (.const (.pointer none))), o 5 (.alloc [.int .i64 0, .slice none 0 0, .int .i64 0])]
  (.seq (sQ [o 7 (.load true 7 (q 2)), o 8 (.load true 6 (q 3)), o 9 (.call 71 [.tmp 7, .tmp 8]), o 6 (.alloc [.int .i64 0, .slice none 0 0, .int .i64 0]), oS 3 6 9]
  (sQ [oA 10 0 6, oL 11 10, o 12 (.bin .neq (q 11) (kI 0) tI)]
  (.cond (q 12)
  (sQ [o 13 (.load true 3 (q 6)), o 4 (.mov (.const (.pointer none))), oS 3 5 13]
  .ret)
  .skip)))
  (sQ [o 14 (.load true 7 (q 2)), o 16 (.load true 6 (q 3)), o 19 (.build [.int .i64 0, .slice none 0 0, .int .i64 0] []), o 15 (.call 73 [.tmp 14]), ⟨none, .again 16 true 6 (q 3), none⟩, o 17 (.call 74 [.tmp 16]), o 18 (.call 72 [.tmp 15, .tmp 17, (.const (.pointer none))]), oM 4 18, oS 3 5 19]
  .ret)))⟩
theorem F50_ok : compF Tryz.prog 50 = some F50 := by kernel_rfl
/-- (*colonnade/array.Array).Len -/
def F51 : FC := ⟨7, [.tmp 2],
  (sQ [o 2 (.mov (kI 0))]
  (sQ [oM 3 0, o 4 (.nilCheck (q 3)), oA 5 14 4, oL 6 5, oM 2 6]
  .ret))⟩
theorem F51_ok : compF Tryz.prog 51 = some F51 := by kernel_rfl
/-- (*colonnade/array.Array).All -/
def F52 : FC := ⟨4, [.tmp 2],
  (sQ [o 1 (.box (q 0)), o 2 (.mov (.const .nilFunc))]
  (sQ [o 3 (.mkFunc (.func 75) [] [.tmp 1]), oM 2 3]
  .ret))⟩
theorem F52_ok : compF Tryz.prog 52 = some F52 := by kernel_rfl
/-- colonnade/colonnaderef03.grow -/
def F55 : FC := ⟨63, [.tmp 8],
  (sQ [o 8 (.mov (.const (.slice none 0 0)))]
  (.seq (sQ [oM 12 0, o 13 (.len 1 (q 12)), o 14 (.mov (kI 0))]
  (.block 0 (.loop (sQ [o 15 (.bin .lss (q 14) (q 13) tI)]
  (.seq (.cond (q 15)
  .skip
  (.exit 0))
  (.seq (.block 1 (sQ [oM 16 14, o 17 (.indexAddr 7 (q 12) (q 14)), o 18 (.load true 7 (q 17)), o 10 (.alloc zbZ), oM 9 16, oS 7 10 18]
  (.seq (sQ [oM 19 3, o 20 (.len 1 (q 19)), o 21 (.bin .gtr (q 20) (kI 256) tI)]
  (.cond (q 21)
  (sQ [oM 22 3, oM 8 22]
  .ret)
  .skip))
  (sQ [oM 23 1, o 24 (.len 1 (q 23)), o 25 (.bin .add (q 24) (kI 1) tI), o 26 (.mkSlice 1 8 [.int .i64 0] (q 25) (q 25)), oM 11 26]
  (sQ [oM 27 11, oM 28 1, o 29 (.copy 1 (q 27) (q 28))]
  (sQ [oM 30 11, oM 31 1, o 32 (.len 1 (q 31)), oM 33 9, o 34 (.indexAddr 1 (q 30) (q 32)), oS 1 34 33]
  (sQ [oM 35 3, oM 36 11, o 37 (.load true 7 (q 10)), oM 38 0, oM 39 9, o 40 (.slice 7 (q 38) none (some (q 39)) none), oM 41 2, o 42 (.build zeZ [(0, 1, (q 36)), (1, 7, (q 37)), (8, 1, (q 40)), (9, 1, (q 41))]), o 43 (.buildSlice 10 1 zeZ [(0, 10, (q 42))]), o 44 (.append 10 136 (q 35) (q 43)), oM 3 44]
  (sQ [oM 45 11, o 46 (.len 1 (q 45)), o 47 (.bin .leq (q 46) (kI 64) tI)]
  (.cond (q 47)
  (.ops [oA 48 2 10, oA 49 4 48, oL 50 49, oM 51 11, oM 52 2, oM 53 52, og 54 (.fieldAddr 2 (q 10)) 53 false, og 55 (.fieldAddr 0 (q 54)) 53 false, og 56 (.load false 1 (q 55)) 53 false, og 57 (.bin .eql (q 56) (kI 19) tI) 53 false, o 58 (.pick (q 53) kT (q 57)), oM 59 3, o 60 (.call 55 [.tmp 50, .tmp 51, .tmp 58, .tmp 59]), oM 3 60])
  .skip)))))))))
  (.ops [o 61 (.bin .add (q 14) (kI 1) tI), oM 14 61])))))))
  (sQ [oM 62 3, oM 8 62]
  .ret)))⟩
theorem F55_ok : compF Tryz.prog 55 = some F55 := by kernel_rfl
/-- colonnade/colonnaderef03.wrong -/
def F56 : FC := ⟨95, [.tmp 4],
  (sQ [o 4 (.mov (kI 0))]
  (sQ [oM 11 0, oM 12 1, o 13 (.indexAddr 10 (q 11) (q 12)), o 14 (.load true 10 (q 13)), o 5 (.alloc zeZ), oS 10 5 14]
  (sQ [oA 15 1 5, o 16 (.load true 7 (q 15)), o 6 (.alloc zbZ), oS 7 6 16]
  (.seq (sQ [oA 17 0 5, oL 18 17, o 19 (.len 1 (q 18)), o 20 (.bin .gtr (q 19) (kI 64) tI)]
  (.cond (q 20)
  (sQ [o 4 (.mov (kI 33))]
  .ret)
  .skip))
  (.seq (sQ [oM 21 1, o 22 (.bin .geq (q 21) (kI 256) tI)]
  (.cond (q 22)
  (sQ [o 4 (.mov (kI 34))]
  .ret)
  .skip))
  (.seq (sQ [oA 23 0 6, oL 24 23, o 25 (.call 77 [.tmp 24]), o 26 (.un .not (q 25))]
  (.cond (q 26)
  (sQ [o 4 (.mov (kI 30))]
  .ret)
  .skip))
  (.seq (sQ [oA 27 8 5, oL 28 27, o 29 (.len 1 (q 28)), o 30 (.mov (kI 0))]
  (.block 0 (.loop (sQ [o 31 (.bin .lss (q 30) (q 29) tI)]
  (.seq (.cond (q 31)
  .skip
  (.exit 0))
  (.seq (.block 1 (sQ [o 32 (.indexAddr 7 (q 28) (q 30)), o 33 (.load true 7 (q 32)), o 8 (.alloc zbZ), oS 7 8 33]
  (sQ [oA 34 0 8, oL 35 34, oA 36 0 6, oL 37 36, o 38 (.bin .eql (q 35) (q 37) (some .string))]
  (.cond (q 38)
  (sQ [o 4 (.mov (kI 31))]
  .ret)
  .skip))))
  (.ops [o 39 (.bin .add (q 30) (kI 1) tI), oM 30 39])))))))
  (.seq (sQ [oA 40 2 6, o 41 (.load true 5 (q 40)), o 42 (.call 78 [.tmp 41]), o 43 (.un .not (q 42))]
  (.cond (q 43)
  (sQ [o 4 (.mov (kI 32))]
  .ret)
  .skip))
  (.seq (sQ [o 44 (.load true 7 (q 6)), o 45 (.call 79 [.tmp 44]), o 46 (.un .not (q 45))]
  (.cond (q 46)
  (sQ [o 4 (.mov (kI 35))]
  .ret)
  .skip))
  (.seq (sQ [oA 47 2 6, oA 48 0 47, oL 49 48, o 50 (.bin .eql (q 49) (kI 19) tI), oM 51 50, og 52 (.fieldAddr 2 (q 6)) 51 false, og 53 (.fieldAddr 0 (q 52)) 51 false, og 54 (.load false 1 (q 53)) 51 false, og 55 (.bin .eql (q 54) (kI 20) tI) 51 false, o 56 (.pick (q 51) kT (q 55)), oM 57 56, og 58 (.fieldAddr 9 (q 5)) 57 true, og 59 (.load false 1 (q 58)) 57 true, o 60 (.pick (q 57) (q 59) kF)]
  (.cond (q 60)
  (sQ [o 4 (.mov (kI 36))]
  .ret)
  .skip))
  (.seq (sQ [oA 61 2 6, oA 62 0 61, oL 63 62, o 64 (.bin .eql (q 63) (kI 19) tI)]
  (.cond (q 64)
  (.seq (sQ [oA 65 2 6, oA 66 4 65, oL 67 66, o 68 (.indexAddr 7 (q 67) (kI 0)), oA 69 1 68, oL 70 69]
  (.cond (q 70)
  (sQ [o 4 (.mov (kI 36))]
  .ret)
  .skip))
  (sQ [oM 71 0, oM 72 1, o 73 (.slice 10 (q 71) none (some (q 72)) none), o 74 (.len 1 (q 73)), o 75 (.mov (kI 0))]
  (.block 2 (.loop (sQ [o 76 (.bin .lss (q 75) (q 74) tI)]
  (.seq (.cond (q 76)
  .skip
  (.exit 2))
  (.seq (.block 3 (sQ [o 77 (.indexAddr 10 (q 73) (q 75)), o 78 (.load true 10 (q 77)), o 10 (.alloc zeZ), oS 10 10 78]
  (sQ [oA 79 1 10, oA 80 2 79, oA 81 0 80, oL 82 81, o 83 (.bin .eql (q 82) (kI 19) tI), oM 84 83, og 85 (.fieldAddr 1 (q 10)) 84 true, og 86 (.fieldAddr 2 (q 85)) 84 true, og 87 (.fieldAddr 2 (q 86)) 84 true, og 88 (.load false 1 (q 87)) 84 true, og 89 (.fieldAddr 2 (q 6)) 84 true, og 90 (.fieldAddr 2 (q 89)) 84 true, og 91 (.load false 1 (q 90)) 84 true, og 92 (.bin .eql (q 88) (q 91) tI) 84 true, o 93 (.pick (q 84) (q 92) kF)]
  (.cond (q 93)
  (sQ [o 4 (.mov (kI 36))]
  .ret)
  .skip))))
  (.ops [o 94 (.bin .add (q 75) (kI 1) tI), oM 75 94]))))))))
  .skip))
  (sQ [o 4 (.mov (kI 0))]
  .ret))))))))))))⟩
theorem F56_ok : compF Tryz.prog 56 = some F56 := by kernel_rfl
/-- colonnade/colonnaderef23.text -/
def F57 : FC := ⟨13, [.tmp 2],
  (sQ [o 2 (.mov kF)]
  (sQ [oM 3 0, o 4 (.bin .eql (q 3) (kI 12) tI), oM 5 4, og 6 (.mov (q 0)) 5 false, og 7 (.bin .eql (q 6) (kI 13) tI) 5 false, o 8 (.pick (q 5) kT (q 7)), oM 9 8, og 10 (.mov (q 0)) 9 false, og 11 (.bin .eql (q 10) (kI 14) tI) 9 false, o 12 (.pick (q 9) kT (q 11)), oM 2 12]
  .ret))⟩
theorem F57_ok : compF Tryz.prog 57 = some F57 := by kernel_rfl
/-- colonnade/kind.all -/
def F58 : FC := ⟨6, [.tmp 4],
  (sQ [o 2 (.box (q 0)), o 3 (.box (q 1)), o 4 (.mov (.const .nilFunc))]
  (sQ [o 5 (.mkFunc (.func 80) [] [.tmp 3, .tmp 2]), oM 4 5]
  .ret))⟩
theorem F58_ok : compF Tryz.prog 58 = some F58 := by kernel_rfl
/-- colonnade/kind.wrong -/
def F59 : FC := ⟨74, [.tmp 6],
  (sQ [o 3 (.box (q 0)), o 6 (.mov (kI 0))]
  (sQ [oA 10 2 3, oA 11 2 10, o 12 (.load true 5 (q 11)), o 7 (.alloc [.int .i64 0, .int .i64 0, .int .i64 0, .int .i64 0, .slice none 0 0]), oS 5 7 12]
  (sQ [oM 14 2, oA 15 2 7, oL 16 15, o 17 (.lookup 0 [.int .i64 0] false true (q 14) (q 16)), oM 13 17, o 18 (.extract (q 13) 0), o 19 (.extract (q 13) 1), oM 8 18, oM 9 19]
  (.seq (.block 0 (sQ [oA 21 0 3, oL 22 21, o 23 (.len 1 (q 22)), o 24 (.bin .gtr (q 23) (kI 64) tI), oM 20 24]
  (.cond (q 20)
  (sQ [o 6 (.mov (kI 33))]
  .ret)
  (sQ [oM 26 1, o 27 (.bin .geq (q 26) (kI 256) tI), oM 25 27]
  (.cond (q 25)
  (sQ [o 6 (.mov (kI 34))]
  .ret)
  (sQ [oA 29 2 3, oA 30 0 29, oL 31 30, o 32 (.call 83 [.tmp 31]), o 33 (.un .not (q 32)), oM 28 33]
  (.cond (q 28)
  (sQ [o 6 (.mov (kI 30))]
  .ret)
  (sQ [oA 35 1 3, oL 36 35, o 37 (.mkFunc (.func 85) [] [.tmp 3]), o 38 (.call 84 [.tmp 36, .tmp 37]), oM 34 38]
  (.cond (q 34)
  (sQ [o 6 (.mov (kI 31))]
  .ret)
  (sQ [o 40 (.load true 5 (q 7)), o 41 (.call 86 [.tmp 40]), o 42 (.un .not (q 41)), oM 39 42]
  (.cond (q 39)
  (sQ [o 6 (.mov (kI 32))]
  .ret)
  (sQ [oA 44 2 3, o 45 (.load true 7 (q 44)), o 46 (.call 87 [.tmp 45]), o 47 (.un .not (q 46)), oM 43 47]
  (.cond (q 43)
  (sQ [o 6 (.mov (kI 35))]
  .ret)
  (.seq (sQ [oA 49 9 3, oL 50 49, oM 51 50, og 52 (.fieldAddr 0 (q 7)) 51 true, og 53 (.load false 1 (q 52)) 51 true, og 54 (.bin .eql (q 53) (kI 19) tI) 51 true, og 55 (.mov (q 54)) 51 true, og 56 (.fieldAddr 0 (q 7)) 55 false, og 57 (.load false 1 (q 56)) 55 false, og 58 (.bin .eql (q 57) (kI 20) tI) 55 false, og 59 (.pick (q 55) kT (q 58)) 51 true, o 60 (.pick (q 51) (q 59) kF), oM 48 60]
  (.cond (q 48)
  .skip
  (.ops [oA 61 0 7, oL 62 61, o 63 (.bin .eql (q 62) (kI 19) tI), oM 64 63, og 65 (.fieldAddr 4 (q 7)) 64 true, og 66 (.load false 1 (q 65)) 64 true, og 67 (.indexAddr 7 (q 66) (kI 0)) 64 true, og 68 (.fieldAddr 1 (q 67)) 64 true, og 69 (.load false 1 (q 68)) 64 true, og 70 (.mov (q 69)) 64 true, og 71 (.mov (q 9)) 70 false, og 72 (.pick (q 70) kT (q 71)) 64 true, o 73 (.pick (q 64) (q 72) kF), oM 48 73])))
  (.cond (q 48)
  (sQ [o 6 (.mov (kI 36))]
  .ret)
  .skip)))))))))))))))
  (sQ [o 6 (.mov (kI 0))]
  .ret)))))⟩
theorem F59_ok : compF Tryz.prog 59 = some F59 := by kernel_rfl
/-- colonnade/value.Fits -/
def F62 : FC := ⟨14, [.tmp 4],
  (sQ [o 2 (.box (q 0)), o 3 (.box (q 1)), o 4 (.mov (kI 0))]
  (.seq (.block 0 (sQ [o 6 (.load true 7 (q 2)), o 7 (.call 64 [.tmp 6]), o 8 (.un .not (q 7)), oM 5 8]
  (.cond (q 5)
  (sQ [o 4 (.mov (kI 5))]
  .ret)
  (sQ [o 10 (.load true 7 (q 2)), o 11 (.load true 4 (q 3)), o 12 (.call 65 [.tmp 10, .tmp 11]), o 13 (.un .not (q 12)), oM 9 13]
  (.cond (q 9)
  (sQ [o 4 (.mov (kI 7))]
  .ret)
  .skip)))))
  (sQ [o 4 (.mov (kI 0))]
  .ret)))⟩
theorem F62_ok : compF Tryz.prog 62 = some F62 := by kernel_rfl
/-- colonnade/value.may -/
def F64 : FC := ⟨7, [.tmp 2],
  (sQ [o 1 (.box (q 0)), o 2 (.mov kF)]
  (sQ [o 3 (.load true 7 (q 1)), o 4 (.call 15 [.tmp 3]), o 5 (.field false 0 1 (q 4)), o 6 (.bin .eql (q 5) (kI 0) tI), oM 2 6]
  .ret))⟩
theorem F64_ok : compF Tryz.prog 64 = some F64 := by kernel_rfl
/-- colonnade/value.good -/
def F65 : FC := ⟨12, [.tmp 4],
  (sQ [o 2 (.box (q 0)), o 3 (.box (q 1)), o 4 (.mov kF)]
  (sQ [o 6 (.build [.int .i64 0] [(0, 1, (kI 4194304))]), o 7 (.box (q 6)), oM 5 7]
  (sQ [oM 8 5, o 9 (.load true 7 (q 2)), o 10 (.load true 4 (q 3)), o 11 (.call 89 [.tmp 8, .tmp 9, .tmp 10]), oM 4 11]
  .ret)))⟩
theorem F65_ok : compF Tryz.prog 65 = some F65 := by kernel_rfl
/-- colonnade/value.order -/
def F66 : FC := ⟨145, [.tmp 6],
  (sQ [o 3 (.box (q 0)), o 4 (.box (q 1)), o 5 (.box (q 2)), o 6 (.mov (kI 0))]
  (.seq (sQ [oA 11 0 4, oL 12 11, oM 13 12, og 14 (.fieldAddr 0 (q 5)) 13 false, og 15 (.load false 1 (q 14)) 13 false, o 16 (.pick (q 13) kT (q 15))]
  (.cond (q 16)
  (.seq (.block 0 (sQ [oA 18 0 4, oL 19 18, oM 20 19, og 21 (.fieldAddr 0 (q 5)) 20 true, og 22 (.load false 1 (q 21)) 20 true, o 23 (.pick (q 20) (q 22) kF), oM 17 23]
  (.cond (q 17)
  (sQ [o 6 (.mov (kI 0))]
  .ret)
  (sQ [oA 25 0 4, oL 26 25, oM 24 26]
  (.cond (q 24)
  (sQ [o 6 (.mov (kI (-1)))]
  .ret)
  .skip)))))
  (sQ [o 6 (.mov (kI 1))]
  .ret))
  .skip))
  (sQ [oA 27 2 3, o 28 (.load true 5 (q 27)), o 7 (.alloc [.int .i64 0, .int .i64 0, .int .i64 0, .int .i64 0, .slice none 0 0]), oS 5 7 28]
  (.seq (sQ [oA 29 0 7, oL 30 29]
  (.block 1 (.seq (sQ [o 32 (.bin .eql (q 30) (kI 19) tI), oM 31 32]
  (.cond (q 31)
  .skip
  (.ops [o 33 (.bin .eql (q 30) (kI 20) tI), oM 31 33])))
  (.cond (q 31)
  (sQ [oA 34 4 7, oL 35 34, o 36 (.indexAddr 7 (q 35) (kI 0)), o 37 (.load true 7 (q 36)), o 38 (.load true 4 (q 4)), o 39 (.load true 4 (q 5)), o 40 (.call 66 [.tmp 37, .tmp 38, .tmp 39]), oM 6 40]
  .ret)
  (sQ [o 42 (.bin .eql (q 30) (kI 10) tI), oM 41 42]
  (.cond (q 41)
  (sQ [oA 43 1 4, oL 44 43, o 45 (.conv .u64 (q 44)), oA 46 1 5, oL 47 46, o 48 (.conv .u64 (q 47)), o 49 (.call 90 [.tmp 45, .tmp 48]), oM 6 49]
  .ret)
  (sQ [o 51 (.bin .eql (q 30) (kI 11) tI), oM 50 51]
  (.cond (q 50)
  (sQ [oA 52 1 4, oL 53 52, oA 55 1 5, oL 56 55, o 54 (.call 91 [.tmp 53]), ⟨none, .again 56 false 1 (q 55), none⟩, o 57 (.call 91 [.tmp 56]), o 58 (.call 90 [.tmp 54, .tmp 57]), oM 6 58]
  .ret)
  (.seq (sQ [o 60 (.bin .eql (q 30) (kI 12) tI), oM 59 60]
  (.cond (q 59)
  .skip
  (sQ [o 61 (.bin .eql (q 30) (kI 13) tI), oM 59 61]
  (.cond (q 59)
  .skip
  (.ops [o 62 (.bin .eql (q 30) (kI 14) tI), oM 59 62])))))
  (.cond (q 59)
  (sQ [oA 63 2 4, oL 64 63, oA 65 2 5, oL 66 65, o 67 (.call 41 [.tmp 64, .tmp 66]), oM 6 67]
  .ret)
  (sQ [o 69 (.bin .eql (q 30) (kI 18) tI), oM 68 69]
  (.cond (q 68)
  (.seq (sQ [oA 70 1 4, oL 71 70, oA 72 1 5, oL 73 72, o 74 (.bin .neq (q 71) (q 73) tI)]
  (.cond (q 74)
  (sQ [oA 75 1 4, oL 76 75, oA 77 1 5, oL 78 77, o 79 (.call 92 [.tmp 76, .tmp 78]), oM 6 79]
  .ret)
  .skip))
  (sQ [oA 80 4 7, oL 81 80, oA 82 1 4, oL 83 82, o 84 (.indexAddr 7 (q 81) (q 83)), o 85 (.load true 7 (q 84)), oA 86 3 4, oL 87 86, o 88 (.indexAddr 4 (q 87) (kI 0)), o 89 (.load true 4 (q 88)), oA 90 3 5, oL 91 90, o 92 (.indexAddr 4 (q 91) (kI 0)), o 93 (.load true 4 (q 92)), o 94 (.call 66 [.tmp 85, .tmp 89, .tmp 93]), oM 6 94]
  .ret))
  (.seq (sQ [o 96 (.bin .eql (q 30) (kI 15) tI), oM 95 96]
  (.cond (q 95)
  .skip
  (sQ [o 97 (.bin .eql (q 30) (kI 16) tI), oM 95 97]
  (.cond (q 95)
  .skip
  (.ops [o 98 (.bin .eql (q 30) (kI 17) tI), oM 95 98])))))
  (.cond (q 95)
  (.seq (sQ [oA 99 3 4, oL 100 99, o 101 (.len 1 (q 100)), oA 102 3 5, oL 103 102, o 104 (.len 1 (q 103)), o 105 (.minmax false (q 101) [.tmp 104]), o 106 (.mov (kI 0))]
  (.block 2 (.loop (sQ [o 107 (.bin .lss (q 106) (q 105) tI)]
  (.seq (.cond (q 107)
  .skip
  (.exit 2))
  (.seq (.block 3 (sQ [oM 108 106, oM 8 108]
  (sQ [o 9 (.mov (kI 0))]
  (.seq (sQ [oA 109 0 7, oL 110 109, o 111 (.bin .eql (q 110) (kI 17) tI)]
  (.cond (q 111)
  (.ops [oM 112 8, oM 9 112])
  .skip))
  (sQ [oA 113 4 7, oL 114 113, oM 115 9, o 116 (.indexAddr 7 (q 114) (q 115)), o 117 (.load true 7 (q 116)), oA 118 3 4, oL 119 118, oM 120 8, o 121 (.indexAddr 4 (q 119) (q 120)), o 122 (.load true 4 (q 121)), oA 123 3 5, oL 124 123, oM 125 8, o 126 (.indexAddr 4 (q 124) (q 125)), o 127 (.load true 4 (q 126)), o 128 (.call 66 [.tmp 117, .tmp 122, .tmp 127]), oM 10 128]
  (sQ [oM 129 10, o 130 (.bin .neq (q 129) (kI 0) tI)]
  (.cond (q 130)
  (sQ [oM 131 10, oM 6 131]
  .ret)
  .skip)))))))
  (.ops [o 132 (.bin .add (q 106) (kI 1) tI), oM 106 132])))))))
  (sQ [oA 133 3 4, oL 134 133, o 135 (.len 1 (q 134)), oA 136 3 5, oL 137 136, o 138 (.len 1 (q 137)), o 139 (.call 93 [.tmp 135, .tmp 138]), oM 6 139]
  .ret))
  .skip))))))))))))))
  (sQ [oA 140 1 4, oL 141 140, oA 142 1 5, oL 143 142, o 144 (.call 92 [.tmp 141, .tmp 143]), oM 6 144]
  .ret)))))⟩
theorem F66_ok : compF Tryz.prog 66 = some F66 := by kernel_rfl
/-- colonnade/colonnaderef04.FitsRight -/
def F67 : FC := ⟨13, [.tmp 4],
  (sQ [o 2 (.box (q 0)), o 3 (.box (q 1)), o 4 (.mov kF)]
  (sQ [o 5 (.load true 4 (q 3)), o 6 (.call 94 [.tmp 5, (kI 4194304)]), o 7 (.bin .leq (q 6) (kI 4194304) tI), oM 8 7, og 9 (.load true 7 (q 2)) 8 true, og 10 (.load true 4 (q 3)) 8 true, og 11 (.call 95 [.tmp 9, .tmp 10]) 8 true, o 12 (.pick (q 8) (q 11) kF), oM 4 12]
  .ret))⟩
theorem F67_ok : compF Tryz.prog 67 = some F67 := by kernel_rfl
/-- colonnade/colonnaderef04.sign -/
def F68 : FC := ⟨7, [.tmp 4],
  (sQ [o 4 (.mov (kI 0))]
  (.seq (sQ [oM 5 0]
  (.cond (q 5)
  (sQ [o 4 (.mov (kI (-1)))]
  .ret)
  .skip))
  (.seq (sQ [oM 6 1]
  (.cond (q 6)
  (sQ [o 4 (.mov (kI 1))]
  .ret)
  .skip))
  (sQ [o 4 (.mov (kI 0))]
  .ret))))⟩
theorem F68_ok : compF Tryz.prog 68 = some F68 := by kernel_rfl
/-- colonnade/colonnaderef04.place -/
def F69 : FC := ⟨11, [.tmp 2],
  (sQ [o 2 (.mov (.const (.int .u64 0)))]
  (.seq (sQ [oM 3 0, o 4 (.bin .lss (q 3) (kI 0) tI)]
  (.cond (q 4)
  (sQ [oM 5 0, o 6 (.conv .u64 (q 5)), o 7 (.un .xor (q 6)), oM 2 7]
  .ret)
  .skip))
  (sQ [oM 8 0, o 9 (.conv .u64 (q 8)), o 10 (.bin .add (q 9) (.const (.int .u64 9223372036854775808)) (some (.int .u64))), oM 2 10]
  .ret)))⟩
theorem F69_ok : compF Tryz.prog 69 = some F69 := by kernel_rfl
/-- colonnade/colonnaderef04.orders -/
def F70 : FC := ⟨54, [.tmp 6],
  (sQ [o 3 (.box (q 0)), o 6 (.mov (kI 0))]
  (.seq (sQ [o 7 (.mov (kI 0))]
  (.block 0 (.loop (.seq (sQ [oM 10 7, oM 11 1, o 12 (.len 1 (q 11)), o 13 (.bin .lss (q 10) (q 12) tI), oM 14 13, og 15 (.mov (q 7)) 14 true, og 16 (.mov (q 2)) 14 true, og 17 (.len 1 (q 16)) 14 true, og 18 (.bin .lss (q 15) (q 17) tI) 14 true, o 19 (.pick (q 14) (q 18) kF)]
  (.cond (q 19)
  .skip
  (.exit 0)))
  (.seq (.block 1 (sQ [o 8 (.mov (kI 0))]
  (.seq (sQ [oA 22 0 3, oL 23 22, o 24 (.bin .eql (q 23) (kI 17) tI)]
  (.cond (q 24)
  (.ops [oM 25 7, oM 8 25])
  .skip))
  (sQ [oA 26 4 3, oL 27 26, oM 28 8, o 29 (.indexAddr 7 (q 27) (q 28)), o 30 (.load true 7 (q 29)), oM 31 1, oM 32 7, o 33 (.indexAddr 4 (q 31) (q 32)), o 34 (.load true 4 (q 33)), oM 35 2, oM 36 7, o 37 (.indexAddr 4 (q 35) (q 36)), o 38 (.load true 4 (q 37)), o 39 (.call 48 [.tmp 30, .tmp 34, .tmp 38]), oM 9 39]
  (sQ [oM 40 9, o 41 (.bin .neq (q 40) (kI 0) tI)]
  (.cond (q 41)
  (sQ [oM 42 9, oM 6 42]
  .ret)
  .skip))))))
  (.ops [oM 20 7, o 21 (.bin .add (q 20) (kI 1) tI), oM 7 21]))))))
  (sQ [oM 43 1, o 44 (.len 1 (q 43)), oM 45 2, o 46 (.len 1 (q 45)), o 47 (.bin .lss (q 44) (q 46) tI), oM 48 1, o 49 (.len 1 (q 48)), oM 50 2, o 51 (.len 1 (q 50)), o 52 (.bin .gtr (q 49) (q 51) tI), o 53 (.call 68 [.tmp 47, .tmp 52]), oM 6 53]
  .ret)))⟩
theorem F70_ok : compF Tryz.prog 70 = some F70 := by kernel_rfl
/-- colonnade/array.Check -/
def F71 : FC := ⟨19, [.cell 4 true 3],
  (sQ [o 2 (.box (q 0)), o 3 (.box (q 1)), o 4 (.alloc [.int .i64 0, .slice none 0 0, .int .i64 0])]
  (.seq (sQ [o 7 (.load true 7 (q 2)), o 8 (.call 15 [.tmp 7]), o 9 (.field false 0 1 (q 8)), o 10 (.bin .neq (q 9) (kI 0) tI)]
  (.cond (q 10)
  (sQ [o 11 (.call 96 [(kI 5), (kI 0)]), oS 3 4 11]
  .ret)
  .skip))
  (sQ [o 13 (.load true 7 (q 2)), o 14 (.load true 6 (q 3)), o 15 (.call 97 [.tmp 13, .tmp 14]), oM 12 15, o 16 (.extract (q 12) 0), o 17 (.extract (q 12) 1), o 5 (.alloc [.int .i64 0, .slice none 0 0, .int .i64 0]), oS 3 5 16, oM 6 17]
  (sQ [o 18 (.load true 3 (q 5)), oS 3 4 18]
  .ret))))⟩
theorem F71_ok : compF Tryz.prog 71 = some F71 := by kernel_rfl
/-- colonnade/array.opened -/
def F72 : FC := ⟨20, [.tmp 6],
  (sQ [o 3 (.box (q 0)), o 4 (.box (q 1)), o 6 (.mov (.const (.pointer none)))]
  (sQ [o 7 (.load true 7 (q 3)), o 8 (.load true 6 (q 4)), oA 9 1 4, oL 10 9, oA 11 0 4, oL 12 11, oM 13 2, oA 14 2 3, oA 15 0 14, oL 16 15, o 17 (.call 98 [.tmp 16]), ⟨none, .again 12 false 1 (q 11), none⟩, ⟨none, .again 10 false 1 (q 9), none⟩, ⟨none, .again 8 true 6 (q 4), none⟩, ⟨none, .again 7 true 7 (q 3), none⟩, o 18 (.build [(.string ⟨#[]⟩), (.bool false), (.int .i64 0), (.int .i64 0), (.int .i64 0), (.int .i64 0), (.slice none 0 0), (.int .i64 0), (.int .i64 0), (.int .i64 0), (.slice none 0 0), (.slice none 0 0), (.slice none 0 0), (.int .i64 0), (.int .i64 0), (.pointer none), .nilIface] [(0, 7, (q 7)), (7, 6, (q 8)), (13, 1, (q 10)), (14, 1, (q 12)), (15, 1, (q 13)), (16, 1, (q 17))]), o 19 (.box (q 18)), oM 6 19]
  .ret))⟩
theorem F72_ok : compF Tryz.prog 72 = some F72 := by kernel_rfl
/-- colonnade/array.copiedField -/
def F73 : FC := ⟨31, [.cell 2 true 7],
  (sQ [o 1 (.box (q 0)), o 2 (.alloc zbZ)]
  (sQ [oA 4 2 1, oA 5 4 4, oL 6 5, o 7 (.call 99 [.tmp 6]), oA 8 2 1, oA 9 4 8, oS 1 9 7]
  (.seq (sQ [oA 10 2 1, oA 11 4 10, oL 12 11, o 13 (.len 1 (q 12)), o 14 (.mov (kI 0))]
  (.block 0 (.loop (sQ [o 15 (.bin .lss (q 14) (q 13) tI)]
  (.seq (.cond (q 15)
  .skip
  (.exit 0))
  (.seq (.block 1 (sQ [oM 16 14, oM 3 16]
  (.ops [oA 17 2 1, oA 18 4 17, oL 19 18, oM 20 3, oA 21 2 1, oA 22 4 21, oL 23 22, oM 24 3, o 25 (.indexAddr 7 (q 23) (q 24)), o 26 (.load true 7 (q 25)), o 27 (.call 73 [.tmp 26]), ⟨none, .again 19 false 1 (q 18), none⟩, o 28 (.indexAddr 7 (q 19) (q 20)), oS 7 28 27])))
  (.ops [o 29 (.bin .add (q 14) (kI 1) tI), oM 14 29])))))))
  (sQ [o 30 (.load true 7 (q 1)), oS 7 2 30]
  .ret))))⟩
theorem F73_ok : compF Tryz.prog 73 = some F73 := by kernel_rfl
/-- colonnade/array.copied -/
def F74 : FC := ⟨16, [.cell 2 true 6],
  (sQ [o 1 (.box (q 0)), o 2 (.alloc [.int .i64 0, .int .i64 0, .int .i64 0, .slice none 0 0, .slice none 0 0, .slice none 0 0])]
  (sQ [oA 3 3 1, oL 4 3, o 5 (.call 100 [.tmp 4]), oA 6 3 1, oS 1 6 5]
  (sQ [oA 7 4 1, oL 8 7, o 9 (.call 101 [.tmp 8]), oA 10 4 1, oS 1 10 9]
  (sQ [oA 11 5 1, oL 12 11, o 13 (.call 101 [.tmp 12]), oA 14 5 1, oS 1 14 13]
  (sQ [o 15 (.load true 6 (q 1)), oS 6 2 15]
  .ret)))))⟩
theorem F74_ok : compF Tryz.prog 74 = some F74 := by kernel_rfl
/-- (*colonnade/array.Array).All$1 -/
def F75 : FC := ⟨39, [],
  (sQ [o 3 (.mov (kI 4194304))]
  (sQ [oL 8 1, o 9 (.nilCheck (q 8)), oA 10 14 9, oL 11 10, o 12 (.mov (kI 0))]
  (.block 0 (.loop (sQ [o 13 (.bin .lss (q 12) (q 11) tI)]
  (.seq (.cond (q 13)
  .skip
  (.exit 0))
  (.seq (.block 1 (sQ [oM 14 12, oM 4 14]
  (sQ [oL 16 1, oM 17 4, o 18 (.call 76 [.tmp 16, .tmp 17]), oM 15 18, o 19 (.extract (q 15) 0), o 20 (.extract (q 15) 1), o 21 (.extract (q 15) 2), o 5 (.alloc zcZ), oS 4 5 19, oM 6 20, oM 7 21]
  (sQ [oM 22 3, oM 23 6, o 24 (.bin .sub (q 22) (q 23) tI), oM 3 24]
  (sQ [oM 25 7, o 26 (.bin .neq (q 25) (kI 0) tI), oM 27 26, og 28 (.mov (q 3)) 27 false, og 29 (.bin .lss (q 28) (kI 0) tI) 27 false, o 30 (.pick (q 27) kT (q 29)), oM 31 30, og 32 (.mov (q 0)) 31 false, og 33 (.mov (q 4)) 31 false, og 34 (.load true 4 (q 5)) 31 false, og 35 (.callv (q 32) [.tmp 33, .tmp 34]) 31 false, og 36 (.un .not (q 35)) 31 false, o 37 (.pick (q 31) kT (q 36))]
  (.cond (q 37)
  .ret
  .skip))))))
  (.ops [o 38 (.bin .add (q 12) (kI 1) tI), oM 12 38]))))))))⟩
theorem F75_ok : compF Tryz.prog 75 = some F75 := by kernel_rfl
/-- colonnade/colonnaderef03.IsName -/
def F77 : FC := ⟨33, [.tmp 2],
  (sQ [o 2 (.mov kF)]
  (.seq (sQ [oM 4 0, o 5 (.len 0 (q 4)), o 6 (.bin .lss (q 5) (kI 1) tI), oM 7 6, og 8 (.mov (q 0)) 7 false, og 9 (.len 0 (q 8)) 7 false, og 10 (.bin .gtr (q 9) (kI 48) tI) 7 false, o 11 (.pick (q 7) kT (q 10)), oM 12 11, og 13 (.mov (q 0)) 12 false, og 14 (.indexStr (q 13) (kI 0)) 12 false, og 15 (.bin .geq (q 14) (.const (.int .u8 48)) (some (.int .u8))) 12 false, og 16 (.mov (q 15)) 12 false, og 17 (.mov (q 0)) 16 true, og 18 (.indexStr (q 17) (kI 0)) 16 true, og 19 (.bin .leq (q 18) (.const (.int .u8 57)) (some (.int .u8))) 16 true, og 20 (.pick (q 16) (q 19) kF) 12 false, o 21 (.pick (q 12) kT (q 20))]
  (.cond (q 21)
  (sQ [o 2 (.mov kF)]
  .ret)
  .skip))
  (.seq (sQ [o 3 (.mov (kI 0))]
  (.block 0 (.loop (.seq (sQ [oM 22 3, oM 23 0, o 24 (.len 0 (q 23)), o 25 (.bin .lss (q 22) (q 24) tI)]
  (.cond (q 25)
  .skip
  (.exit 0)))
  (.seq (.block 1 (sQ [oM 28 0, oM 29 3, o 30 (.indexStr (q 28) (q 29)), o 31 (.call 104 [.tmp 30]), o 32 (.un .not (q 31))]
  (.cond (q 32)
  (sQ [o 2 (.mov kF)]
  .ret)
  .skip)))
  (.ops [oM 26 3, o 27 (.bin .add (q 26) (kI 1) tI), oM 3 27]))))))
  (sQ [o 2 (.mov kT)]
  .ret))))⟩
theorem F77_ok : compF Tryz.prog 77 = some F77 := by kernel_rfl
/-- colonnade/colonnaderef03.shaped -/
def F78 : FC := ⟨95, [.tmp 2],
  (sQ [o 1 (.box (q 0)), o 2 (.mov kF)]
  (sQ [o 3 (.mov (kI 0)), o 4 (.mov (kI 0))]
  (sQ [oA 9 1 1, oL 10 9, o 11 (.bin .eql (q 10) (kI 0) tI), oA 12 2 1, oL 13 12, o 14 (.bin .eql (q 13) (kI 0) tI), oA 15 3 1, oL 16 15, o 17 (.bin .eql (q 16) (kI 0) tI), oM 5 11, oM 6 14, oM 7 17]
  (.seq (sQ [oA 18 0 1, oL 19 18]
  (.block 0 (sQ [o 21 (.bin .eql (q 19) (kI 14) tI), oM 20 21]
  (.cond (q 20)
  (.ops [oA 22 1 1, oL 23 22, o 24 (.bin .geq (q 23) (kI 1) tI), oM 25 24, og 26 (.fieldAddr 1 (q 1)) 25 true, og 27 (.load false 1 (q 26)) 25 true, og 28 (.bin .leq (q 27) (kI 16) tI) 25 true, o 29 (.pick (q 25) (q 28) kF), oM 5 29])
  (.seq (sQ [o 31 (.bin .eql (q 19) (kI 15) tI), oM 30 31]
  (.cond (q 30)
  .skip
  (.ops [o 32 (.bin .eql (q 19) (kI 20) tI), oM 30 32])))
  (.cond (q 30)
  (.ops [o 3 (.mov (kI 1)), o 4 (.mov (kI 1))])
  (sQ [o 34 (.bin .eql (q 19) (kI 16) tI), oM 33 34]
  (.cond (q 33)
  (sQ [o 3 (.mov (kI 1)), o 4 (.mov (kI 1))]
  (.ops [oA 35 1 1, oL 36 35, o 37 (.bin .geq (q 36) (kI 1) tI), oM 38 37, og 39 (.fieldAddr 1 (q 1)) 38 true, og 40 (.load false 1 (q 39)) 38 true, og 41 (.bin .leq (q 40) (kI 64) tI) 38 true, o 42 (.pick (q 38) (q 41) kF), oM 5 42]))
  (sQ [o 44 (.bin .eql (q 19) (kI 17) tI), oM 43 44]
  (.cond (q 43)
  (.ops [o 4 (.mov (kI 32))])
  (sQ [o 46 (.bin .eql (q 19) (kI 18) tI), oM 45 46]
  (.cond (q 45)
  (.ops [o 3 (.mov (kI 1)), o 4 (.mov (kI 32))])
  (sQ [o 48 (.bin .eql (q 19) (kI 19) tI), oM 47 48]
  (.cond (q 47)
  (sQ [o 3 (.mov (kI 1)), o 4 (.mov (kI 1))]
  (sQ [oA 49 2 1, oL 50 49, o 51 (.bin .geq (q 50) (kI 0) tI), oM 52 51, og 53 (.fieldAddr 2 (q 1)) 52 true, og 54 (.load false 1 (q 53)) 52 true, og 55 (.bin .lss (q 54) (kI 32) tI) 52 true, o 56 (.pick (q 52) (q 55) kF), oM 6 56]
  (.ops [oA 57 3 1, oL 58 57, o 59 (.bin .geq (q 58) (kI 3) tI), oM 60 59, og 61 (.fieldAddr 3 (q 1)) 60 true, og 62 (.load false 1 (q 61)) 60 true, og 63 (.bin .leq (q 62) (kI 10) tI) 60 true, o 64 (.pick (q 60) (q 63) kF), oM 7 64])))
  .skip))))))))))))))
  (sQ [oA 65 4 1, oL 66 65, o 67 (.len 1 (q 66)), oM 8 67]
  (sQ [oA 68 0 1, oL 69 68, o 70 (.bin .geq (q 69) (kI 1) tI), oM 71 70, og 72 (.fieldAddr 0 (q 1)) 71 true, og 73 (.load false 1 (q 72)) 71 true, og 74 (.bin .leq (q 73) (kI 20) tI) 71 true, o 75 (.pick (q 71) (q 74) kF), oM 76 75, og 77 (.mov (q 5)) 76 true, o 78 (.pick (q 76) (q 77) kF), oM 79 78, og 80 (.mov (q 6)) 79 true, o 81 (.pick (q 79) (q 80) kF), oM 82 81, og 83 (.mov (q 7)) 82 true, o 84 (.pick (q 82) (q 83) kF), oM 85 84, og 86 (.mov (q 8)) 85 true, og 87 (.mov (q 3)) 85 true, og 88 (.bin .geq (q 86) (q 87) tI) 85 true, o 89 (.pick (q 85) (q 88) kF), oM 90 89, og 91 (.mov (q 8)) 90 true, og 92 (.mov (q 4)) 90 true, og 93 (.bin .leq (q 91) (q 92) tI) 90 true, o 94 (.pick (q 90) (q 93) kF), oM 2 94]
  .ret))))))⟩
theorem F78_ok : compF Tryz.prog 78 = some F78 := by kernel_rfl
/-- colonnade/colonnaderef03.nulls -/
def F79 : FC := ⟨26, [.tmp 2],
  (sQ [o 1 (.box (q 0)), o 2 (.mov kF)]
  (.seq (sQ [oA 3 2 1, oA 4 0 3, oL 5 4]
  (.block 0 (sQ [o 7 (.bin .eql (q 5) (kI 1) tI), oM 6 7]
  (.cond (q 6)
  (sQ [oA 8 1 1, oL 9 8, oM 2 9]
  .ret)
  (sQ [o 11 (.bin .eql (q 5) (kI 18) tI), oM 10 11]
  (.cond (q 10)
  (sQ [oA 12 1 1, oL 13 12, o 14 (.un .not (q 13)), oM 2 14]
  .ret)
  (sQ [o 16 (.bin .eql (q 5) (kI 20) tI), oM 15 16]
  (.cond (q 15)
  (sQ [oA 17 1 1, oL 18 17, oA 19 2 1, oA 20 4 19, oL 21 20, o 22 (.indexAddr 7 (q 21) (kI 0)), oA 23 1 22, oL 24 23, o 25 (.bin .eql (q 18) (q 24) (some .bool)), oM 2 25]
  .ret)
  .skip))))))))
  (sQ [o 2 (.mov kT)]
  .ret)))⟩
theorem F79_ok : compF Tryz.prog 79 = some F79 := by kernel_rfl
/-- colonnade/kind.all$1 -/
def F80 : FC := ⟨9, [],
  (sQ [o 3 (.box (q 0))]
  (sQ [o 4 (.alloc [.nilFunc])]
  (sQ [o 5 (.mkFunc (.func 81) [] [.tmp 3, .tmp 1, .tmp 4]), oS 1 4 5]
  (.ops [oL 6 4, oL 7 2, o 8 (.callv (q 6) [(.const (.slice none 0 0)), .tmp 7, kF])]))))⟩
theorem F80_ok : compF Tryz.prog 80 = some F80 := by kernel_rfl
/-- colonnade/kind.all$1$1 -/
def F81 : FC := ⟨56, [.tmp 9],
  (sQ [o 9 (.mov kF)]
  (.seq (sQ [oM 13 1, o 14 (.len 1 (q 13)), o 15 (.mov (kI 0))]
  (.block 0 (.loop (sQ [o 16 (.bin .lss (q 15) (q 14) tI)]
  (.seq (.cond (q 16)
  .skip
  (.exit 0))
  (.seq (.block 1 (sQ [oM 17 15, o 18 (.indexAddr 7 (q 13) (q 15)), o 19 (.load true 7 (q 18)), o 11 (.alloc zbZ), oM 10 17, oS 7 11 19]
  (sQ [oM 20 0, o 21 (.call 82 [.tmp 20]), oM 22 10, o 23 (.buildSlice 1 1 [.int .i64 0] [(0, 1, (q 22))]), o 24 (.append 1 8 (q 21) (q 23)), oM 12 24]
  (.seq (sQ [oL 25 3, oM 26 12, oM 27 1, oM 28 10, o 29 (.slice 7 (q 27) none (some (q 28)) none), o 30 (.load true 7 (q 11)), oM 31 2, o 32 (.build zdZ [(0, 1, (q 26)), (1, 1, (q 29)), (2, 7, (q 30)), (9, 1, (q 31))]), o 33 (.callv (q 25) [.tmp 32]), o 34 (.un .not (q 33))]
  (.cond (q 34)
  (sQ [o 9 (.mov kF)]
  .ret)
  .skip))
  (sQ [oM 35 12, o 36 (.len 1 (q 35)), oL 37 4, o 38 (.bin .lss (q 36) (q 37) tI), oM 39 38, og 40 (.load false 1 (q 5)) 39 true, og 41 (.mov (q 12)) 39 true, og 42 (.fieldAddr 2 (q 11)) 39 true, og 43 (.fieldAddr 4 (q 42)) 39 true, og 44 (.load false 1 (q 43)) 39 true, og 45 (.mov (q 2)) 39 true, og 46 (.mov (q 45)) 39 true, og 47 (.fieldAddr 2 (q 11)) 46 false, og 48 (.fieldAddr 0 (q 47)) 46 false, og 49 (.load false 1 (q 48)) 46 false, og 50 (.bin .eql (q 49) (kI 19) tI) 46 false, og 51 (.pick (q 46) kT (q 50)) 39 true, og 52 (.callv (q 40) [.tmp 41, .tmp 44, .tmp 51]) 39 true, og 53 (.un .not (q 52)) 39 true, o 54 (.pick (q 39) (q 53) kF)]
  (.cond (q 54)
  (sQ [o 9 (.mov kF)]
  .ret)
  .skip))))))
  (.ops [o 55 (.bin .add (q 15) (kI 1) tI), oM 15 55])))))))
  (sQ [o 9 (.mov kT)]
  .ret)))⟩
theorem F81_ok : compF Tryz.prog 81 = some F81 := by kernel_rfl
/-- slices.Clone[[]int,int] -/
def F82 : FC := ⟨8, [.tmp 2],
  (sQ [o 2 (.mov (.const (.slice none 0 0)))]
  (.seq (sQ [oM 3 0, o 4 (.bin .eql (q 3) (.const (.slice none 0 0)) (some (.slice 3)))]
  (.cond (q 4)
  (sQ [o 2 (.mov (.const (.slice none 0 0)))]
  .ret)
  .skip))
  (sQ [o 5 (.buildSlice 1 0 [] []), oM 6 0, o 7 (.append 1 8 (q 5) (q 6)), oM 2 7]
  .ret)))⟩
theorem F82_ok : compF Tryz.prog 82 = some F82 := by kernel_rfl
/-- colonnade/kind.named -/
def F83 : FC := ⟨36, [.tmp 2],
  (sQ [o 2 (.mov kF)]
  (.seq (sQ [oM 5 0, o 6 (.len 0 (q 5)), o 7 (.mov (kI 0))]
  (.block 0 (.loop (sQ [o 8 (.bin .lss (q 7) (q 6) tI)]
  (.seq (.cond (q 8)
  .skip
  (.exit 0))
  (.seq (.block 1 (sQ [oM 9 7, oM 3 9]
  (sQ [oM 10 0, oM 11 3, o 12 (.indexStr (q 10) (q 11)), oM 4 12]
  (sQ [oM 13 4, o 14 (.call 105 [.tmp 13]), o 15 (.un .not (q 14)), oM 16 15, og 17 (.mov (q 3)) 16 false, og 18 (.bin .eql (q 17) (kI 0) tI) 16 false, og 19 (.mov (q 18)) 16 false, og 20 (.mov (q 4)) 19 true, og 21 (.bin .geq (q 20) (.const (.int .u8 48)) (some (.int .u8))) 19 true, og 22 (.pick (q 19) (q 21) kF) 16 false, og 23 (.mov (q 22)) 16 false, og 24 (.mov (q 4)) 23 true, og 25 (.bin .leq (q 24) (.const (.int .u8 57)) (some (.int .u8))) 23 true, og 26 (.pick (q 23) (q 25) kF) 16 false, o 27 (.pick (q 16) kT (q 26))]
  (.cond (q 27)
  (sQ [o 2 (.mov kF)]
  .ret)
  .skip)))))
  (.ops [o 28 (.bin .add (q 7) (kI 1) tI), oM 7 28])))))))
  (sQ [oM 29 0, o 30 (.bin .neq (q 29) (.const (.string ⟨#[]⟩)) (some .string)), oM 31 30, og 32 (.mov (q 0)) 31 true, og 33 (.len 0 (q 32)) 31 true, og 34 (.bin .leq (q 33) (kI 48) tI) 31 true, o 35 (.pick (q 31) (q 34) kF), oM 2 35]
  .ret)))⟩
theorem F83_ok : compF Tryz.prog 83 = some F83 := by kernel_rfl
/-- slices.ContainsFunc[[]colonnade/api.Field,colonnade/api.Field] -/
def F84 : FC := ⟨9, [.tmp 4],
  (sQ [o 4 (.mov kF)]
  (sQ [oM 5 0, oM 6 1, o 7 (.call 106 [.tmp 5, .tmp 6]), o 8 (.bin .geq (q 7) (kI 0) tI), oM 4 8]
  .ret))⟩
theorem F84_ok : compF Tryz.prog 84 = some F84 := by kernel_rfl
/-- colonnade/kind.wrong$1 -/
def F85 : FC := ⟨10, [.tmp 3],
  (sQ [o 2 (.box (q 0)), o 3 (.mov kF)]
  (sQ [oA 4 0 2, oL 5 4, oA 6 2 1, oA 7 0 6, oL 8 7, o 9 (.bin .eql (q 5) (q 8) (some .string)), oM 3 9]
  .ret))⟩
theorem F85_ok : compF Tryz.prog 85 = some F85 := by kernel_rfl
/-- colonnade/kind.fits -/
def F86 : FC := ⟨89, [.tmp 2],
  (sQ [o 1 (.box (q 0)), o 2 (.mov kF)]
  (.seq (sQ [oA 9 0 1, oL 10 9, o 11 (.call 107 [.tmp 10]), o 12 (.un .not (q 11))]
  (.cond (q 12)
  (sQ [o 2 (.mov kF)]
  .ret)
  .skip))
  (sQ [o 3 (.mov (kI 0)), o 4 (.mov (kI 0))]
  (sQ [o 5 (.mov (kI 0)), o 6 (.mov kF)]
  (.seq (sQ [oA 13 0 1, oL 14 13]
  (.block 0 (sQ [o 16 (.bin .eql (q 14) (kI 14) tI), oM 15 16]
  (.cond (q 15)
  (.ops [o 5 (.mov (kI 16))])
  (.seq (sQ [o 18 (.bin .eql (q 14) (kI 15) tI), oM 17 18]
  (.cond (q 17)
  .skip
  (.ops [o 19 (.bin .eql (q 14) (kI 20) tI), oM 17 19])))
  (.cond (q 17)
  (.ops [o 3 (.mov (kI 1)), o 4 (.mov (kI 1))])
  (sQ [o 21 (.bin .eql (q 14) (kI 16) tI), oM 20 21]
  (.cond (q 20)
  (.ops [o 3 (.mov (kI 1)), o 4 (.mov (kI 1)), o 5 (.mov (kI 64))])
  (sQ [o 23 (.bin .eql (q 14) (kI 17) tI), oM 22 23]
  (.cond (q 22)
  (.ops [o 4 (.mov (kI 32))])
  (sQ [o 25 (.bin .eql (q 14) (kI 18) tI), oM 24 25]
  (.cond (q 24)
  (.ops [o 3 (.mov (kI 1)), o 4 (.mov (kI 32))])
  (sQ [o 27 (.bin .eql (q 14) (kI 19) tI), oM 26 27]
  (.cond (q 26)
  (.ops [o 3 (.mov (kI 1)), o 4 (.mov (kI 1)), o 6 (.mov kT)])
  .skip))))))))))))))
  (sQ [oA 28 1 1, oL 29 28, o 30 (.bin .eql (q 29) (kI 0) tI), oM 7 30]
  (.seq (sQ [oM 31 5, o 32 (.bin .gtr (q 31) (kI 0) tI)]
  (.cond (q 32)
  (.ops [oA 33 1 1, oL 34 33, o 35 (.bin .geq (q 34) (kI 1) tI), oM 36 35, og 37 (.fieldAddr 1 (q 1)) 36 true, og 38 (.load false 1 (q 37)) 36 true, og 39 (.mov (q 5)) 36 true, og 40 (.bin .leq (q 38) (q 39) tI) 36 true, o 41 (.pick (q 36) (q 40) kF), oM 7 41])
  .skip))
  (sQ [oA 42 2 1, oL 43 42, o 44 (.bin .eql (q 43) (kI 0) tI), oM 45 44, og 46 (.fieldAddr 3 (q 1)) 45 true, og 47 (.load false 1 (q 46)) 45 true, og 48 (.bin .eql (q 47) (kI 0) tI) 45 true, o 49 (.pick (q 45) (q 48) kF), oM 8 49]
  (.seq (sQ [oM 50 6]
  (.cond (q 50)
  (.ops [oA 51 2 1, oL 52 51, o 53 (.bin .geq (q 52) (kI 0) tI), oM 54 53, og 55 (.fieldAddr 2 (q 1)) 54 true, og 56 (.load false 1 (q 55)) 54 true, og 57 (.bin .lss (q 56) (kI 32) tI) 54 true, o 58 (.pick (q 54) (q 57) kF), oM 59 58, og 60 (.fieldAddr 3 (q 1)) 59 true, og 61 (.load false 1 (q 60)) 59 true, og 62 (.call 107 [.tmp 61]) 59 true, o 63 (.pick (q 59) (q 62) kF), oM 64 63, og 65 (.fieldAddr 3 (q 1)) 64 true, og 66 (.load false 1 (q 65)) 64 true, og 67 (.indexAddrArr 4 21 (.global 1) (q 66)) 64 true, og 68 (.fieldAddr 3 (q 67)) 64 true, og 69 (.load false 1 (q 68)) 64 true, o 70 (.pick (q 64) (q 69) kF), oM 8 70])
  .skip))
  (sQ [oM 71 7, oM 72 71, og 73 (.mov (q 8)) 72 true, o 74 (.pick (q 72) (q 73) kF), oM 75 74, og 76 (.fieldAddr 4 (q 1)) 75 true, og 77 (.load false 1 (q 76)) 75 true, og 78 (.len 1 (q 77)) 75 true, og 79 (.mov (q 3)) 75 true, og 80 (.bin .geq (q 78) (q 79) tI) 75 true, o 81 (.pick (q 75) (q 80) kF), oM 82 81, og 83 (.fieldAddr 4 (q 1)) 82 true, og 84 (.load false 1 (q 83)) 82 true, og 85 (.len 1 (q 84)) 82 true, og 86 (.mov (q 4)) 82 true, og 87 (.bin .leq (q 85) (q 86) tI) 82 true, o 88 (.pick (q 82) (q 87) kF), oM 2 88]
  .ret))))))))))⟩
theorem F86_ok : compF Tryz.prog 86 = some F86 := by kernel_rfl
/-- colonnade/kind.nulls -/
def F87 : FC := ⟨26, [.tmp 2],
  (sQ [o 1 (.box (q 0)), o 2 (.mov kF)]
  (.seq (sQ [oA 3 2 1, oA 4 0 3, oL 5 4]
  (.block 0 (sQ [o 7 (.bin .eql (q 5) (kI 1) tI), oM 6 7]
  (.cond (q 6)
  (sQ [oA 8 1 1, oL 9 8, oM 2 9]
  .ret)
  (sQ [o 11 (.bin .eql (q 5) (kI 18) tI), oM 10 11]
  (.cond (q 10)
  (sQ [oA 12 1 1, oL 13 12, o 14 (.un .not (q 13)), oM 2 14]
  .ret)
  (sQ [o 16 (.bin .eql (q 5) (kI 20) tI), oM 15 16]
  (.cond (q 15)
  (sQ [oA 17 1 1, oL 18 17, oA 19 2 1, oA 20 4 19, oL 21 20, o 22 (.indexAddr 7 (q 21) (kI 0)), oA 23 1 22, oL 24 23, o 25 (.bin .eql (q 18) (q 24) (some .bool)), oM 2 25]
  .ret)
  .skip))))))))
  (sQ [o 2 (.mov kT)]
  .ret)))⟩
theorem F87_ok : compF Tryz.prog 87 = some F87 := by kernel_rfl
end Go.Proofs.YtecephhhjhpcjaaGreatDoor.Stats
end
