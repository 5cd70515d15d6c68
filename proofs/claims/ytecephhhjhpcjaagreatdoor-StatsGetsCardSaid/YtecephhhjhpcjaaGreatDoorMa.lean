/- YtecephhhjhpcjaaGreatDoorMa: the texts Sca, Scb, Scc, brought together. No conditions. -/
import Derived.Test.YtecephhhjhpcjaaGreatDoorX22
import Derived.Test.YtecephhhjhpcjaaGreatDoorProg
import Derived.KernelRfl
section
set_option linter.unusedVariables false
namespace Go.Proofs.YtecephhhjhpcjaaGreatDoor.Stats
open Go Go.Proofs.YtecephhhjhpcjaaGreatDoor Go.Proofs.YtecephhhjhpcjaaGreatDoor.Em
def gs : List (List EV) := [[], [.lit (.string ⟨#[]⟩), .lit (.int .i64 0), .lit (.int .i64 0), .lit (.bool false), .lit (.string ⟨#[110, 117, 108, 108]⟩), .lit (.int .i64 0), .lit (.int .i64 0), .lit (.bool false), .lit (.string ⟨#[98, 111, 111, 108]⟩), .lit (.int .i64 0), .lit (.int .i64 2), .lit (.bool false), .lit (.string ⟨#[105, 110, 116, 56]⟩), .lit (.int .i64 1), .lit (.int .i64 2), .lit (.bool true), .lit (.string ⟨#[105, 110, 116, 49, 54]⟩), .lit (.int .i64 2), .lit (.int .i64 2), .lit (.bool true), .lit (.string ⟨#[105, 110, 116, 51, 50]⟩), .lit (.int .i64 4), .lit (.int .i64 2), .lit (.bool true), .lit (.string ⟨#[105, 110, 116, 54, 52]⟩), .lit (.int .i64 8), .lit (.int .i64 2), .lit (.bool true), .lit (.string ⟨#[117, 105, 110, 116, 56]⟩), .lit (.int .i64 1), .lit (.int .i64 2), .lit (.bool true), .lit (.string ⟨#[117, 105, 110, 116, 49, 54]⟩), .lit (.int .i64 2), .lit (.int .i64 2), .lit (.bool true), .lit (.string ⟨#[117, 105, 110, 116, 51, 50]⟩), .lit (.int .i64 4), .lit (.int .i64 2), .lit (.bool true), .lit (.string ⟨#[117, 105, 110, 116, 54, 52]⟩), .lit (.int .i64 8), .lit (.int .i64 2), .lit (.bool true), .lit (.string ⟨#[102, 108, 111, 97, 116, 54, 52]⟩), .lit (.int .i64 8), .lit (.int .i64 2), .lit (.bool false), .lit (.string ⟨#[116, 101, 120, 116]⟩), .lit (.int .i64 0), .lit (.int .i64 3), .lit (.bool false), .lit (.string ⟨#[98, 121, 116, 101, 115]⟩), .lit (.int .i64 0), .lit (.int .i64 3), .lit (.bool false), .lit (.string ⟨#[102, 105, 120, 101, 100]⟩), .lit (.int .i64 0), .lit (.int .i64 2), .lit (.bool false), .lit (.string ⟨#[108, 105, 115, 116]⟩), .lit (.int .i64 0), .lit (.int .i64 2), .lit (.bool false), .lit (.string ⟨#[115, 112, 97, 110]⟩), .lit (.int .i64 0), .lit (.int .i64 1), .lit (.bool false), .lit (.string ⟨#[115, 116, 114, 117, 99, 116]⟩), .lit (.int .i64 0), .lit (.int .i64 1), .lit (.bool false), .lit (.string ⟨#[99, 104, 111, 105, 99, 101]⟩), .lit (.int .i64 0), .lit (.int .i64 2), .lit (.bool false), .lit (.string ⟨#[100, 105, 99, 116]⟩), .lit (.int .i64 0), .lit (.int .i64 2), .lit (.bool false), .lit (.string ⟨#[114, 117, 110, 115]⟩), .lit (.int .i64 0), .lit (.int .i64 0), .lit (.bool false)], [], [.lit (.int .u8 128), .lit (.int .u8 191), .lit (.int .u8 160), .lit (.int .u8 191), .lit (.int .u8 128), .lit (.int .u8 159), .lit (.int .u8 144), .lit (.int .u8 191), .lit (.int .u8 128), .lit (.int .u8 143), .lit (.int .u8 0), .lit (.int .u8 0), .lit (.int .u8 0), .lit (.int .u8 0), .lit (.int .u8 0), .lit (.int .u8 0), .lit (.int .u8 0), .lit (.int .u8 0), .lit (.int .u8 0), .lit (.int .u8 0), .lit (.int .u8 0), .lit (.int .u8 0), .lit (.int .u8 0), .lit (.int .u8 0), .lit (.int .u8 0), .lit (.int .u8 0), .lit (.int .u8 0), .lit (.int .u8 0), .lit (.int .u8 0), .lit (.int .u8 0), .lit (.int .u8 0), .lit (.int .u8 0)]]
abbrev o (n : Nat) (i : EI) : EOp := ⟨some n, i, none⟩
abbrev q (n : Nat) : Operand := .tmp n
abbrev oM (n m : Nat) : EOp := ⟨some n, .mov (.tmp m), none⟩
abbrev oA (n k m : Nat) : EOp := ⟨some n, .fieldAddr k (.tmp m), none⟩
abbrev oL (n m : Nat) : EOp := ⟨some n, .load false 1 (.tmp m), none⟩
abbrev oS (k n m : Nat) : EOp := ⟨none, .store k (.tmp n) (.tmp m), none⟩
abbrev og (n : Nat) (i : EI) (g : Nat) (b : Bool) : EOp := ⟨some n, i, some (g, b)⟩
abbrev tI : Option TypeDesc := some (.int .i64)
abbrev kI (n : Int) : Operand := .const (.int .i64 n)
abbrev kT : Operand := .const (.bool true)
abbrev kF : Operand := .const (.bool false)
abbrev sQ (l : List EOp) (c : EC) : EC := .seq (.ops l) c
abbrev zaZ : List Value := [(.int .i64 0), (.int .i64 0), (.bool false), (.bool false), (.int .i64 0), (.string ⟨#[]⟩), (.slice none 0 0), (.bool false), (.int .i64 0), (.string ⟨#[]⟩), (.slice none 0 0)]
abbrev zbZ : List Value := [(.string ⟨#[]⟩), (.bool false), (.int .i64 0), (.int .i64 0), (.int .i64 0), (.int .i64 0), (.slice none 0 0)]
abbrev zcZ : List Value := [(.bool false), (.int .i64 0), (.string ⟨#[]⟩), (.slice none 0 0)]
abbrev zdZ : List Value := [(.slice none 0 0), (.slice none 0 0), (.string ⟨#[]⟩), (.bool false), (.int .i64 0), (.int .i64 0), (.int .i64 0), (.int .i64 0), (.slice none 0 0), (.bool false)]
abbrev zeZ : List Value := [(.slice none 0 0), (.string ⟨#[]⟩), (.bool false), (.int .i64 0), (.int .i64 0), (.int .i64 0), (.int .i64 0), (.slice none 0 0), (.slice none 0 0), (.bool false)]
def F8 : FC := ⟨38, [.tmp 4],
  (sQ [o 2 (.box (q 0)), o 3 (.box (q 1)), o 4 (.mov kF)]
  (sQ [oA 5 0 2, oL 6 5, oA 7 0 3, oL 8 7, o 9 (.bin .eql (q 6) (q 8) tI), oM 10 9, og 11 (.fieldAddr 1 (q 2)) 10 true, og 12 (.load false 1 (q 11)) 10 true, og 13 (.fieldAddr 1 (q 3)) 10 true, og 14 (.load false 1 (q 13)) 10 true, og 15 (.bin .eql (q 12) (q 14) tI) 10 true, o 16 (.pick (q 10) (q 15) kF), oM 17 16, og 18 (.fieldAddr 2 (q 2)) 17 true, og 19 (.load false 1 (q 18)) 17 true, og 20 (.fieldAddr 2 (q 3)) 17 true, og 21 (.load false 1 (q 20)) 17 true, og 22 (.bin .eql (q 19) (q 21) (some .bool)) 17 true, o 23 (.pick (q 17) (q 22) kF), oM 24 23, og 25 (.fieldAddr 3 (q 2)) 24 true, og 26 (.load true 4 (q 25)) 24 true, og 27 (.fieldAddr 3 (q 3)) 24 true, og 28 (.load true 4 (q 27)) 24 true, og 29 (.call 23 [.tmp 26, .tmp 28]) 24 true, o 30 (.pick (q 24) (q 29) kF), oM 31 30, og 32 (.fieldAddr 7 (q 2)) 31 true, og 33 (.load true 4 (q 32)) 31 true, og 34 (.fieldAddr 7 (q 3)) 31 true, og 35 (.load true 4 (q 34)) 31 true, og 36 (.call 23 [.tmp 33, .tmp 35]) 31 true, o 37 (.pick (q 31) (q 36) kF), oM 4 37]
  .ret))⟩
theorem F8_ok : compF Tryz.prog 8 = some F8 := by kernel_rfl
def F9 : FC := ⟨43, [.tmp 0],
  (sQ [o 0 (.mov kF)]
  (sQ [o 4 (.build [.int .i64 0, .int .i64 0, .int .i64 0, .int .i64 0, .slice none 0 0] [(0, 1, (kI 3))]), o 5 (.build zbZ [(0, 1, (.const (.string ⟨#[97]⟩))), (1, 1, kT), (2, 5, (q 4))]), o 1 (.alloc zbZ), oS 7 1 5]
  (sQ [o 7 (.load true 7 (q 1)), o 8 (.buildSlice 1 1 [.int .u8 0] [(0, 1, (.const (.int .u8 5)))]), o 9 (.buildSlice 1 3 [.int .u8 0, .int .u8 0, .int .u8 0] [(0, 1, (.const (.int .u8 3))), (1, 1, (.const (.int .u8 9))), (2, 1, (.const (.int .u8 255)))]), o 10 (.buildSlice 1 2 [.slice none 0 0, .slice none 0 0] [(0, 1, (q 8)), (1, 1, (q 9))]), o 11 (.build [.int .i64 0, .int .i64 0, .int .i64 0, .slice none 0 0, .slice none 0 0, .slice none 0 0] [(0, 1, (kI 3)), (2, 1, (kI 1)), (3, 1, (q 10))]), o 12 (.call 24 [.tmp 7, .tmp 11]), oM 6 12, o 13 (.extract (q 6) 0), o 14 (.extract (q 6) 1), o 2 (.alloc zaZ), oS 11 2 13, oM 3 14]
  (sQ [oM 15 3, o 16 (.bin .eql (q 15) (kI 0) tI), oM 17 16, og 18 (.fieldAddr 0 (q 2)) 17 true, og 19 (.load false 1 (q 18)) 17 true, og 20 (.bin .eql (q 19) (kI 3) tI) 17 true, o 21 (.pick (q 17) (q 20) kF), oM 22 21, og 23 (.fieldAddr 1 (q 2)) 22 true, og 24 (.load false 1 (q 23)) 22 true, og 25 (.bin .eql (q 24) (kI 1) tI) 22 true, o 26 (.pick (q 22) (q 25) kF), oM 27 26, og 28 (.fieldAddr 2 (q 2)) 27 true, og 29 (.load false 1 (q 28)) 27 true, o 30 (.pick (q 27) (q 29) kF), oM 31 30, og 32 (.fieldAddr 3 (q 2)) 31 true, og 33 (.fieldAddr 1 (q 32)) 31 true, og 34 (.load false 1 (q 33)) 31 true, og 35 (.bin .eql (q 34) (kI (-1)) tI) 31 true, o 36 (.pick (q 31) (q 35) kF), oM 37 36, og 38 (.fieldAddr 7 (q 2)) 37 true, og 39 (.fieldAddr 1 (q 38)) 37 true, og 40 (.load false 1 (q 39)) 37 true, og 41 (.bin .eql (q 40) (kI 3) tI) 37 true, o 42 (.pick (q 37) (q 41) kF), oM 0 42]
  .ret))))⟩
theorem F9_ok : compF Tryz.prog 9 = some F9 := by kernel_rfl
def F15 : FC := ⟨17, [.cell 2 true 3],
  (sQ [o 1 (.box (q 0)), o 2 (.alloc [.int .i64 0, .slice none 0 0, .int .i64 0])]
  (sQ [o 4 (.load true 7 (q 1)), o 5 (.buildSlice 7 1 zbZ [(0, 7, (q 4))]), o 6 (.build [.slice none 0 0, .slice none 0 0] [(0, 1, (q 5))]), o 7 (.call 31 [.tmp 6]), o 3 (.alloc [.int .i64 0, .slice none 0 0, .int .i64 0]), oS 3 3 7]
  (.seq (sQ [oA 8 1 3, oL 9 8, o 10 (.len 1 (q 9)), o 11 (.bin .gtr (q 10) (kI 0) tI)]
  (.cond (q 11)
  (.ops [oA 12 1 3, oL 13 12, o 14 (.slice 1 (q 13) (some (kI 1)) none none), oA 15 1 3, oS 1 15 14])
  .skip))
  (sQ [o 16 (.load true 3 (q 3)), oS 3 2 16]
  .ret))))⟩
theorem F15_ok : compF Tryz.prog 15 = some F15 := by kernel_rfl
def F16 : FC := ⟨72, [.tmp 4],
  (sQ [o 2 (.box (q 0)), o 3 (.box (q 1)), o 4 (.mov kF)]
  (.seq (sQ [oA 6 0 3, oL 7 6, o 8 (.bin .lss (q 7) (kI 0) tI), oM 9 8, og 10 (.fieldAddr 0 (q 3)) 9 false, og 11 (.load false 1 (q 10)) 9 false, og 12 (.bin .gtr (q 11) (kI 1048576) tI) 9 false, o 13 (.pick (q 9) kT (q 12)), oM 14 13, og 15 (.fieldAddr 1 (q 3)) 14 false, og 16 (.load false 1 (q 15)) 14 false, og 17 (.bin .lss (q 16) (kI 0) tI) 14 false, o 18 (.pick (q 14) kT (q 17)), oM 19 18, og 20 (.fieldAddr 1 (q 3)) 19 false, og 21 (.load false 1 (q 20)) 19 false, og 22 (.fieldAddr 0 (q 3)) 19 false, og 23 (.load false 1 (q 22)) 19 false, og 24 (.bin .gtr (q 21) (q 23) tI) 19 false, o 25 (.pick (q 19) kT (q 24))]
  (.cond (q 25)
  (sQ [o 4 (.mov kF)]
  .ret)
  .skip))
  (.seq (sQ [oA 26 2 3, oL 27 26, o 28 (.un .not (q 27))]
  (.cond (q 28)
  (sQ [oA 29 3 3, o 30 (.load true 4 (q 29)), o 31 (.call 37 [.tmp 30]), oM 32 31, og 33 (.fieldAddr 7 (q 3)) 32 true, og 34 (.load true 4 (q 33)) 32 true, og 35 (.call 37 [.tmp 34]) 32 true, o 36 (.pick (q 32) (q 35) kF), oM 4 36]
  .ret)
  .skip))
  (sQ [o 37 (.load true 7 (q 2)), o 38 (.call 17 [.tmp 37]), o 5 (.alloc zbZ), oS 7 5 38]
  (.seq (sQ [oA 39 2 5, oA 40 0 39, oL 41 40, o 42 (.call 38 [.tmp 41]), o 43 (.un .not (q 42)), oM 44 43, og 45 (.fieldAddr 1 (q 3)) 44 false, og 46 (.load false 1 (q 45)) 44 false, og 47 (.fieldAddr 0 (q 3)) 44 false, og 48 (.load false 1 (q 47)) 44 false, og 49 (.bin .eql (q 46) (q 48) tI) 44 false, o 50 (.pick (q 44) kT (q 49)), oM 51 50, og 52 (.load true 7 (q 5)) 51 false, og 53 (.fieldAddr 3 (q 3)) 51 false, og 54 (.load true 4 (q 53)) 51 false, og 55 (.call 39 [.tmp 52, .tmp 54]) 51 false, og 56 (.un .not (q 55)) 51 false, o 57 (.pick (q 51) kT (q 56)), oM 58 57, og 59 (.load true 7 (q 5)) 58 false, og 60 (.fieldAddr 7 (q 3)) 58 false, og 61 (.load true 4 (q 60)) 58 false, og 62 (.call 39 [.tmp 59, .tmp 61]) 58 false, og 63 (.un .not (q 62)) 58 false, o 64 (.pick (q 58) kT (q 63))]
  (.cond (q 64)
  (sQ [o 4 (.mov kF)]
  .ret)
  .skip))
  (sQ [o 65 (.load true 7 (q 5)), oA 66 3 3, o 67 (.load true 4 (q 66)), oA 68 7 3, o 69 (.load true 4 (q 68)), o 70 (.call 18 [.tmp 65, .tmp 67, .tmp 69]), o 71 (.bin .leq (q 70) (kI 0) tI), oM 4 71]
  .ret))))))⟩
theorem F16_ok : compF Tryz.prog 16 = some F16 := by kernel_rfl
def F17 : FC := ⟨31, [.cell 2 true 7],
  (sQ [o 1 (.box (q 0)), o 2 (.alloc zbZ)]
  (.seq (.block 0 (.loop (.seq (sQ [oA 4 2 1, oA 5 0 4, oL 6 5, o 7 (.bin .eql (q 6) (kI 19) tI), oM 8 7, og 9 (.fieldAddr 2 (q 1)) 8 false, og 10 (.fieldAddr 0 (q 9)) 8 false, og 11 (.load false 1 (q 10)) 8 false, og 12 (.bin .eql (q 11) (kI 20) tI) 8 false, o 13 (.pick (q 8) kT (q 12))]
  (.cond (q 13)
  .skip
  (.exit 0)))
  (.block 1 (sQ [oA 14 2 1, oA 15 4 14, oL 16 15, o 17 (.indexAddr 7 (q 16) (kI 0)), o 18 (.load true 7 (q 17)), o 3 (.alloc zbZ), oS 7 3 18]
  (.seq (sQ [oA 19 2 1, oA 20 0 19, oL 21 20, o 22 (.bin .eql (q 21) (kI 19) tI)]
  (.cond (q 22)
  (.ops [oA 23 1 1, oL 24 23, oA 25 1 3, oS 1 25 24])
  .skip))
  (sQ [oA 26 0 1, oL 27 26, oA 28 0 3, oS 1 28 27]
  (.ops [o 29 (.load true 7 (q 3)), oS 7 1 29]))))))))
  (sQ [o 30 (.load true 7 (q 1)), oS 7 2 30]
  .ret)))⟩
theorem F17_ok : compF Tryz.prog 17 = some F17 := by kernel_rfl
def F18 : FC := ⟨28, [.tmp 6],
  (sQ [o 3 (.box (q 0)), o 4 (.box (q 1)), o 5 (.box (q 2)), o 6 (.mov (kI 0))]
  (.seq (sQ [oA 9 2 3, oA 10 0 9, oL 11 10, o 12 (.call 40 [.tmp 11])]
  (.cond (q 12)
  (sQ [oA 13 2 4, oL 14 13, oA 15 2 5, oL 16 15, o 17 (.call 41 [.tmp 14, .tmp 16]), oM 6 17]
  .ret)
  .skip))
  (sQ [oA 19 2 3, o 20 (.load true 5 (q 19)), o 21 (.build zbZ [(0, 1, (.const (.string ⟨#[97]⟩))), (2, 5, (q 20))]), o 22 (.load true 4 (q 4)), o 23 (.load true 4 (q 5)), o 24 (.call 42 [.tmp 21, .tmp 22, .tmp 23]), oM 18 24, o 25 (.extract (q 18) 0), o 26 (.extract (q 18) 1), oM 7 25, oM 8 26]
  (sQ [oM 27 7, oM 6 27]
  .ret))))⟩
theorem F18_ok : compF Tryz.prog 18 = some F18 := by kernel_rfl
def F20 : FC := ⟨74, [.tmp 4],
  (sQ [o 2 (.box (q 0)), o 3 (.box (q 1)), o 4 (.mov kF)]
  (.seq (sQ [oA 9 0 3, oL 10 9, o 11 (.bin .lss (q 10) (kI 0) tI), oM 12 11, og 13 (.fieldAddr 0 (q 3)) 12 false, og 14 (.load false 1 (q 13)) 12 false, og 15 (.bin .gtr (q 14) (kI 1048576) tI) 12 false, o 16 (.pick (q 12) kT (q 15)), oM 17 16, og 18 (.fieldAddr 1 (q 3)) 17 false, og 19 (.load false 1 (q 18)) 17 false, og 20 (.bin .lss (q 19) (kI 0) tI) 17 false, o 21 (.pick (q 17) kT (q 20)), oM 22 21, og 23 (.fieldAddr 1 (q 3)) 22 false, og 24 (.load false 1 (q 23)) 22 false, og 25 (.fieldAddr 0 (q 3)) 22 false, og 26 (.load false 1 (q 25)) 22 false, og 27 (.bin .gtr (q 24) (q 26) tI) 22 false, o 28 (.pick (q 22) kT (q 27))]
  (.cond (q 28)
  (sQ [o 4 (.mov kF)]
  .ret)
  .skip))
  (.seq (sQ [oA 29 2 3, oL 30 29, o 31 (.un .not (q 30))]
  (.cond (q 31)
  (sQ [oA 32 3 3, o 33 (.load true 4 (q 32)), o 34 (.call 44 [.tmp 33]), oM 35 34, og 36 (.fieldAddr 7 (q 3)) 35 true, og 37 (.load true 4 (q 36)) 35 true, og 38 (.call 44 [.tmp 37]) 35 true, o 39 (.pick (q 35) (q 38) kF), oM 4 39]
  .ret)
  .skip))
  (sQ [o 40 (.load true 7 (q 2)), o 41 (.call 21 [.tmp 40]), oM 5 41]
  (sQ [oM 42 5, o 43 (.call 45 [.tmp 42]), oM 6 43]
  (.seq (sQ [oM 44 6, o 45 (.un .not (q 44)), oM 46 45, og 47 (.fieldAddr 1 (q 3)) 46 false, og 48 (.load false 1 (q 47)) 46 false, og 49 (.fieldAddr 0 (q 3)) 46 false, og 50 (.load false 1 (q 49)) 46 false, og 51 (.bin .eql (q 48) (q 50) tI) 46 false, o 52 (.pick (q 46) kT (q 51))]
  (.cond (q 52)
  (sQ [o 4 (.mov kF)]
  .ret)
  .skip))
  (sQ [oM 53 5, oA 54 3 3, o 55 (.load true 4 (q 54)), o 56 (.call 46 [.tmp 53, .tmp 55]), oM 7 56]
  (sQ [oM 57 5, oA 58 7 3, o 59 (.load true 4 (q 58)), o 60 (.call 46 [.tmp 57, .tmp 59]), oM 8 60]
  (sQ [oM 61 7, oM 62 61, og 63 (.mov (q 8)) 62 true, o 64 (.pick (q 62) (q 63) kF), oM 65 64, og 66 (.mov (q 5)) 65 true, og 67 (.fieldAddr 3 (q 3)) 65 true, og 68 (.load true 4 (q 67)) 65 true, og 69 (.fieldAddr 7 (q 3)) 65 true, og 70 (.load true 4 (q 69)) 65 true, og 71 (.call 22 [.tmp 66, .tmp 68, .tmp 70]) 65 true, og 72 (.bin .leq (q 71) (kI 0) tI) 65 true, o 73 (.pick (q 65) (q 72) kF), oM 4 73]
  .ret)))))))))⟩
theorem F20_ok : compF Tryz.prog 20 = some F20 := by kernel_rfl
def F21 : FC := ⟨9, [.tmp 2],
  (sQ [o 1 (.box (q 0)), o 2 (.mov (kI 0))]
  (sQ [o 4 (.load true 7 (q 1)), o 5 (.call 47 [.tmp 4]), o 3 (.alloc zbZ), oS 7 3 5]
  (sQ [oA 6 2 3, oA 7 0 6, oL 8 7, oM 2 8]
  .ret)))⟩
theorem F21_ok : compF Tryz.prog 21 = some F21 := by kernel_rfl
def F22 : FC := ⟨12, [.tmp 6],
  (sQ [o 4 (.box (q 1)), o 5 (.box (q 2)), o 6 (.mov (kI 0))]
  (sQ [oM 7 0, o 9 (.load true 4 (q 4)), o 10 (.load true 4 (q 5)), o 8 (.call 49 [.tmp 7]), ⟨none, .again 10 true 4 (q 5), none⟩, ⟨none, .again 9 true 4 (q 4), none⟩, o 11 (.call 48 [.tmp 8, .tmp 9, .tmp 10]), oM 6 11]
  .ret))⟩
theorem F22_ok : compF Tryz.prog 22 = some F22 := by kernel_rfl
def F23 : FC := ⟨55, [.tmp 4],
  (sQ [o 2 (.box (q 0)), o 3 (.box (q 1)), o 4 (.mov kF)]
  (.seq (sQ [oA 7 0 2, oL 8 7, oA 9 0 3, oL 10 9, o 11 (.bin .neq (q 8) (q 10) (some .bool)), oM 12 11, og 13 (.fieldAddr 1 (q 2)) 12 false, og 14 (.load false 1 (q 13)) 12 false, og 15 (.fieldAddr 1 (q 3)) 12 false, og 16 (.load false 1 (q 15)) 12 false, og 17 (.bin .neq (q 14) (q 16) tI) 12 false, o 18 (.pick (q 12) kT (q 17)), oM 19 18, og 20 (.fieldAddr 2 (q 2)) 19 false, og 21 (.load false 1 (q 20)) 19 false, og 22 (.fieldAddr 2 (q 3)) 19 false, og 23 (.load false 1 (q 22)) 19 false, og 24 (.bin .neq (q 21) (q 23) (some .string)) 19 false, o 25 (.pick (q 19) kT (q 24)), oM 26 25, og 27 (.fieldAddr 3 (q 2)) 26 false, og 28 (.load false 1 (q 27)) 26 false, og 29 (.len 1 (q 28)) 26 false, og 30 (.fieldAddr 3 (q 3)) 26 false, og 31 (.load false 1 (q 30)) 26 false, og 32 (.len 1 (q 31)) 26 false, og 33 (.bin .neq (q 29) (q 32) tI) 26 false, o 34 (.pick (q 26) kT (q 33))]
  (.cond (q 34)
  (sQ [o 4 (.mov kF)]
  .ret)
  .skip))
  (.seq (sQ [o 5 (.mov (kI 0))]
  (.block 0 (.loop (.seq (sQ [oM 35 5, oA 36 3 2, oL 37 36, o 38 (.len 1 (q 37)), o 39 (.bin .lss (q 35) (q 38) tI)]
  (.cond (q 39)
  .skip
  (.exit 0)))
  (.seq (.block 1 (sQ [oA 42 3 2, oL 43 42, oM 44 5, o 45 (.indexAddr 4 (q 43) (q 44)), o 46 (.load true 4 (q 45)), oA 47 3 3, oL 48 47, oM 49 5, o 50 (.indexAddr 4 (q 48) (q 49)), o 51 (.load true 4 (q 50)), o 52 (.call 23 [.tmp 46, .tmp 51]), oM 6 52]
  (sQ [oM 53 6, o 54 (.un .not (q 53))]
  (.cond (q 54)
  (sQ [o 4 (.mov kF)]
  .ret)
  .skip))))
  (.ops [oM 40 5, o 41 (.bin .add (q 40) (kI 1) tI), oM 5 41]))))))
  (sQ [o 4 (.mov kT)]
  .ret))))⟩
theorem F23_ok : compF Tryz.prog 23 = some F23 := by kernel_rfl
def F24 : FC := ⟨99, [.cell 4 true 11, .tmp 5],
  (sQ [o 2 (.box (q 0)), o 3 (.box (q 1)), o 4 (.alloc zaZ), o 5 (.mov (kI 0))]
  (.seq (sQ [o 15 (.load true 7 (q 2)), o 16 (.call 15 [.tmp 15]), o 17 (.field false 0 1 (q 16)), o 18 (.bin .neq (q 17) (kI 0) tI)]
  (.cond (q 18)
  (sQ [o 19 (.build zaZ []), oS 11 4 19, o 5 (.mov (kI 5))]
  .ret)
  .skip))
  (sQ [o 21 (.load true 7 (q 2)), o 22 (.load true 6 (q 3)), o 23 (.call 50 [.tmp 21, .tmp 22]), oM 20 23, o 24 (.extract (q 20) 0), o 25 (.extract (q 20) 1), o 7 (.alloc [.int .i64 0, .slice none 0 0, .int .i64 0]), oM 6 24, oS 3 7 25]
  (.seq (sQ [oA 26 0 7, oL 27 26, o 28 (.bin .neq (q 27) (kI 0) tI)]
  (.cond (q 28)
  (sQ [o 29 (.build zaZ []), oA 30 0 7, oL 31 30, oS 11 4 29, ⟨none, .again 31 false 1 (q 30), none⟩, oM 5 31]
  .ret)
  .skip))
  (sQ [o 32 (.load true 7 (q 2)), o 33 (.call 17 [.tmp 32]), o 8 (.alloc zbZ), oS 7 8 33]
  (sQ [oM 34 6, o 35 (.call 51 [.tmp 34]), o 36 (.build zaZ [(0, 1, (q 35))]), o 9 (.alloc zaZ), oS 11 9 36]
  (sQ [o 37 (.build zcZ []), o 38 (.build zcZ []), o 10 (.alloc zcZ), o 11 (.alloc zcZ), oS 4 10 37, oS 4 11 38]
  (sQ [o 12 (.alloc [.bool false]), ⟨none, .store 1 (q 12) kF, none⟩]
  (.seq (sQ [oM 39 6, o 40 (.call 52 [.tmp 39])]
  (.block 0 (.rf (q 40) [41, 42]
  (.ops [o 14 (.alloc zcZ), oS 4 14 42])
  (.block 1 (.seq (sQ [oA 43 0 14, oL 44 43]
  (.cond (q 44)
  (sQ [oA 45 1 9, oL 46 45, o 47 (.bin .add (q 46) (kI 1) tI), oA 48 1 9, oS 1 48 47]
  (.exit 1))
  .skip))
  (.seq (sQ [oA 49 2 8, oA 50 0 49, oL 51 50, o 52 (.call 38 [.tmp 51]), o 53 (.un .not (q 52))]
  (.cond (q 53)
  (.exit 1)
  .skip))
  (.seq (sQ [oL 54 12, o 55 (.un .not (q 54)), oM 56 55, og 57 (.load true 7 (q 8)) 56 false, og 58 (.load true 4 (q 14)) 56 false, og 59 (.load true 4 (q 10)) 56 false, og 60 (.call 18 [.tmp 57, .tmp 58, .tmp 59]) 56 false, og 61 (.bin .lss (q 60) (kI 0) tI) 56 false, o 62 (.pick (q 56) kT (q 61))]
  (.cond (q 62)
  (.ops [o 63 (.load true 4 (q 14)), oS 4 10 63])
  .skip))
  (.seq (sQ [oL 64 12, o 65 (.un .not (q 64)), oM 66 65, og 67 (.load true 7 (q 8)) 66 false, og 68 (.load true 4 (q 14)) 66 false, og 69 (.load true 4 (q 11)) 66 false, og 70 (.call 18 [.tmp 67, .tmp 68, .tmp 69]) 66 false, og 71 (.bin .gtr (q 70) (kI 0) tI) 66 false, o 72 (.pick (q 66) kT (q 71))]
  (.cond (q 72)
  (.ops [o 73 (.load true 4 (q 14)), oS 4 11 73])
  .skip))
  (.ops [⟨none, .store 1 (q 12) kT, none⟩])))))))))
  (.seq (sQ [oL 74 12, oM 75 74, og 76 (.fieldAddr 2 (q 8)) 75 true, og 77 (.fieldAddr 0 (q 76)) 75 true, og 78 (.load false 1 (q 77)) 75 true, og 79 (.call 40 [.tmp 78]) 75 true, o 80 (.pick (q 75) (q 79) kF)]
  (.cond (q 80)
  (sQ [oA 81 2 10, oL 82 81, o 83 (.call 53 [.tmp 82]), oA 84 2 10, oS 1 84 83]
  (.ops [oA 86 2 11, oL 87 86, o 88 (.call 54 [.tmp 87]), oM 85 88, o 89 (.extract (q 85) 0), o 90 (.extract (q 85) 1), oA 91 2 11, oS 1 91 89, oS 1 12 90]))
  .skip))
  (.seq (sQ [oL 92 12]
  (.cond (q 92)
  (.ops [o 93 (.load true 4 (q 10)), o 94 (.load true 4 (q 11)), oA 95 2 9, ⟨none, .store 1 (q 95) kT, none⟩, ⟨none, .again 94 true 4 (q 11), none⟩, ⟨none, .again 93 true 4 (q 10), none⟩, oA 96 3 9, oS 4 96 93, ⟨none, .again 94 true 4 (q 11), none⟩, oA 97 7 9, oS 4 97 94])
  .skip))
  (sQ [o 98 (.load true 11 (q 9)), oS 11 4 98, o 5 (.mov (kI 0))]
  .ret))))))))))))⟩
theorem F24_ok : compF Tryz.prog 24 = some F24 := by kernel_rfl
def F28 : FC := ⟨61, [.cell 2 true 3],
  (sQ [o 1 (.box (q 0)), o 2 (.alloc [.int .i64 0, .slice none 0 0, .int .i64 0])]
  (.seq (sQ [oA 8 0 1, oL 9 8, o 10 (.len 1 (q 9)), o 11 (.bin .gtr (q 10) (kI 32) tI)]
  (.cond (q 11)
  (sQ [o 12 (.build [.int .i64 0, .slice none 0 0, .int .i64 0] [(0, 1, (kI 34)), (2, 1, (kI 32))]), oS 3 2 12]
  .ret)
  .skip))
  (.seq (sQ [oA 13 1 1, oL 14 13, o 15 (.len 1 (q 14)), o 16 (.bin .gtr (q 15) (kI 16) tI)]
  (.cond (q 16)
  (sQ [o 17 (.build [.int .i64 0, .slice none 0 0, .int .i64 0] [(0, 1, (kI 34)), (2, 1, (kI 16))]), oS 3 2 17]
  .ret)
  .skip))
  (.seq (sQ [oA 18 1 1, oL 19 18, o 20 (.len 1 (q 19)), o 21 (.mov (kI 0))]
  (.block 0 (.loop (sQ [o 22 (.bin .lss (q 21) (q 20) tI)]
  (.seq (.cond (q 22)
  .skip
  (.exit 0))
  (.seq (.block 1 (sQ [oM 23 21, o 24 (.indexAddr 2 (q 19) (q 21)), o 25 (.load true 2 (q 24)), o 4 (.alloc [(.string ⟨#[]⟩), (.string ⟨#[]⟩)]), oM 3 23, oS 2 4 25]
  (sQ [oA 26 0 4, oL 27 26, o 28 (.len 0 (q 27)), o 29 (.bin .gtr (q 28) (kI 256) tI), oM 30 29, og 31 (.fieldAddr 1 (q 4)) 30 false, og 32 (.load false 1 (q 31)) 30 false, og 33 (.len 0 (q 32)) 30 false, og 34 (.bin .gtr (q 33) (kI 256) tI) 30 false, o 35 (.pick (q 30) kT (q 34))]
  (.cond (q 35)
  (sQ [oM 36 3, o 37 (.build [.int .i64 0, .slice none 0 0, .int .i64 0] [(0, 1, (kI 37)), (2, 1, (q 36))]), oS 3 2 37]
  .ret)
  .skip))))
  (.ops [o 38 (.bin .add (q 21) (kI 1) tI), oM 21 38])))))))
  (sQ [oA 39 0 1, oL 40 39, o 41 (.call 55 [.tmp 40, (.const (.slice none 0 0)), kF, (.const (.slice none 0 0))]), oM 5 41]
  (.seq (sQ [oM 42 5, o 43 (.len 1 (q 42)), o 44 (.mov (kI 0))]
  (.block 2 (.loop (sQ [o 45 (.bin .lss (q 44) (q 43) tI)]
  (.seq (.cond (q 45)
  .skip
  (.exit 2))
  (.seq (.block 3 (sQ [oM 46 44, oM 6 46]
  (sQ [oM 47 5, oM 48 6, o 49 (.call 56 [.tmp 47, .tmp 48]), oM 7 49]
  (sQ [oM 50 7, o 51 (.bin .neq (q 50) (kI 0) tI)]
  (.cond (q 51)
  (sQ [oM 52 7, oM 53 5, oM 54 6, o 55 (.indexAddr 10 (q 53) (q 54)), oA 56 0 55, oL 57 56, o 58 (.build [.int .i64 0, .slice none 0 0, .int .i64 0] [(0, 1, (q 52)), (1, 1, (q 57))]), oS 3 2 58]
  .ret)
  .skip)))))
  (.ops [o 59 (.bin .add (q 44) (kI 1) tI), oM 44 59])))))))
  (sQ [o 60 (.build [.int .i64 0, .slice none 0 0, .int .i64 0] []), oS 3 2 60]
  .ret)))))))⟩
theorem F28_ok : compF Tryz.prog 28 = some F28 := by kernel_rfl
def F31 : FC := ⟨71, [.cell 2 true 3],
  (sQ [o 1 (.box (q 0)), o 2 (.alloc [.int .i64 0, .slice none 0 0, .int .i64 0])]
  (.seq (.block 0 (sQ [oA 10 0 1, oL 11 10, o 12 (.len 1 (q 11)), o 13 (.bin .gtr (q 12) (kI 32) tI), oM 9 13]
  (.cond (q 9)
  (sQ [o 14 (.build [.int .i64 0, .slice none 0 0, .int .i64 0] [(0, 1, (kI 34)), (2, 1, (kI 32))]), oS 3 2 14]
  .ret)
  (sQ [oA 16 1 1, oL 17 16, o 18 (.len 1 (q 17)), o 19 (.bin .gtr (q 18) (kI 16) tI), oM 15 19]
  (.cond (q 15)
  (sQ [o 20 (.build [.int .i64 0, .slice none 0 0, .int .i64 0] [(0, 1, (kI 34)), (2, 1, (kI 16))]), oS 3 2 20]
  .ret)
  .skip)))))
  (.seq (sQ [oA 21 1 1, oL 22 21, o 23 (.len 1 (q 22)), o 24 (.mov (kI 0))]
  (.block 1 (.loop (sQ [o 25 (.bin .lss (q 24) (q 23) tI)]
  (.seq (.cond (q 25)
  .skip
  (.exit 1))
  (.seq (.block 2 (sQ [oM 26 24, o 27 (.indexAddr 2 (q 22) (q 24)), o 28 (.load true 2 (q 27)), o 4 (.alloc [(.string ⟨#[]⟩), (.string ⟨#[]⟩)]), oM 3 26, oS 2 4 28]
  (sQ [oA 29 0 4, oL 30 29, o 31 (.len 0 (q 30)), o 32 (.bin .gtr (q 31) (kI 256) tI), oM 33 32, og 34 (.fieldAddr 1 (q 4)) 33 false, og 35 (.load false 1 (q 34)) 33 false, og 36 (.len 0 (q 35)) 33 false, og 37 (.bin .gtr (q 36) (kI 256) tI) 33 false, o 38 (.pick (q 33) kT (q 37))]
  (.cond (q 38)
  (sQ [oM 39 3, o 40 (.build [.int .i64 0, .slice none 0 0, .int .i64 0] [(0, 1, (kI 37)), (2, 1, (q 39))]), oS 3 2 40]
  .ret)
  .skip))))
  (.ops [o 41 (.bin .add (q 24) (kI 1) tI), oM 24 41])))))))
  (sQ [o 5 (.alloc [.int .i64 0]), ⟨none, .store 1 (q 5) (kI 0), none⟩]
  (sQ [o 42 (.mkMap), o 6 (.alloc [.map none]), oS 1 6 42]
  (.seq (sQ [oA 43 0 1, oL 44 43, o 45 (.call 58 [.tmp 44, (kI 65)])]
  (.block 3 (.rf (q 45) [46]
  (.ops [o 7 (.alloc zdZ), oS 10 7 46])
  (.block 4 (.seq (sQ [o 47 (.load true 10 (q 7)), oL 48 5, oL 49 6, o 50 (.call 59 [.tmp 47, .tmp 48, .tmp 49]), oM 8 50]
  (sQ [oM 51 8, o 52 (.bin .neq (q 51) (kI 0) tI)]
  (.cond (q 52)
  (sQ [oM 53 8, oA 54 0 7, oL 55 54, o 56 (.build [.int .i64 0, .slice none 0 0, .int .i64 0] [(0, 1, (q 53)), (1, 1, (q 55))]), oS 3 2 56]
  .ret)
  .skip)))
  (sQ [oL 57 5, o 58 (.bin .add (q 57) (kI 1) tI), oS 1 5 58]
  (sQ [oA 59 2 7, oA 60 2 59, oA 61 0 60, oL 62 61, o 63 (.bin .eql (q 62) (kI 19) tI)]
  (.cond (q 63)
  (.ops [oL 64 6, oA 65 2 7, oA 66 2 65, oA 67 2 66, oL 68 67, oL 69 5, ⟨none, .mapSet 0 (q 64) (q 68) (q 69), none⟩])
  .skip))))))))
  (sQ [o 70 (.build [.int .i64 0, .slice none 0 0, .int .i64 0] []), oS 3 2 70]
  .ret)))))))⟩
theorem F31_ok : compF Tryz.prog 31 = some F31 := by kernel_rfl
def F37 : FC := ⟨22, [.tmp 2],
  (sQ [o 1 (.box (q 0)), o 2 (.mov kF)]
  (sQ [oA 3 0 1, oL 4 3, o 5 (.un .not (q 4)), oM 6 5, og 7 (.fieldAddr 1 (q 1)) 6 true, og 8 (.load false 1 (q 7)) 6 true, og 9 (.bin .eql (q 8) (kI 0) tI) 6 true, o 10 (.pick (q 6) (q 9) kF), oM 11 10, og 12 (.fieldAddr 2 (q 1)) 11 true, og 13 (.load false 1 (q 12)) 11 true, ⟨some 14, .bin .eql (q 13) (.const (.string ⟨#[]⟩)) (some .string), some (11, true)⟩, o 15 (.pick (q 11) (q 14) kF), oM 16 15, og 17 (.fieldAddr 3 (q 1)) 16 true, og 18 (.load false 1 (q 17)) 16 true, og 19 (.len 1 (q 18)) 16 true, og 20 (.bin .eql (q 19) (kI 0) tI) 16 true, o 21 (.pick (q 16) (q 20) kF), oM 2 21]
  .ret))⟩
theorem F37_ok : compF Tryz.prog 37 = some F37 := by kernel_rfl
def F38 : FC := ⟨9, [.tmp 2],
  (sQ [o 2 (.mov kF)]
  (sQ [oM 3 0, o 4 (.bin .geq (q 3) (kI 2) tI), oM 5 4, og 6 (.mov (q 0)) 5 true, og 7 (.bin .leq (q 6) (kI 14) tI) 5 true, o 8 (.pick (q 5) (q 7) kF), oM 2 8]
  .ret))⟩
theorem F38_ok : compF Tryz.prog 38 = some F38 := by kernel_rfl
def F39 : FC := ⟨32, [.tmp 4],
  (sQ [o 2 (.box (q 0)), o 3 (.box (q 1)), o 4 (.mov kF)]
  (.seq (sQ [oA 5 0 3, oL 6 5, oM 7 6, og 8 (.fieldAddr 3 (q 3)) 7 false, og 9 (.load false 1 (q 8)) 7 false, og 10 (.len 1 (q 9)) 7 false, og 11 (.bin .gtr (q 10) (kI 0) tI) 7 false, o 12 (.pick (q 7) kT (q 11))]
  (.cond (q 12)
  (sQ [o 4 (.mov kF)]
  .ret)
  .skip))
  (.seq (sQ [oA 13 2 2, oA 14 0 13, oL 15 14, o 16 (.call 40 [.tmp 15])]
  (.cond (q 16)
  (sQ [oA 17 1 3, oL 18 17, o 19 (.bin .eql (q 18) (kI 0) tI), oM 20 19, og 21 (.fieldAddr 2 (q 3)) 20 true, og 22 (.load false 1 (q 21)) 20 true, og 23 (.len 0 (q 22)) 20 true, og 24 (.bin .leq (q 23) (kI 16) tI) 20 true, o 25 (.pick (q 20) (q 24) kF), oM 4 25]
  .ret)
  .skip))
  (sQ [oA 26 2 2, o 27 (.load true 5 (q 26)), o 28 (.build zbZ [(0, 1, (.const (.string ⟨#[97]⟩))), (2, 5, (q 27))]), o 29 (.load true 4 (q 3)), o 30 (.call 62 [.tmp 28, .tmp 29]), o 31 (.bin .eql (q 30) (kI 0) tI), oM 4 31]
  .ret))))⟩
theorem F39_ok : compF Tryz.prog 39 = some F39 := by kernel_rfl
def F40 : FC := ⟨9, [.tmp 2],
  (sQ [o 2 (.mov kF)]
  (sQ [oM 3 0, o 4 (.bin .geq (q 3) (kI 12) tI), oM 5 4, og 6 (.mov (q 0)) 5 true, og 7 (.bin .leq (q 6) (kI 14) tI) 5 true, o 8 (.pick (q 5) (q 7) kF), oM 2 8]
  .ret))⟩
theorem F40_ok : compF Tryz.prog 40 = some F40 := by kernel_rfl
def F42 : FC := ⟨27, [.tmp 6, .tmp 7],
  (sQ [o 3 (.box (q 0)), o 4 (.box (q 1)), o 5 (.box (q 2)), o 6 (.mov (kI 0)), o 7 (.mov (kI 0))]
  (.seq (.block 0 (sQ [o 9 (.load true 7 (q 3)), o 10 (.call 64 [.tmp 9]), o 11 (.un .not (q 10)), oM 8 11]
  (.cond (q 8)
  (sQ [o 6 (.mov (kI 0)), o 7 (.mov (kI 5))]
  .ret)
  (sQ [o 13 (.load true 7 (q 3)), o 14 (.load true 4 (q 4)), o 15 (.call 65 [.tmp 13, .tmp 14]), o 16 (.un .not (q 15)), oM 17 16, og 18 (.load true 7 (q 3)) 17 false, og 19 (.load true 4 (q 5)) 17 false, og 20 (.call 65 [.tmp 18, .tmp 19]) 17 false, og 21 (.un .not (q 20)) 17 false, o 22 (.pick (q 17) kT (q 21)), oM 12 22]
  (.cond (q 12)
  (sQ [o 6 (.mov (kI 0)), o 7 (.mov (kI 7))]
  .ret)
  .skip)))))
  (sQ [o 23 (.load true 7 (q 3)), o 24 (.load true 4 (q 4)), o 25 (.load true 4 (q 5)), o 26 (.call 66 [.tmp 23, .tmp 24, .tmp 25]), oM 6 26, o 7 (.mov (kI 0))]
  .ret)))⟩
theorem F42_ok : compF Tryz.prog 42 = some F42 := by kernel_rfl
def F43 : FC := ⟨17, [.cell 2 true 3],
  (sQ [o 1 (.box (q 0)), o 2 (.alloc [.int .i64 0, .slice none 0 0, .int .i64 0])]
  (sQ [o 4 (.load true 7 (q 1)), o 5 (.buildSlice 7 1 zbZ [(0, 7, (q 4))]), o 6 (.build [.slice none 0 0, .slice none 0 0] [(0, 1, (q 5))]), o 7 (.call 28 [.tmp 6]), o 3 (.alloc [.int .i64 0, .slice none 0 0, .int .i64 0]), oS 3 3 7]
  (.seq (sQ [oA 8 1 3, oL 9 8, o 10 (.len 1 (q 9)), o 11 (.bin .gtr (q 10) (kI 0) tI)]
  (.cond (q 11)
  (.ops [oA 12 1 3, oL 13 12, o 14 (.slice 1 (q 13) (some (kI 1)) none none), oA 15 1 3, oS 1 15 14])
  .skip))
  (sQ [o 16 (.load true 3 (q 3)), oS 3 2 16]
  .ret))))⟩
theorem F43_ok : compF Tryz.prog 43 = some F43 := by kernel_rfl
def F44 : FC := ⟨22, [.tmp 2],
  (sQ [o 1 (.box (q 0)), o 2 (.mov kF)]
  (sQ [oA 3 0 1, oL 4 3, o 5 (.un .not (q 4)), oM 6 5, og 7 (.fieldAddr 1 (q 1)) 6 true, og 8 (.load false 1 (q 7)) 6 true, og 9 (.bin .eql (q 8) (kI 0) tI) 6 true, o 10 (.pick (q 6) (q 9) kF), oM 11 10, og 12 (.fieldAddr 2 (q 1)) 11 true, og 13 (.load false 1 (q 12)) 11 true, ⟨some 14, .bin .eql (q 13) (.const (.string ⟨#[]⟩)) (some .string), some (11, true)⟩, o 15 (.pick (q 11) (q 14) kF), oM 16 15, og 17 (.fieldAddr 3 (q 1)) 16 true, og 18 (.load false 1 (q 17)) 16 true, og 19 (.len 1 (q 18)) 16 true, og 20 (.bin .eql (q 19) (kI 0) tI) 16 true, o 21 (.pick (q 16) (q 20) kF), oM 2 21]
  .ret))⟩
theorem F44_ok : compF Tryz.prog 44 = some F44 := by kernel_rfl
def F45 : FC := ⟨17, [.tmp 2],
  (sQ [o 2 (.mov kF)]
  (sQ [oM 3 0, o 4 (.bin .eql (q 3) (kI 2) tI), oM 5 4, og 6 (.mov (q 0)) 5 false, og 7 (.bin .geq (q 6) (kI 3) tI) 5 false, og 8 (.mov (q 7)) 5 false, og 9 (.mov (q 0)) 8 true, og 10 (.bin .leq (q 9) (kI 11) tI) 8 true, og 11 (.pick (q 8) (q 10) kF) 5 false, o 12 (.pick (q 5) kT (q 11)), oM 13 12, og 14 (.mov (q 0)) 13 false, og 15 (.call 57 [.tmp 14]) 13 false, o 16 (.pick (q 13) kT (q 15)), oM 2 16]
  .ret))⟩
theorem F45_ok : compF Tryz.prog 45 = some F45 := by kernel_rfl
def F46 : FC := ⟨33, [.tmp 4],
  (sQ [o 3 (.box (q 1)), o 4 (.mov kF)]
  (.seq (sQ [oA 5 0 3, oL 6 5, oM 7 6, og 8 (.fieldAddr 3 (q 3)) 7 false, og 9 (.load false 1 (q 8)) 7 false, og 10 (.len 1 (q 9)) 7 false, og 11 (.bin .gtr (q 10) (kI 0) tI) 7 false, o 12 (.pick (q 7) kT (q 11))]
  (.cond (q 12)
  (sQ [o 4 (.mov kF)]
  .ret)
  .skip))
  (.seq (sQ [oM 13 0, o 14 (.call 57 [.tmp 13])]
  (.cond (q 14)
  (sQ [oA 15 1 3, oL 16 15, o 17 (.bin .eql (q 16) (kI 0) tI), oM 18 17, og 19 (.fieldAddr 2 (q 3)) 18 true, og 20 (.load false 1 (q 19)) 18 true, og 21 (.len 0 (q 20)) 18 true, og 22 (.bin .leq (q 21) (kI 16) tI) 18 true, o 23 (.pick (q 18) (q 22) kF), oM 4 23]
  .ret)
  .skip))
  (sQ [oA 24 2 3, oL 25 24, o 26 (.bin .eql (q 25) (.const (.string ⟨#[]⟩)) (some .string)), oM 27 26, og 28 (.mov (q 0)) 27 true, og 30 (.load true 4 (q 3)) 27 true, og 29 (.call 49 [.tmp 28]) 27 true, ⟨none, .again 30 true 4 (q 3), some (27, true)⟩, og 31 (.call 67 [.tmp 29, .tmp 30]) 27 true, o 32 (.pick (q 27) (q 31) kF), oM 4 32]
  .ret))))⟩
theorem F46_ok : compF Tryz.prog 46 = some F46 := by kernel_rfl
def F47 : FC := ⟨43, [.cell 2 true 7],
  (sQ [o 1 (.box (q 0)), o 2 (.alloc zbZ)]
  (.seq (.block 0 (.loop (.seq (sQ [oA 5 2 1, oA 6 0 5, oL 7 6, o 8 (.bin .eql (q 7) (kI 19) tI), oM 9 8, og 10 (.fieldAddr 2 (q 1)) 9 false, og 11 (.fieldAddr 0 (q 10)) 9 false, og 12 (.load false 1 (q 11)) 9 false, og 13 (.bin .eql (q 12) (kI 20) tI) 9 false, o 14 (.pick (q 9) kT (q 13)), oM 15 14, og 16 (.fieldAddr 2 (q 1)) 15 true, og 17 (.fieldAddr 4 (q 16)) 15 true, og 18 (.load false 1 (q 17)) 15 true, og 19 (.len 1 (q 18)) 15 true, og 20 (.bin .eql (q 19) (kI 1) tI) 15 true, o 21 (.pick (q 15) (q 20) kF)]
  (.cond (q 21)
  .skip
  (.exit 0)))
  (.block 1 (sQ [oA 22 2 1, oA 23 4 22, oL 24 23, o 25 (.indexAddr 7 (q 24) (kI 0)), o 26 (.load true 7 (q 25)), o 3 (.alloc zbZ), oS 7 3 26]
  (sQ [oA 27 0 1, oL 28 27, oA 29 1 3, oL 30 29, oA 31 2 3, o 32 (.load true 5 (q 31)), o 33 (.build zbZ [(0, 1, (q 28)), (1, 1, (q 30)), (2, 5, (q 32))]), o 4 (.alloc zbZ), oS 7 4 33]
  (.seq (sQ [oA 34 2 1, oA 35 0 34, oL 36 35, o 37 (.bin .eql (q 36) (kI 19) tI)]
  (.cond (q 37)
  (.ops [oA 38 1 1, oL 39 38, oA 40 1 4, oS 1 40 39])
  .skip))
  (.ops [o 41 (.load true 7 (q 4)), oS 7 1 41]))))))))
  (sQ [o 42 (.load true 7 (q 1)), oS 7 2 42]
  .ret)))⟩
theorem F47_ok : compF Tryz.prog 47 = some F47 := by kernel_rfl
end Go.Proofs.YtecephhhjhpcjaaGreatDoor.Stats
end
section
set_option linter.unusedVariables false
namespace Go.Proofs.YtecephhhjhpcjaaGreatDoor.Stats
open Go Go.Proofs.YtecephhhjhpcjaaGreatDoor Go.Proofs.YtecephhhjhpcjaaGreatDoor.Em
def F48 : FC := ⟨146, [.tmp 6],
  (sQ [o 3 (.box (q 0)), o 4 (.box (q 1)), o 5 (.box (q 2)), o 6 (.mov (kI 0))]
  (sQ [oA 8 2 3, o 9 (.load true 5 (q 8)), o 7 (.alloc [.int .i64 0, .int .i64 0, .int .i64 0, .int .i64 0, .slice none 0 0]), oS 5 7 9]
  (.seq (sQ [oA 10 0 4, oL 11 10, oM 12 11, og 13 (.fieldAddr 0 (q 5)) 12 false, og 14 (.load false 1 (q 13)) 12 false, o 15 (.pick (q 12) kT (q 14))]
  (.cond (q 15)
  (sQ [oA 16 0 4, oL 17 16, oM 18 17, og 19 (.fieldAddr 0 (q 5)) 18 true, og 20 (.load false 1 (q 19)) 18 true, og 21 (.un .not (q 20)) 18 true, o 22 (.pick (q 18) (q 21) kF), oA 23 0 5, oL 24 23, oM 25 24, og 26 (.fieldAddr 0 (q 4)) 25 true, og 27 (.load false 1 (q 26)) 25 true, og 28 (.un .not (q 27)) 25 true, o 29 (.pick (q 25) (q 28) kF), o 30 (.call 68 [.tmp 22, .tmp 29]), oM 6 30]
  .ret)
  .skip))
  (.seq (sQ [oA 31 0 7, oL 32 31]
  (.block 0 (.seq (sQ [o 34 (.bin .eql (q 32) (kI 19) tI), oM 33 34]
  (.cond (q 33)
  .skip
  (.ops [o 35 (.bin .eql (q 32) (kI 20) tI), oM 33 35])))
  (.cond (q 33)
  (sQ [oA 36 4 7, oL 37 36, o 38 (.indexAddr 7 (q 37) (kI 0)), o 39 (.load true 7 (q 38)), o 40 (.load true 4 (q 4)), o 41 (.load true 4 (q 5)), o 42 (.call 48 [.tmp 39, .tmp 40, .tmp 41]), oM 6 42]
  .ret)
  (sQ [o 44 (.bin .eql (q 32) (kI 10) tI), oM 43 44]
  (.cond (q 43)
  (sQ [oA 45 1 4, oL 46 45, o 47 (.conv .u64 (q 46)), oA 48 1 5, oL 49 48, o 50 (.conv .u64 (q 49)), o 51 (.bin .lss (q 47) (q 50) (some (.int .u64))), oA 52 1 4, oL 53 52, o 54 (.conv .u64 (q 53)), oA 55 1 5, oL 56 55, o 57 (.conv .u64 (q 56)), o 58 (.bin .gtr (q 54) (q 57) (some (.int .u64))), o 59 (.call 68 [.tmp 51, .tmp 58]), oM 6 59]
  .ret)
  (sQ [o 61 (.bin .eql (q 32) (kI 11) tI), oM 60 61]
  (.cond (q 60)
  (sQ [oA 62 1 4, oL 63 62, oA 65 1 5, oL 66 65, oA 69 1 4, oL 70 69, oA 72 1 5, oL 73 72, o 64 (.call 69 [.tmp 63]), ⟨none, .again 73 false 1 (q 72), none⟩, ⟨none, .again 70 false 1 (q 69), none⟩, ⟨none, .again 66 false 1 (q 65), none⟩, o 67 (.call 69 [.tmp 66]), ⟨none, .again 73 false 1 (q 72), none⟩, ⟨none, .again 70 false 1 (q 69), none⟩, o 68 (.bin .lss (q 64) (q 67) (some (.int .u64))), o 71 (.call 69 [.tmp 70]), ⟨none, .again 73 false 1 (q 72), none⟩, o 74 (.call 69 [.tmp 73]), o 75 (.bin .gtr (q 71) (q 74) (some (.int .u64))), o 76 (.call 68 [.tmp 68, .tmp 75]), oM 6 76]
  .ret)
  (.seq (sQ [o 78 (.bin .eql (q 32) (kI 12) tI), oM 77 78]
  (.cond (q 77)
  .skip
  (sQ [o 79 (.bin .eql (q 32) (kI 13) tI), oM 77 79]
  (.cond (q 77)
  .skip
  (.ops [o 80 (.bin .eql (q 32) (kI 14) tI), oM 77 80])))))
  (.cond (q 77)
  (sQ [oA 81 2 4, oL 82 81, oA 83 2 5, oL 84 83, o 85 (.bin .lss (q 82) (q 84) (some .string)), oA 86 2 4, oL 87 86, oA 88 2 5, oL 89 88, o 90 (.bin .gtr (q 87) (q 89) (some .string)), o 91 (.call 68 [.tmp 85, .tmp 90]), oM 6 91]
  .ret)
  (sQ [o 93 (.bin .eql (q 32) (kI 18) tI), oM 92 93]
  (.cond (q 92)
  (.seq (sQ [oA 94 1 4, oL 95 94, oA 96 1 5, oL 97 96, o 98 (.bin .neq (q 95) (q 97) tI)]
  (.cond (q 98)
  (sQ [oA 99 1 4, oL 100 99, oA 101 1 5, oL 102 101, o 103 (.bin .lss (q 100) (q 102) tI), oA 104 1 4, oL 105 104, oA 106 1 5, oL 107 106, o 108 (.bin .gtr (q 105) (q 107) tI), o 109 (.call 68 [.tmp 103, .tmp 108]), oM 6 109]
  .ret)
  .skip))
  (sQ [oA 110 4 7, oL 111 110, oA 112 1 4, oL 113 112, o 114 (.indexAddr 7 (q 111) (q 113)), o 115 (.load true 7 (q 114)), oA 116 3 4, oL 117 116, o 118 (.indexAddr 4 (q 117) (kI 0)), o 119 (.load true 4 (q 118)), oA 120 3 5, oL 121 120, o 122 (.indexAddr 4 (q 121) (kI 0)), o 123 (.load true 4 (q 122)), o 124 (.call 48 [.tmp 115, .tmp 119, .tmp 123]), oM 6 124]
  .ret))
  (.seq (sQ [o 126 (.bin .eql (q 32) (kI 15) tI), oM 125 126]
  (.cond (q 125)
  .skip
  (sQ [o 127 (.bin .eql (q 32) (kI 16) tI), oM 125 127]
  (.cond (q 125)
  .skip
  (.ops [o 128 (.bin .eql (q 32) (kI 17) tI), oM 125 128])))))
  (.cond (q 125)
  (sQ [o 129 (.load true 5 (q 7)), oA 130 3 4, oL 131 130, oA 132 3 5, oL 133 132, o 134 (.call 70 [.tmp 129, .tmp 131, .tmp 133]), oM 6 134]
  .ret)
  .skip))))))))))))))
  (sQ [oA 135 1 4, oL 136 135, oA 137 1 5, oL 138 137, o 139 (.bin .lss (q 136) (q 138) tI), oA 140 1 4, oL 141 140, oA 142 1 5, oL 143 142, o 144 (.bin .gtr (q 141) (q 143) tI), o 145 (.call 68 [.tmp 139, .tmp 144]), oM 6 145]
  .ret)))))⟩
theorem F48_ok : compF Tryz.prog 48 = some F48 := by kernel_rfl
def F49 : FC := ⟨8, [.cell 2 true 7],
  (sQ [o 2 (.alloc zbZ)]
  (.seq (sQ [oM 3 0, o 4 (.call 57 [.tmp 3])]
  (.cond (q 4)
  (.ops [o 0 (.mov (kI 13))])
  .skip))
  (sQ [oM 5 0, o 6 (.build [.int .i64 0, .int .i64 0, .int .i64 0, .int .i64 0, .slice none 0 0] [(0, 1, (q 5))]), o 7 (.build zbZ [(0, 1, (.const (.string ⟨#[120]⟩))), (2, 5, (q 6))]), oS 7 2 7]
  .ret)))⟩
theorem F49_ok : compF Tryz.prog 49 = some F49 := by kernel_rfl
def F50 : FC := ⟨20, [.tmp 4, .cell 5 true 3],
  (sQ [o 2 (.box (q 0)), o 3 (.box (q 1)), o 4 (.mov (.const (.pointer none))), o 5 (.alloc [.int .i64 0, .slice none 0 0, .int .i64 0])]
  (.seq (sQ [o 7 (.load true 7 (q 2)), o 8 (.load true 6 (q 3)), o 9 (.call 71 [.tmp 7, .tmp 8]), o 6 (.alloc [.int .i64 0, .slice none 0 0, .int .i64 0]), oS 3 6 9]
  (sQ [oA 10 0 6, oL 11 10, o 12 (.bin .neq (q 11) (kI 0) tI)]
  (.cond (q 12)
  (sQ [o 13 (.load true 3 (q 6)), o 4 (.mov (.const (.pointer none))), oS 3 5 13]
  .ret)
  .skip)))
  (sQ [o 14 (.load true 7 (q 2)), o 16 (.load true 6 (q 3)), o 19 (.build [.int .i64 0, .slice none 0 0, .int .i64 0] []), o 15 (.call 73 [.tmp 14]), ⟨none, .again 16 true 6 (q 3), none⟩, o 17 (.call 74 [.tmp 16]), o 18 (.call 72 [.tmp 15, .tmp 17, (.const (.pointer none))]), oM 4 18, oS 3 5 19]
  .ret)))⟩
theorem F50_ok : compF Tryz.prog 50 = some F50 := by kernel_rfl
def F51 : FC := ⟨7, [.tmp 2],
  (sQ [o 2 (.mov (kI 0))]
  (sQ [oM 3 0, o 4 (.nilCheck (q 3)), oA 5 14 4, oL 6 5, oM 2 6]
  .ret))⟩
theorem F51_ok : compF Tryz.prog 51 = some F51 := by kernel_rfl
def F52 : FC := ⟨4, [.tmp 2],
  (sQ [o 1 (.box (q 0)), o 2 (.mov (.const .nilFunc))]
  (sQ [o 3 (.mkFunc (.func 75) [] [.tmp 1]), oM 2 3]
  .ret))⟩
theorem F52_ok : compF Tryz.prog 52 = some F52 := by kernel_rfl
def F55 : FC := ⟨63, [.tmp 8],
  (sQ [o 8 (.mov (.const (.slice none 0 0)))]
  (.seq (sQ [oM 12 0, o 13 (.len 1 (q 12)), o 14 (.mov (kI 0))]
  (.block 0 (.loop (sQ [o 15 (.bin .lss (q 14) (q 13) tI)]
  (.seq (.cond (q 15)
  .skip
  (.exit 0))
  (.seq (.block 1 (sQ [oM 16 14, o 17 (.indexAddr 7 (q 12) (q 14)), o 18 (.load true 7 (q 17)), o 10 (.alloc zbZ), oM 9 16, oS 7 10 18]
  (.seq (sQ [oM 19 3, o 20 (.len 1 (q 19)), o 21 (.bin .gtr (q 20) (kI 256) tI)]
  (.cond (q 21)
  (sQ [oM 22 3, oM 8 22]
  .ret)
  .skip))
  (sQ [oM 23 1, o 24 (.len 1 (q 23)), o 25 (.bin .add (q 24) (kI 1) tI), o 26 (.mkSlice 1 8 [.int .i64 0] (q 25) (q 25)), oM 11 26]
  (sQ [oM 27 11, oM 28 1, o 29 (.copy 1 (q 27) (q 28))]
  (sQ [oM 30 11, oM 31 1, o 32 (.len 1 (q 31)), oM 33 9, o 34 (.indexAddr 1 (q 30) (q 32)), oS 1 34 33]
  (sQ [oM 35 3, oM 36 11, o 37 (.load true 7 (q 10)), oM 38 0, oM 39 9, o 40 (.slice 7 (q 38) none (some (q 39)) none), oM 41 2, o 42 (.build zeZ [(0, 1, (q 36)), (1, 7, (q 37)), (8, 1, (q 40)), (9, 1, (q 41))]), o 43 (.buildSlice 10 1 zeZ [(0, 10, (q 42))]), o 44 (.append 10 136 (q 35) (q 43)), oM 3 44]
  (sQ [oM 45 11, o 46 (.len 1 (q 45)), o 47 (.bin .leq (q 46) (kI 64) tI)]
  (.cond (q 47)
  (.ops [oA 48 2 10, oA 49 4 48, oL 50 49, oM 51 11, oM 52 2, oM 53 52, og 54 (.fieldAddr 2 (q 10)) 53 false, og 55 (.fieldAddr 0 (q 54)) 53 false, og 56 (.load false 1 (q 55)) 53 false, og 57 (.bin .eql (q 56) (kI 19) tI) 53 false, o 58 (.pick (q 53) kT (q 57)), oM 59 3, o 60 (.call 55 [.tmp 50, .tmp 51, .tmp 58, .tmp 59]), oM 3 60])
  .skip)))))))))
  (.ops [o 61 (.bin .add (q 14) (kI 1) tI), oM 14 61])))))))
  (sQ [oM 62 3, oM 8 62]
  .ret)))⟩
theorem F55_ok : compF Tryz.prog 55 = some F55 := by kernel_rfl
def F56 : FC := ⟨95, [.tmp 4],
  (sQ [o 4 (.mov (kI 0))]
  (sQ [oM 11 0, oM 12 1, o 13 (.indexAddr 10 (q 11) (q 12)), o 14 (.load true 10 (q 13)), o 5 (.alloc zeZ), oS 10 5 14]
  (sQ [oA 15 1 5, o 16 (.load true 7 (q 15)), o 6 (.alloc zbZ), oS 7 6 16]
  (.seq (sQ [oA 17 0 5, oL 18 17, o 19 (.len 1 (q 18)), o 20 (.bin .gtr (q 19) (kI 64) tI)]
  (.cond (q 20)
  (sQ [o 4 (.mov (kI 33))]
  .ret)
  .skip))
  (.seq (sQ [oM 21 1, o 22 (.bin .geq (q 21) (kI 256) tI)]
  (.cond (q 22)
  (sQ [o 4 (.mov (kI 34))]
  .ret)
  .skip))
  (.seq (sQ [oA 23 0 6, oL 24 23, o 25 (.call 77 [.tmp 24]), o 26 (.un .not (q 25))]
  (.cond (q 26)
  (sQ [o 4 (.mov (kI 30))]
  .ret)
  .skip))
  (.seq (sQ [oA 27 8 5, oL 28 27, o 29 (.len 1 (q 28)), o 30 (.mov (kI 0))]
  (.block 0 (.loop (sQ [o 31 (.bin .lss (q 30) (q 29) tI)]
  (.seq (.cond (q 31)
  .skip
  (.exit 0))
  (.seq (.block 1 (sQ [o 32 (.indexAddr 7 (q 28) (q 30)), o 33 (.load true 7 (q 32)), o 8 (.alloc zbZ), oS 7 8 33]
  (sQ [oA 34 0 8, oL 35 34, oA 36 0 6, oL 37 36, o 38 (.bin .eql (q 35) (q 37) (some .string))]
  (.cond (q 38)
  (sQ [o 4 (.mov (kI 31))]
  .ret)
  .skip))))
  (.ops [o 39 (.bin .add (q 30) (kI 1) tI), oM 30 39])))))))
  (.seq (sQ [oA 40 2 6, o 41 (.load true 5 (q 40)), o 42 (.call 78 [.tmp 41]), o 43 (.un .not (q 42))]
  (.cond (q 43)
  (sQ [o 4 (.mov (kI 32))]
  .ret)
  .skip))
  (.seq (sQ [o 44 (.load true 7 (q 6)), o 45 (.call 79 [.tmp 44]), o 46 (.un .not (q 45))]
  (.cond (q 46)
  (sQ [o 4 (.mov (kI 35))]
  .ret)
  .skip))
  (.seq (sQ [oA 47 2 6, oA 48 0 47, oL 49 48, o 50 (.bin .eql (q 49) (kI 19) tI), oM 51 50, og 52 (.fieldAddr 2 (q 6)) 51 false, og 53 (.fieldAddr 0 (q 52)) 51 false, og 54 (.load false 1 (q 53)) 51 false, og 55 (.bin .eql (q 54) (kI 20) tI) 51 false, o 56 (.pick (q 51) kT (q 55)), oM 57 56, og 58 (.fieldAddr 9 (q 5)) 57 true, og 59 (.load false 1 (q 58)) 57 true, o 60 (.pick (q 57) (q 59) kF)]
  (.cond (q 60)
  (sQ [o 4 (.mov (kI 36))]
  .ret)
  .skip))
  (.seq (sQ [oA 61 2 6, oA 62 0 61, oL 63 62, o 64 (.bin .eql (q 63) (kI 19) tI)]
  (.cond (q 64)
  (.seq (sQ [oA 65 2 6, oA 66 4 65, oL 67 66, o 68 (.indexAddr 7 (q 67) (kI 0)), oA 69 1 68, oL 70 69]
  (.cond (q 70)
  (sQ [o 4 (.mov (kI 36))]
  .ret)
  .skip))
  (sQ [oM 71 0, oM 72 1, o 73 (.slice 10 (q 71) none (some (q 72)) none), o 74 (.len 1 (q 73)), o 75 (.mov (kI 0))]
  (.block 2 (.loop (sQ [o 76 (.bin .lss (q 75) (q 74) tI)]
  (.seq (.cond (q 76)
  .skip
  (.exit 2))
  (.seq (.block 3 (sQ [o 77 (.indexAddr 10 (q 73) (q 75)), o 78 (.load true 10 (q 77)), o 10 (.alloc zeZ), oS 10 10 78]
  (sQ [oA 79 1 10, oA 80 2 79, oA 81 0 80, oL 82 81, o 83 (.bin .eql (q 82) (kI 19) tI), oM 84 83, og 85 (.fieldAddr 1 (q 10)) 84 true, og 86 (.fieldAddr 2 (q 85)) 84 true, og 87 (.fieldAddr 2 (q 86)) 84 true, og 88 (.load false 1 (q 87)) 84 true, og 89 (.fieldAddr 2 (q 6)) 84 true, og 90 (.fieldAddr 2 (q 89)) 84 true, og 91 (.load false 1 (q 90)) 84 true, og 92 (.bin .eql (q 88) (q 91) tI) 84 true, o 93 (.pick (q 84) (q 92) kF)]
  (.cond (q 93)
  (sQ [o 4 (.mov (kI 36))]
  .ret)
  .skip))))
  (.ops [o 94 (.bin .add (q 75) (kI 1) tI), oM 75 94]))))))))
  .skip))
  (sQ [o 4 (.mov (kI 0))]
  .ret))))))))))))⟩
theorem F56_ok : compF Tryz.prog 56 = some F56 := by kernel_rfl
def F57 : FC := ⟨13, [.tmp 2],
  (sQ [o 2 (.mov kF)]
  (sQ [oM 3 0, o 4 (.bin .eql (q 3) (kI 12) tI), oM 5 4, og 6 (.mov (q 0)) 5 false, og 7 (.bin .eql (q 6) (kI 13) tI) 5 false, o 8 (.pick (q 5) kT (q 7)), oM 9 8, og 10 (.mov (q 0)) 9 false, og 11 (.bin .eql (q 10) (kI 14) tI) 9 false, o 12 (.pick (q 9) kT (q 11)), oM 2 12]
  .ret))⟩
theorem F57_ok : compF Tryz.prog 57 = some F57 := by kernel_rfl
def F58 : FC := ⟨6, [.tmp 4],
  (sQ [o 2 (.box (q 0)), o 3 (.box (q 1)), o 4 (.mov (.const .nilFunc))]
  (sQ [o 5 (.mkFunc (.func 80) [] [.tmp 3, .tmp 2]), oM 4 5]
  .ret))⟩
theorem F58_ok : compF Tryz.prog 58 = some F58 := by kernel_rfl
def F59 : FC := ⟨74, [.tmp 6],
  (sQ [o 3 (.box (q 0)), o 6 (.mov (kI 0))]
  (sQ [oA 10 2 3, oA 11 2 10, o 12 (.load true 5 (q 11)), o 7 (.alloc [.int .i64 0, .int .i64 0, .int .i64 0, .int .i64 0, .slice none 0 0]), oS 5 7 12]
  (sQ [oM 14 2, oA 15 2 7, oL 16 15, o 17 (.lookup 0 [.int .i64 0] false true (q 14) (q 16)), oM 13 17, o 18 (.extract (q 13) 0), o 19 (.extract (q 13) 1), oM 8 18, oM 9 19]
  (.seq (.block 0 (sQ [oA 21 0 3, oL 22 21, o 23 (.len 1 (q 22)), o 24 (.bin .gtr (q 23) (kI 64) tI), oM 20 24]
  (.cond (q 20)
  (sQ [o 6 (.mov (kI 33))]
  .ret)
  (sQ [oM 26 1, o 27 (.bin .geq (q 26) (kI 256) tI), oM 25 27]
  (.cond (q 25)
  (sQ [o 6 (.mov (kI 34))]
  .ret)
  (sQ [oA 29 2 3, oA 30 0 29, oL 31 30, o 32 (.call 83 [.tmp 31]), o 33 (.un .not (q 32)), oM 28 33]
  (.cond (q 28)
  (sQ [o 6 (.mov (kI 30))]
  .ret)
  (sQ [oA 35 1 3, oL 36 35, o 37 (.mkFunc (.func 85) [] [.tmp 3]), o 38 (.call 84 [.tmp 36, .tmp 37]), oM 34 38]
  (.cond (q 34)
  (sQ [o 6 (.mov (kI 31))]
  .ret)
  (sQ [o 40 (.load true 5 (q 7)), o 41 (.call 86 [.tmp 40]), o 42 (.un .not (q 41)), oM 39 42]
  (.cond (q 39)
  (sQ [o 6 (.mov (kI 32))]
  .ret)
  (sQ [oA 44 2 3, o 45 (.load true 7 (q 44)), o 46 (.call 87 [.tmp 45]), o 47 (.un .not (q 46)), oM 43 47]
  (.cond (q 43)
  (sQ [o 6 (.mov (kI 35))]
  .ret)
  (.seq (sQ [oA 49 9 3, oL 50 49, oM 51 50, og 52 (.fieldAddr 0 (q 7)) 51 true, og 53 (.load false 1 (q 52)) 51 true, og 54 (.bin .eql (q 53) (kI 19) tI) 51 true, og 55 (.mov (q 54)) 51 true, og 56 (.fieldAddr 0 (q 7)) 55 false, og 57 (.load false 1 (q 56)) 55 false, og 58 (.bin .eql (q 57) (kI 20) tI) 55 false, og 59 (.pick (q 55) kT (q 58)) 51 true, o 60 (.pick (q 51) (q 59) kF), oM 48 60]
  (.cond (q 48)
  .skip
  (.ops [oA 61 0 7, oL 62 61, o 63 (.bin .eql (q 62) (kI 19) tI), oM 64 63, og 65 (.fieldAddr 4 (q 7)) 64 true, og 66 (.load false 1 (q 65)) 64 true, og 67 (.indexAddr 7 (q 66) (kI 0)) 64 true, og 68 (.fieldAddr 1 (q 67)) 64 true, og 69 (.load false 1 (q 68)) 64 true, og 70 (.mov (q 69)) 64 true, og 71 (.mov (q 9)) 70 false, og 72 (.pick (q 70) kT (q 71)) 64 true, o 73 (.pick (q 64) (q 72) kF), oM 48 73])))
  (.cond (q 48)
  (sQ [o 6 (.mov (kI 36))]
  .ret)
  .skip)))))))))))))))
  (sQ [o 6 (.mov (kI 0))]
  .ret)))))⟩
theorem F59_ok : compF Tryz.prog 59 = some F59 := by kernel_rfl
def F62 : FC := ⟨14, [.tmp 4],
  (sQ [o 2 (.box (q 0)), o 3 (.box (q 1)), o 4 (.mov (kI 0))]
  (.seq (.block 0 (sQ [o 6 (.load true 7 (q 2)), o 7 (.call 64 [.tmp 6]), o 8 (.un .not (q 7)), oM 5 8]
  (.cond (q 5)
  (sQ [o 4 (.mov (kI 5))]
  .ret)
  (sQ [o 10 (.load true 7 (q 2)), o 11 (.load true 4 (q 3)), o 12 (.call 65 [.tmp 10, .tmp 11]), o 13 (.un .not (q 12)), oM 9 13]
  (.cond (q 9)
  (sQ [o 4 (.mov (kI 7))]
  .ret)
  .skip)))))
  (sQ [o 4 (.mov (kI 0))]
  .ret)))⟩
theorem F62_ok : compF Tryz.prog 62 = some F62 := by kernel_rfl
def F64 : FC := ⟨7, [.tmp 2],
  (sQ [o 1 (.box (q 0)), o 2 (.mov kF)]
  (sQ [o 3 (.load true 7 (q 1)), o 4 (.call 15 [.tmp 3]), o 5 (.field false 0 1 (q 4)), o 6 (.bin .eql (q 5) (kI 0) tI), oM 2 6]
  .ret))⟩
theorem F64_ok : compF Tryz.prog 64 = some F64 := by kernel_rfl
def F65 : FC := ⟨12, [.tmp 4],
  (sQ [o 2 (.box (q 0)), o 3 (.box (q 1)), o 4 (.mov kF)]
  (sQ [o 6 (.build [.int .i64 0] [(0, 1, (kI 4194304))]), o 7 (.box (q 6)), oM 5 7]
  (sQ [oM 8 5, o 9 (.load true 7 (q 2)), o 10 (.load true 4 (q 3)), o 11 (.call 89 [.tmp 8, .tmp 9, .tmp 10]), oM 4 11]
  .ret)))⟩
theorem F65_ok : compF Tryz.prog 65 = some F65 := by kernel_rfl
def F66 : FC := ⟨145, [.tmp 6],
  (sQ [o 3 (.box (q 0)), o 4 (.box (q 1)), o 5 (.box (q 2)), o 6 (.mov (kI 0))]
  (.seq (sQ [oA 11 0 4, oL 12 11, oM 13 12, og 14 (.fieldAddr 0 (q 5)) 13 false, og 15 (.load false 1 (q 14)) 13 false, o 16 (.pick (q 13) kT (q 15))]
  (.cond (q 16)
  (.seq (.block 0 (sQ [oA 18 0 4, oL 19 18, oM 20 19, og 21 (.fieldAddr 0 (q 5)) 20 true, og 22 (.load false 1 (q 21)) 20 true, o 23 (.pick (q 20) (q 22) kF), oM 17 23]
  (.cond (q 17)
  (sQ [o 6 (.mov (kI 0))]
  .ret)
  (sQ [oA 25 0 4, oL 26 25, oM 24 26]
  (.cond (q 24)
  (sQ [o 6 (.mov (kI (-1)))]
  .ret)
  .skip)))))
  (sQ [o 6 (.mov (kI 1))]
  .ret))
  .skip))
  (sQ [oA 27 2 3, o 28 (.load true 5 (q 27)), o 7 (.alloc [.int .i64 0, .int .i64 0, .int .i64 0, .int .i64 0, .slice none 0 0]), oS 5 7 28]
  (.seq (sQ [oA 29 0 7, oL 30 29]
  (.block 1 (.seq (sQ [o 32 (.bin .eql (q 30) (kI 19) tI), oM 31 32]
  (.cond (q 31)
  .skip
  (.ops [o 33 (.bin .eql (q 30) (kI 20) tI), oM 31 33])))
  (.cond (q 31)
  (sQ [oA 34 4 7, oL 35 34, o 36 (.indexAddr 7 (q 35) (kI 0)), o 37 (.load true 7 (q 36)), o 38 (.load true 4 (q 4)), o 39 (.load true 4 (q 5)), o 40 (.call 66 [.tmp 37, .tmp 38, .tmp 39]), oM 6 40]
  .ret)
  (sQ [o 42 (.bin .eql (q 30) (kI 10) tI), oM 41 42]
  (.cond (q 41)
  (sQ [oA 43 1 4, oL 44 43, o 45 (.conv .u64 (q 44)), oA 46 1 5, oL 47 46, o 48 (.conv .u64 (q 47)), o 49 (.call 90 [.tmp 45, .tmp 48]), oM 6 49]
  .ret)
  (sQ [o 51 (.bin .eql (q 30) (kI 11) tI), oM 50 51]
  (.cond (q 50)
  (sQ [oA 52 1 4, oL 53 52, oA 55 1 5, oL 56 55, o 54 (.call 91 [.tmp 53]), ⟨none, .again 56 false 1 (q 55), none⟩, o 57 (.call 91 [.tmp 56]), o 58 (.call 90 [.tmp 54, .tmp 57]), oM 6 58]
  .ret)
  (.seq (sQ [o 60 (.bin .eql (q 30) (kI 12) tI), oM 59 60]
  (.cond (q 59)
  .skip
  (sQ [o 61 (.bin .eql (q 30) (kI 13) tI), oM 59 61]
  (.cond (q 59)
  .skip
  (.ops [o 62 (.bin .eql (q 30) (kI 14) tI), oM 59 62])))))
  (.cond (q 59)
  (sQ [oA 63 2 4, oL 64 63, oA 65 2 5, oL 66 65, o 67 (.call 41 [.tmp 64, .tmp 66]), oM 6 67]
  .ret)
  (sQ [o 69 (.bin .eql (q 30) (kI 18) tI), oM 68 69]
  (.cond (q 68)
  (.seq (sQ [oA 70 1 4, oL 71 70, oA 72 1 5, oL 73 72, o 74 (.bin .neq (q 71) (q 73) tI)]
  (.cond (q 74)
  (sQ [oA 75 1 4, oL 76 75, oA 77 1 5, oL 78 77, o 79 (.call 92 [.tmp 76, .tmp 78]), oM 6 79]
  .ret)
  .skip))
  (sQ [oA 80 4 7, oL 81 80, oA 82 1 4, oL 83 82, o 84 (.indexAddr 7 (q 81) (q 83)), o 85 (.load true 7 (q 84)), oA 86 3 4, oL 87 86, o 88 (.indexAddr 4 (q 87) (kI 0)), o 89 (.load true 4 (q 88)), oA 90 3 5, oL 91 90, o 92 (.indexAddr 4 (q 91) (kI 0)), o 93 (.load true 4 (q 92)), o 94 (.call 66 [.tmp 85, .tmp 89, .tmp 93]), oM 6 94]
  .ret))
  (.seq (sQ [o 96 (.bin .eql (q 30) (kI 15) tI), oM 95 96]
  (.cond (q 95)
  .skip
  (sQ [o 97 (.bin .eql (q 30) (kI 16) tI), oM 95 97]
  (.cond (q 95)
  .skip
  (.ops [o 98 (.bin .eql (q 30) (kI 17) tI), oM 95 98])))))
  (.cond (q 95)
  (.seq (sQ [oA 99 3 4, oL 100 99, o 101 (.len 1 (q 100)), oA 102 3 5, oL 103 102, o 104 (.len 1 (q 103)), o 105 (.minmax false (q 101) [.tmp 104]), o 106 (.mov (kI 0))]
  (.block 2 (.loop (sQ [o 107 (.bin .lss (q 106) (q 105) tI)]
  (.seq (.cond (q 107)
  .skip
  (.exit 2))
  (.seq (.block 3 (sQ [oM 108 106, oM 8 108]
  (sQ [o 9 (.mov (kI 0))]
  (.seq (sQ [oA 109 0 7, oL 110 109, o 111 (.bin .eql (q 110) (kI 17) tI)]
  (.cond (q 111)
  (.ops [oM 112 8, oM 9 112])
  .skip))
  (sQ [oA 113 4 7, oL 114 113, oM 115 9, o 116 (.indexAddr 7 (q 114) (q 115)), o 117 (.load true 7 (q 116)), oA 118 3 4, oL 119 118, oM 120 8, o 121 (.indexAddr 4 (q 119) (q 120)), o 122 (.load true 4 (q 121)), oA 123 3 5, oL 124 123, oM 125 8, o 126 (.indexAddr 4 (q 124) (q 125)), o 127 (.load true 4 (q 126)), o 128 (.call 66 [.tmp 117, .tmp 122, .tmp 127]), oM 10 128]
  (sQ [oM 129 10, o 130 (.bin .neq (q 129) (kI 0) tI)]
  (.cond (q 130)
  (sQ [oM 131 10, oM 6 131]
  .ret)
  .skip)))))))
  (.ops [o 132 (.bin .add (q 106) (kI 1) tI), oM 106 132])))))))
  (sQ [oA 133 3 4, oL 134 133, o 135 (.len 1 (q 134)), oA 136 3 5, oL 137 136, o 138 (.len 1 (q 137)), o 139 (.call 93 [.tmp 135, .tmp 138]), oM 6 139]
  .ret))
  .skip))))))))))))))
  (sQ [oA 140 1 4, oL 141 140, oA 142 1 5, oL 143 142, o 144 (.call 92 [.tmp 141, .tmp 143]), oM 6 144]
  .ret)))))⟩
theorem F66_ok : compF Tryz.prog 66 = some F66 := by kernel_rfl
def F67 : FC := ⟨13, [.tmp 4],
  (sQ [o 2 (.box (q 0)), o 3 (.box (q 1)), o 4 (.mov kF)]
  (sQ [o 5 (.load true 4 (q 3)), o 6 (.call 94 [.tmp 5, (kI 4194304)]), o 7 (.bin .leq (q 6) (kI 4194304) tI), oM 8 7, og 9 (.load true 7 (q 2)) 8 true, og 10 (.load true 4 (q 3)) 8 true, og 11 (.call 95 [.tmp 9, .tmp 10]) 8 true, o 12 (.pick (q 8) (q 11) kF), oM 4 12]
  .ret))⟩
theorem F67_ok : compF Tryz.prog 67 = some F67 := by kernel_rfl
def F68 : FC := ⟨7, [.tmp 4],
  (sQ [o 4 (.mov (kI 0))]
  (.seq (sQ [oM 5 0]
  (.cond (q 5)
  (sQ [o 4 (.mov (kI (-1)))]
  .ret)
  .skip))
  (.seq (sQ [oM 6 1]
  (.cond (q 6)
  (sQ [o 4 (.mov (kI 1))]
  .ret)
  .skip))
  (sQ [o 4 (.mov (kI 0))]
  .ret))))⟩
theorem F68_ok : compF Tryz.prog 68 = some F68 := by kernel_rfl
def F69 : FC := ⟨11, [.tmp 2],
  (sQ [o 2 (.mov (.const (.int .u64 0)))]
  (.seq (sQ [oM 3 0, o 4 (.bin .lss (q 3) (kI 0) tI)]
  (.cond (q 4)
  (sQ [oM 5 0, o 6 (.conv .u64 (q 5)), o 7 (.un .xor (q 6)), oM 2 7]
  .ret)
  .skip))
  (sQ [oM 8 0, o 9 (.conv .u64 (q 8)), o 10 (.bin .add (q 9) (.const (.int .u64 9223372036854775808)) (some (.int .u64))), oM 2 10]
  .ret)))⟩
theorem F69_ok : compF Tryz.prog 69 = some F69 := by kernel_rfl
def F71 : FC := ⟨19, [.cell 4 true 3],
  (sQ [o 2 (.box (q 0)), o 3 (.box (q 1)), o 4 (.alloc [.int .i64 0, .slice none 0 0, .int .i64 0])]
  (.seq (sQ [o 7 (.load true 7 (q 2)), o 8 (.call 15 [.tmp 7]), o 9 (.field false 0 1 (q 8)), o 10 (.bin .neq (q 9) (kI 0) tI)]
  (.cond (q 10)
  (sQ [o 11 (.call 96 [(kI 5), (kI 0)]), oS 3 4 11]
  .ret)
  .skip))
  (sQ [o 13 (.load true 7 (q 2)), o 14 (.load true 6 (q 3)), o 15 (.call 97 [.tmp 13, .tmp 14]), oM 12 15, o 16 (.extract (q 12) 0), o 17 (.extract (q 12) 1), o 5 (.alloc [.int .i64 0, .slice none 0 0, .int .i64 0]), oS 3 5 16, oM 6 17]
  (sQ [o 18 (.load true 3 (q 5)), oS 3 4 18]
  .ret))))⟩
theorem F71_ok : compF Tryz.prog 71 = some F71 := by kernel_rfl
def F72 : FC := ⟨20, [.tmp 6],
  (sQ [o 3 (.box (q 0)), o 4 (.box (q 1)), o 6 (.mov (.const (.pointer none)))]
  (sQ [o 7 (.load true 7 (q 3)), o 8 (.load true 6 (q 4)), oA 9 1 4, oL 10 9, oA 11 0 4, oL 12 11, oM 13 2, oA 14 2 3, oA 15 0 14, oL 16 15, o 17 (.call 98 [.tmp 16]), ⟨none, .again 12 false 1 (q 11), none⟩, ⟨none, .again 10 false 1 (q 9), none⟩, ⟨none, .again 8 true 6 (q 4), none⟩, ⟨none, .again 7 true 7 (q 3), none⟩, o 18 (.build [(.string ⟨#[]⟩), (.bool false), (.int .i64 0), (.int .i64 0), (.int .i64 0), (.int .i64 0), (.slice none 0 0), (.int .i64 0), (.int .i64 0), (.int .i64 0), (.slice none 0 0), (.slice none 0 0), (.slice none 0 0), (.int .i64 0), (.int .i64 0), (.pointer none), .nilIface] [(0, 7, (q 7)), (7, 6, (q 8)), (13, 1, (q 10)), (14, 1, (q 12)), (15, 1, (q 13)), (16, 1, (q 17))]), o 19 (.box (q 18)), oM 6 19]
  .ret))⟩
theorem F72_ok : compF Tryz.prog 72 = some F72 := by kernel_rfl
def F73 : FC := ⟨31, [.cell 2 true 7],
  (sQ [o 1 (.box (q 0)), o 2 (.alloc zbZ)]
  (sQ [oA 4 2 1, oA 5 4 4, oL 6 5, o 7 (.call 99 [.tmp 6]), oA 8 2 1, oA 9 4 8, oS 1 9 7]
  (.seq (sQ [oA 10 2 1, oA 11 4 10, oL 12 11, o 13 (.len 1 (q 12)), o 14 (.mov (kI 0))]
  (.block 0 (.loop (sQ [o 15 (.bin .lss (q 14) (q 13) tI)]
  (.seq (.cond (q 15)
  .skip
  (.exit 0))
  (.seq (.block 1 (sQ [oM 16 14, oM 3 16]
  (.ops [oA 17 2 1, oA 18 4 17, oL 19 18, oM 20 3, oA 21 2 1, oA 22 4 21, oL 23 22, oM 24 3, o 25 (.indexAddr 7 (q 23) (q 24)), o 26 (.load true 7 (q 25)), o 27 (.call 73 [.tmp 26]), ⟨none, .again 19 false 1 (q 18), none⟩, o 28 (.indexAddr 7 (q 19) (q 20)), oS 7 28 27])))
  (.ops [o 29 (.bin .add (q 14) (kI 1) tI), oM 14 29])))))))
  (sQ [o 30 (.load true 7 (q 1)), oS 7 2 30]
  .ret))))⟩
theorem F73_ok : compF Tryz.prog 73 = some F73 := by kernel_rfl
def F74 : FC := ⟨16, [.cell 2 true 6],
  (sQ [o 1 (.box (q 0)), o 2 (.alloc [.int .i64 0, .int .i64 0, .int .i64 0, .slice none 0 0, .slice none 0 0, .slice none 0 0])]
  (sQ [oA 3 3 1, oL 4 3, o 5 (.call 100 [.tmp 4]), oA 6 3 1, oS 1 6 5]
  (sQ [oA 7 4 1, oL 8 7, o 9 (.call 101 [.tmp 8]), oA 10 4 1, oS 1 10 9]
  (sQ [oA 11 5 1, oL 12 11, o 13 (.call 101 [.tmp 12]), oA 14 5 1, oS 1 14 13]
  (sQ [o 15 (.load true 6 (q 1)), oS 6 2 15]
  .ret)))))⟩
theorem F74_ok : compF Tryz.prog 74 = some F74 := by kernel_rfl
def F75 : FC := ⟨39, [],
  (sQ [o 3 (.mov (kI 4194304))]
  (sQ [oL 8 1, o 9 (.nilCheck (q 8)), oA 10 14 9, oL 11 10, o 12 (.mov (kI 0))]
  (.block 0 (.loop (sQ [o 13 (.bin .lss (q 12) (q 11) tI)]
  (.seq (.cond (q 13)
  .skip
  (.exit 0))
  (.seq (.block 1 (sQ [oM 14 12, oM 4 14]
  (sQ [oL 16 1, oM 17 4, o 18 (.call 76 [.tmp 16, .tmp 17]), oM 15 18, o 19 (.extract (q 15) 0), o 20 (.extract (q 15) 1), o 21 (.extract (q 15) 2), o 5 (.alloc zcZ), oS 4 5 19, oM 6 20, oM 7 21]
  (sQ [oM 22 3, oM 23 6, o 24 (.bin .sub (q 22) (q 23) tI), oM 3 24]
  (sQ [oM 25 7, o 26 (.bin .neq (q 25) (kI 0) tI), oM 27 26, og 28 (.mov (q 3)) 27 false, og 29 (.bin .lss (q 28) (kI 0) tI) 27 false, o 30 (.pick (q 27) kT (q 29)), oM 31 30, og 32 (.mov (q 0)) 31 false, og 33 (.mov (q 4)) 31 false, og 34 (.load true 4 (q 5)) 31 false, og 35 (.callv (q 32) [.tmp 33, .tmp 34]) 31 false, og 36 (.un .not (q 35)) 31 false, o 37 (.pick (q 31) kT (q 36))]
  (.cond (q 37)
  .ret
  .skip))))))
  (.ops [o 38 (.bin .add (q 12) (kI 1) tI), oM 12 38]))))))))⟩
theorem F75_ok : compF Tryz.prog 75 = some F75 := by kernel_rfl
def F77 : FC := ⟨33, [.tmp 2],
  (sQ [o 2 (.mov kF)]
  (.seq (sQ [oM 4 0, o 5 (.len 0 (q 4)), o 6 (.bin .lss (q 5) (kI 1) tI), oM 7 6, og 8 (.mov (q 0)) 7 false, og 9 (.len 0 (q 8)) 7 false, og 10 (.bin .gtr (q 9) (kI 48) tI) 7 false, o 11 (.pick (q 7) kT (q 10)), oM 12 11, og 13 (.mov (q 0)) 12 false, og 14 (.indexStr (q 13) (kI 0)) 12 false, og 15 (.bin .geq (q 14) (.const (.int .u8 48)) (some (.int .u8))) 12 false, og 16 (.mov (q 15)) 12 false, og 17 (.mov (q 0)) 16 true, og 18 (.indexStr (q 17) (kI 0)) 16 true, og 19 (.bin .leq (q 18) (.const (.int .u8 57)) (some (.int .u8))) 16 true, og 20 (.pick (q 16) (q 19) kF) 12 false, o 21 (.pick (q 12) kT (q 20))]
  (.cond (q 21)
  (sQ [o 2 (.mov kF)]
  .ret)
  .skip))
  (.seq (sQ [o 3 (.mov (kI 0))]
  (.block 0 (.loop (.seq (sQ [oM 22 3, oM 23 0, o 24 (.len 0 (q 23)), o 25 (.bin .lss (q 22) (q 24) tI)]
  (.cond (q 25)
  .skip
  (.exit 0)))
  (.seq (.block 1 (sQ [oM 28 0, oM 29 3, o 30 (.indexStr (q 28) (q 29)), o 31 (.call 104 [.tmp 30]), o 32 (.un .not (q 31))]
  (.cond (q 32)
  (sQ [o 2 (.mov kF)]
  .ret)
  .skip)))
  (.ops [oM 26 3, o 27 (.bin .add (q 26) (kI 1) tI), oM 3 27]))))))
  (sQ [o 2 (.mov kT)]
  .ret))))⟩
theorem F77_ok : compF Tryz.prog 77 = some F77 := by kernel_rfl
def F78 : FC := ⟨95, [.tmp 2],
  (sQ [o 1 (.box (q 0)), o 2 (.mov kF)]
  (sQ [o 3 (.mov (kI 0)), o 4 (.mov (kI 0))]
  (sQ [oA 9 1 1, oL 10 9, o 11 (.bin .eql (q 10) (kI 0) tI), oA 12 2 1, oL 13 12, o 14 (.bin .eql (q 13) (kI 0) tI), oA 15 3 1, oL 16 15, o 17 (.bin .eql (q 16) (kI 0) tI), oM 5 11, oM 6 14, oM 7 17]
  (.seq (sQ [oA 18 0 1, oL 19 18]
  (.block 0 (sQ [o 21 (.bin .eql (q 19) (kI 14) tI), oM 20 21]
  (.cond (q 20)
  (.ops [oA 22 1 1, oL 23 22, o 24 (.bin .geq (q 23) (kI 1) tI), oM 25 24, og 26 (.fieldAddr 1 (q 1)) 25 true, og 27 (.load false 1 (q 26)) 25 true, og 28 (.bin .leq (q 27) (kI 16) tI) 25 true, o 29 (.pick (q 25) (q 28) kF), oM 5 29])
  (.seq (sQ [o 31 (.bin .eql (q 19) (kI 15) tI), oM 30 31]
  (.cond (q 30)
  .skip
  (.ops [o 32 (.bin .eql (q 19) (kI 20) tI), oM 30 32])))
  (.cond (q 30)
  (.ops [o 3 (.mov (kI 1)), o 4 (.mov (kI 1))])
  (sQ [o 34 (.bin .eql (q 19) (kI 16) tI), oM 33 34]
  (.cond (q 33)
  (sQ [o 3 (.mov (kI 1)), o 4 (.mov (kI 1))]
  (.ops [oA 35 1 1, oL 36 35, o 37 (.bin .geq (q 36) (kI 1) tI), oM 38 37, og 39 (.fieldAddr 1 (q 1)) 38 true, og 40 (.load false 1 (q 39)) 38 true, og 41 (.bin .leq (q 40) (kI 64) tI) 38 true, o 42 (.pick (q 38) (q 41) kF), oM 5 42]))
  (sQ [o 44 (.bin .eql (q 19) (kI 17) tI), oM 43 44]
  (.cond (q 43)
  (.ops [o 4 (.mov (kI 32))])
  (sQ [o 46 (.bin .eql (q 19) (kI 18) tI), oM 45 46]
  (.cond (q 45)
  (.ops [o 3 (.mov (kI 1)), o 4 (.mov (kI 32))])
  (sQ [o 48 (.bin .eql (q 19) (kI 19) tI), oM 47 48]
  (.cond (q 47)
  (sQ [o 3 (.mov (kI 1)), o 4 (.mov (kI 1))]
  (sQ [oA 49 2 1, oL 50 49, o 51 (.bin .geq (q 50) (kI 0) tI), oM 52 51, og 53 (.fieldAddr 2 (q 1)) 52 true, og 54 (.load false 1 (q 53)) 52 true, og 55 (.bin .lss (q 54) (kI 32) tI) 52 true, o 56 (.pick (q 52) (q 55) kF), oM 6 56]
  (.ops [oA 57 3 1, oL 58 57, o 59 (.bin .geq (q 58) (kI 3) tI), oM 60 59, og 61 (.fieldAddr 3 (q 1)) 60 true, og 62 (.load false 1 (q 61)) 60 true, og 63 (.bin .leq (q 62) (kI 10) tI) 60 true, o 64 (.pick (q 60) (q 63) kF), oM 7 64])))
  .skip))))))))))))))
  (sQ [oA 65 4 1, oL 66 65, o 67 (.len 1 (q 66)), oM 8 67]
  (sQ [oA 68 0 1, oL 69 68, o 70 (.bin .geq (q 69) (kI 1) tI), oM 71 70, og 72 (.fieldAddr 0 (q 1)) 71 true, og 73 (.load false 1 (q 72)) 71 true, og 74 (.bin .leq (q 73) (kI 20) tI) 71 true, o 75 (.pick (q 71) (q 74) kF), oM 76 75, og 77 (.mov (q 5)) 76 true, o 78 (.pick (q 76) (q 77) kF), oM 79 78, og 80 (.mov (q 6)) 79 true, o 81 (.pick (q 79) (q 80) kF), oM 82 81, og 83 (.mov (q 7)) 82 true, o 84 (.pick (q 82) (q 83) kF), oM 85 84, og 86 (.mov (q 8)) 85 true, og 87 (.mov (q 3)) 85 true, og 88 (.bin .geq (q 86) (q 87) tI) 85 true, o 89 (.pick (q 85) (q 88) kF), oM 90 89, og 91 (.mov (q 8)) 90 true, og 92 (.mov (q 4)) 90 true, og 93 (.bin .leq (q 91) (q 92) tI) 90 true, o 94 (.pick (q 90) (q 93) kF), oM 2 94]
  .ret))))))⟩
theorem F78_ok : compF Tryz.prog 78 = some F78 := by kernel_rfl
def F79 : FC := ⟨26, [.tmp 2],
  (sQ [o 1 (.box (q 0)), o 2 (.mov kF)]
  (.seq (sQ [oA 3 2 1, oA 4 0 3, oL 5 4]
  (.block 0 (sQ [o 7 (.bin .eql (q 5) (kI 1) tI), oM 6 7]
  (.cond (q 6)
  (sQ [oA 8 1 1, oL 9 8, oM 2 9]
  .ret)
  (sQ [o 11 (.bin .eql (q 5) (kI 18) tI), oM 10 11]
  (.cond (q 10)
  (sQ [oA 12 1 1, oL 13 12, o 14 (.un .not (q 13)), oM 2 14]
  .ret)
  (sQ [o 16 (.bin .eql (q 5) (kI 20) tI), oM 15 16]
  (.cond (q 15)
  (sQ [oA 17 1 1, oL 18 17, oA 19 2 1, oA 20 4 19, oL 21 20, o 22 (.indexAddr 7 (q 21) (kI 0)), oA 23 1 22, oL 24 23, o 25 (.bin .eql (q 18) (q 24) (some .bool)), oM 2 25]
  .ret)
  .skip))))))))
  (sQ [o 2 (.mov kT)]
  .ret)))⟩
theorem F79_ok : compF Tryz.prog 79 = some F79 := by kernel_rfl
def F80 : FC := ⟨9, [],
  (sQ [o 3 (.box (q 0))]
  (sQ [o 4 (.alloc [.nilFunc])]
  (sQ [o 5 (.mkFunc (.func 81) [] [.tmp 3, .tmp 1, .tmp 4]), oS 1 4 5]
  (.ops [oL 6 4, oL 7 2, o 8 (.callv (q 6) [(.const (.slice none 0 0)), .tmp 7, kF])]))))⟩
theorem F80_ok : compF Tryz.prog 80 = some F80 := by kernel_rfl
def F81 : FC := ⟨56, [.tmp 9],
  (sQ [o 9 (.mov kF)]
  (.seq (sQ [oM 13 1, o 14 (.len 1 (q 13)), o 15 (.mov (kI 0))]
  (.block 0 (.loop (sQ [o 16 (.bin .lss (q 15) (q 14) tI)]
  (.seq (.cond (q 16)
  .skip
  (.exit 0))
  (.seq (.block 1 (sQ [oM 17 15, o 18 (.indexAddr 7 (q 13) (q 15)), o 19 (.load true 7 (q 18)), o 11 (.alloc zbZ), oM 10 17, oS 7 11 19]
  (sQ [oM 20 0, o 21 (.call 82 [.tmp 20]), oM 22 10, o 23 (.buildSlice 1 1 [.int .i64 0] [(0, 1, (q 22))]), o 24 (.append 1 8 (q 21) (q 23)), oM 12 24]
  (.seq (sQ [oL 25 3, oM 26 12, oM 27 1, oM 28 10, o 29 (.slice 7 (q 27) none (some (q 28)) none), o 30 (.load true 7 (q 11)), oM 31 2, o 32 (.build zdZ [(0, 1, (q 26)), (1, 1, (q 29)), (2, 7, (q 30)), (9, 1, (q 31))]), o 33 (.callv (q 25) [.tmp 32]), o 34 (.un .not (q 33))]
  (.cond (q 34)
  (sQ [o 9 (.mov kF)]
  .ret)
  .skip))
  (sQ [oM 35 12, o 36 (.len 1 (q 35)), oL 37 4, o 38 (.bin .lss (q 36) (q 37) tI), oM 39 38, og 40 (.load false 1 (q 5)) 39 true, og 41 (.mov (q 12)) 39 true, og 42 (.fieldAddr 2 (q 11)) 39 true, og 43 (.fieldAddr 4 (q 42)) 39 true, og 44 (.load false 1 (q 43)) 39 true, og 45 (.mov (q 2)) 39 true, og 46 (.mov (q 45)) 39 true, og 47 (.fieldAddr 2 (q 11)) 46 false, og 48 (.fieldAddr 0 (q 47)) 46 false, og 49 (.load false 1 (q 48)) 46 false, og 50 (.bin .eql (q 49) (kI 19) tI) 46 false, og 51 (.pick (q 46) kT (q 50)) 39 true, og 52 (.callv (q 40) [.tmp 41, .tmp 44, .tmp 51]) 39 true, og 53 (.un .not (q 52)) 39 true, o 54 (.pick (q 39) (q 53) kF)]
  (.cond (q 54)
  (sQ [o 9 (.mov kF)]
  .ret)
  .skip))))))
  (.ops [o 55 (.bin .add (q 15) (kI 1) tI), oM 15 55])))))))
  (sQ [o 9 (.mov kT)]
  .ret)))⟩
theorem F81_ok : compF Tryz.prog 81 = some F81 := by kernel_rfl
def F82 : FC := ⟨8, [.tmp 2],
  (sQ [o 2 (.mov (.const (.slice none 0 0)))]
  (.seq (sQ [oM 3 0, o 4 (.bin .eql (q 3) (.const (.slice none 0 0)) (some (.slice 3)))]
  (.cond (q 4)
  (sQ [o 2 (.mov (.const (.slice none 0 0)))]
  .ret)
  .skip))
  (sQ [o 5 (.buildSlice 1 0 [] []), oM 6 0, o 7 (.append 1 8 (q 5) (q 6)), oM 2 7]
  .ret)))⟩
theorem F82_ok : compF Tryz.prog 82 = some F82 := by kernel_rfl
def F83 : FC := ⟨36, [.tmp 2],
  (sQ [o 2 (.mov kF)]
  (.seq (sQ [oM 5 0, o 6 (.len 0 (q 5)), o 7 (.mov (kI 0))]
  (.block 0 (.loop (sQ [o 8 (.bin .lss (q 7) (q 6) tI)]
  (.seq (.cond (q 8)
  .skip
  (.exit 0))
  (.seq (.block 1 (sQ [oM 9 7, oM 3 9]
  (sQ [oM 10 0, oM 11 3, o 12 (.indexStr (q 10) (q 11)), oM 4 12]
  (sQ [oM 13 4, o 14 (.call 105 [.tmp 13]), o 15 (.un .not (q 14)), oM 16 15, og 17 (.mov (q 3)) 16 false, og 18 (.bin .eql (q 17) (kI 0) tI) 16 false, og 19 (.mov (q 18)) 16 false, og 20 (.mov (q 4)) 19 true, og 21 (.bin .geq (q 20) (.const (.int .u8 48)) (some (.int .u8))) 19 true, og 22 (.pick (q 19) (q 21) kF) 16 false, og 23 (.mov (q 22)) 16 false, og 24 (.mov (q 4)) 23 true, og 25 (.bin .leq (q 24) (.const (.int .u8 57)) (some (.int .u8))) 23 true, og 26 (.pick (q 23) (q 25) kF) 16 false, o 27 (.pick (q 16) kT (q 26))]
  (.cond (q 27)
  (sQ [o 2 (.mov kF)]
  .ret)
  .skip)))))
  (.ops [o 28 (.bin .add (q 7) (kI 1) tI), oM 7 28])))))))
  (sQ [oM 29 0, o 30 (.bin .neq (q 29) (.const (.string ⟨#[]⟩)) (some .string)), oM 31 30, og 32 (.mov (q 0)) 31 true, og 33 (.len 0 (q 32)) 31 true, og 34 (.bin .leq (q 33) (kI 48) tI) 31 true, o 35 (.pick (q 31) (q 34) kF), oM 2 35]
  .ret)))⟩
theorem F83_ok : compF Tryz.prog 83 = some F83 := by kernel_rfl
def F84 : FC := ⟨9, [.tmp 4],
  (sQ [o 4 (.mov kF)]
  (sQ [oM 5 0, oM 6 1, o 7 (.call 106 [.tmp 5, .tmp 6]), o 8 (.bin .geq (q 7) (kI 0) tI), oM 4 8]
  .ret))⟩
theorem F84_ok : compF Tryz.prog 84 = some F84 := by kernel_rfl
def F85 : FC := ⟨10, [.tmp 3],
  (sQ [o 2 (.box (q 0)), o 3 (.mov kF)]
  (sQ [oA 4 0 2, oL 5 4, oA 6 2 1, oA 7 0 6, oL 8 7, o 9 (.bin .eql (q 5) (q 8) (some .string)), oM 3 9]
  .ret))⟩
theorem F85_ok : compF Tryz.prog 85 = some F85 := by kernel_rfl
def F86 : FC := ⟨89, [.tmp 2],
  (sQ [o 1 (.box (q 0)), o 2 (.mov kF)]
  (.seq (sQ [oA 9 0 1, oL 10 9, o 11 (.call 107 [.tmp 10]), o 12 (.un .not (q 11))]
  (.cond (q 12)
  (sQ [o 2 (.mov kF)]
  .ret)
  .skip))
  (sQ [o 3 (.mov (kI 0)), o 4 (.mov (kI 0))]
  (sQ [o 5 (.mov (kI 0)), o 6 (.mov kF)]
  (.seq (sQ [oA 13 0 1, oL 14 13]
  (.block 0 (sQ [o 16 (.bin .eql (q 14) (kI 14) tI), oM 15 16]
  (.cond (q 15)
  (.ops [o 5 (.mov (kI 16))])
  (.seq (sQ [o 18 (.bin .eql (q 14) (kI 15) tI), oM 17 18]
  (.cond (q 17)
  .skip
  (.ops [o 19 (.bin .eql (q 14) (kI 20) tI), oM 17 19])))
  (.cond (q 17)
  (.ops [o 3 (.mov (kI 1)), o 4 (.mov (kI 1))])
  (sQ [o 21 (.bin .eql (q 14) (kI 16) tI), oM 20 21]
  (.cond (q 20)
  (.ops [o 3 (.mov (kI 1)), o 4 (.mov (kI 1)), o 5 (.mov (kI 64))])
  (sQ [o 23 (.bin .eql (q 14) (kI 17) tI), oM 22 23]
  (.cond (q 22)
  (.ops [o 4 (.mov (kI 32))])
  (sQ [o 25 (.bin .eql (q 14) (kI 18) tI), oM 24 25]
  (.cond (q 24)
  (.ops [o 3 (.mov (kI 1)), o 4 (.mov (kI 32))])
  (sQ [o 27 (.bin .eql (q 14) (kI 19) tI), oM 26 27]
  (.cond (q 26)
  (.ops [o 3 (.mov (kI 1)), o 4 (.mov (kI 1)), o 6 (.mov kT)])
  .skip))))))))))))))
  (sQ [oA 28 1 1, oL 29 28, o 30 (.bin .eql (q 29) (kI 0) tI), oM 7 30]
  (.seq (sQ [oM 31 5, o 32 (.bin .gtr (q 31) (kI 0) tI)]
  (.cond (q 32)
  (.ops [oA 33 1 1, oL 34 33, o 35 (.bin .geq (q 34) (kI 1) tI), oM 36 35, og 37 (.fieldAddr 1 (q 1)) 36 true, og 38 (.load false 1 (q 37)) 36 true, og 39 (.mov (q 5)) 36 true, og 40 (.bin .leq (q 38) (q 39) tI) 36 true, o 41 (.pick (q 36) (q 40) kF), oM 7 41])
  .skip))
  (sQ [oA 42 2 1, oL 43 42, o 44 (.bin .eql (q 43) (kI 0) tI), oM 45 44, og 46 (.fieldAddr 3 (q 1)) 45 true, og 47 (.load false 1 (q 46)) 45 true, og 48 (.bin .eql (q 47) (kI 0) tI) 45 true, o 49 (.pick (q 45) (q 48) kF), oM 8 49]
  (.seq (sQ [oM 50 6]
  (.cond (q 50)
  (.ops [oA 51 2 1, oL 52 51, o 53 (.bin .geq (q 52) (kI 0) tI), oM 54 53, og 55 (.fieldAddr 2 (q 1)) 54 true, og 56 (.load false 1 (q 55)) 54 true, og 57 (.bin .lss (q 56) (kI 32) tI) 54 true, o 58 (.pick (q 54) (q 57) kF), oM 59 58, og 60 (.fieldAddr 3 (q 1)) 59 true, og 61 (.load false 1 (q 60)) 59 true, og 62 (.call 107 [.tmp 61]) 59 true, o 63 (.pick (q 59) (q 62) kF), oM 64 63, og 65 (.fieldAddr 3 (q 1)) 64 true, og 66 (.load false 1 (q 65)) 64 true, og 67 (.indexAddrArr 4 21 (.global 1) (q 66)) 64 true, og 68 (.fieldAddr 3 (q 67)) 64 true, og 69 (.load false 1 (q 68)) 64 true, o 70 (.pick (q 64) (q 69) kF), oM 8 70])
  .skip))
  (sQ [oM 71 7, oM 72 71, og 73 (.mov (q 8)) 72 true, o 74 (.pick (q 72) (q 73) kF), oM 75 74, og 76 (.fieldAddr 4 (q 1)) 75 true, og 77 (.load false 1 (q 76)) 75 true, og 78 (.len 1 (q 77)) 75 true, og 79 (.mov (q 3)) 75 true, og 80 (.bin .geq (q 78) (q 79) tI) 75 true, o 81 (.pick (q 75) (q 80) kF), oM 82 81, og 83 (.fieldAddr 4 (q 1)) 82 true, og 84 (.load false 1 (q 83)) 82 true, og 85 (.len 1 (q 84)) 82 true, og 86 (.mov (q 4)) 82 true, og 87 (.bin .leq (q 85) (q 86) tI) 82 true, o 88 (.pick (q 82) (q 87) kF), oM 2 88]
  .ret))))))))))⟩
theorem F86_ok : compF Tryz.prog 86 = some F86 := by kernel_rfl
def F87 : FC := ⟨26, [.tmp 2],
  (sQ [o 1 (.box (q 0)), o 2 (.mov kF)]
  (.seq (sQ [oA 3 2 1, oA 4 0 3, oL 5 4]
  (.block 0 (sQ [o 7 (.bin .eql (q 5) (kI 1) tI), oM 6 7]
  (.cond (q 6)
  (sQ [oA 8 1 1, oL 9 8, oM 2 9]
  .ret)
  (sQ [o 11 (.bin .eql (q 5) (kI 18) tI), oM 10 11]
  (.cond (q 10)
  (sQ [oA 12 1 1, oL 13 12, o 14 (.un .not (q 13)), oM 2 14]
  .ret)
  (sQ [o 16 (.bin .eql (q 5) (kI 20) tI), oM 15 16]
  (.cond (q 15)
  (sQ [oA 17 1 1, oL 18 17, oA 19 2 1, oA 20 4 19, oL 21 20, o 22 (.indexAddr 7 (q 21) (kI 0)), oA 23 1 22, oL 24 23, o 25 (.bin .eql (q 18) (q 24) (some .bool)), oM 2 25]
  .ret)
  .skip))))))))
  (sQ [o 2 (.mov kT)]
  .ret)))⟩
theorem F87_ok : compF Tryz.prog 87 = some F87 := by kernel_rfl
end Go.Proofs.YtecephhhjhpcjaaGreatDoor.Stats
end
section
set_option linter.unusedVariables false
namespace Go.Proofs.YtecephhhjhpcjaaGreatDoor.Stats
open Go Go.Proofs.YtecephhhjhpcjaaGreatDoor Go.Proofs.YtecephhhjhpcjaaGreatDoor.Em
def F89 : FC := ⟨219, [.tmp 6],
  (sQ [o 4 (.box (q 1)), o 5 (.box (q 2)), o 6 (.mov kF)]
  (sQ [oM 8 0, o 9 (.nilCheck (q 8)), oA 10 0 9, oL 11 10, o 12 (.bin .sub (q 11) (kI 16) tI), o 13 (.nilCheck (q 8)), oA 14 0 13, oS 1 14 12]
  (.seq (sQ [oM 15 0, o 16 (.nilCheck (q 15)), oA 17 0 16, oL 18 17, o 19 (.bin .lss (q 18) (kI 0) tI), oM 20 19, og 21 (.fieldAddr 2 (q 5)) 20 false, og 22 (.load false 1 (q 21)) 20 false, og 23 (.len 0 (q 22)) 20 false, og 24 (.mov (q 0)) 20 false, og 25 (.nilCheck (q 24)) 20 false, og 26 (.fieldAddr 0 (q 25)) 20 false, og 27 (.load false 1 (q 26)) 20 false, og 28 (.bin .gtr (q 23) (q 27) tI) 20 false, o 29 (.pick (q 20) kT (q 28)), oM 30 29, og 31 (.fieldAddr 3 (q 5)) 30 false, og 32 (.load false 1 (q 31)) 30 false, og 33 (.len 1 (q 32)) 30 false, og 34 (.bin .gtr (q 33) (kI 4096) tI) 30 false, o 35 (.pick (q 30) kT (q 34))]
  (.cond (q 35)
  (sQ [o 6 (.mov kF)]
  .ret)
  .skip))
  (sQ [oM 36 0, o 37 (.nilCheck (q 36)), oA 38 0 37, oL 39 38, oA 40 2 5, oL 41 40, o 42 (.len 0 (q 41)), o 43 (.bin .sub (q 39) (q 42) tI), o 44 (.nilCheck (q 36)), oA 45 0 44, oS 1 45 43]
  (.seq (sQ [oA 46 0 5, oL 47 46]
  (.cond (q 47)
  (sQ [oA 48 1 5, oL 49 48, o 50 (.bin .eql (q 49) (kI 0) tI), oM 51 50, og 52 (.fieldAddr 2 (q 5)) 51 true, og 53 (.load false 1 (q 52)) 51 true, ⟨some 54, .bin .eql (q 53) (.const (.string ⟨#[]⟩)) (some .string), some (51, true)⟩, o 55 (.pick (q 51) (q 54) kF), oM 56 55, og 57 (.fieldAddr 3 (q 5)) 56 true, og 58 (.load false 1 (q 57)) 56 true, og 59 (.len 1 (q 58)) 56 true, og 60 (.bin .eql (q 59) (kI 0) tI) 56 true, o 61 (.pick (q 56) (q 60) kF), oM 62 61, og 63 (.load true 7 (q 4)) 62 true, og 64 (.call 108 [.tmp 63]) 62 true, o 65 (.pick (q 62) (q 64) kF), oM 6 65]
  .ret)
  .skip))
  (sQ [oA 66 2 4, o 67 (.load true 5 (q 66)), o 7 (.alloc [.int .i64 0, .int .i64 0, .int .i64 0, .int .i64 0, .slice none 0 0]), oS 5 7 67]
  (.seq (sQ [oA 68 0 7, oL 69 68]
  (.block 0 (.seq (sQ [o 71 (.bin .eql (q 69) (kI 19) tI), oM 70 71]
  (.cond (q 70)
  .skip
  (.ops [o 72 (.bin .eql (q 69) (kI 20) tI), oM 70 72])))
  (.cond (q 70)
  (sQ [oM 73 0, o 74 (.nilCheck (q 73)), oA 75 0 74, oL 76 75, oA 77 2 5, oL 78 77, o 79 (.len 0 (q 78)), o 80 (.bin .add (kI 16) (q 79) tI), o 81 (.bin .add (q 76) (q 80) tI), o 82 (.nilCheck (q 73)), oA 83 0 82, oS 1 83 81]
  (sQ [oM 84 0, oA 85 4 7, oL 86 85, o 87 (.indexAddr 7 (q 86) (kI 0)), o 88 (.load true 7 (q 87)), o 89 (.load true 4 (q 5)), o 90 (.call 89 [.tmp 84, .tmp 88, .tmp 89]), oM 6 90]
  .ret))
  (sQ [o 92 (.bin .eql (q 69) (kI 18) tI), oM 91 92]
  (.cond (q 91)
  (sQ [oA 93 2 5, oL 94 93, o 95 (.bin .eql (q 94) (.const (.string ⟨#[]⟩)) (some .string)), oM 96 95, og 97 (.fieldAddr 1 (q 5)) 96 true, og 98 (.load false 1 (q 97)) 96 true, og 99 (.bin .geq (q 98) (kI 0) tI) 96 true, o 100 (.pick (q 96) (q 99) kF), oM 101 100, og 102 (.fieldAddr 1 (q 5)) 101 true, og 103 (.load false 1 (q 102)) 101 true, og 104 (.fieldAddr 4 (q 7)) 101 true, og 105 (.load false 1 (q 104)) 101 true, og 106 (.len 1 (q 105)) 101 true, og 107 (.bin .lss (q 103) (q 106) tI) 101 true, o 108 (.pick (q 101) (q 107) kF), oM 109 108, og 110 (.fieldAddr 3 (q 5)) 109 true, og 111 (.load false 1 (q 110)) 109 true, og 112 (.len 1 (q 111)) 109 true, og 113 (.bin .eql (q 112) (kI 1) tI) 109 true, o 114 (.pick (q 109) (q 113) kF), oM 115 114, og 116 (.mov (q 0)) 115 true, og 117 (.fieldAddr 4 (q 7)) 115 true, og 118 (.load false 1 (q 117)) 115 true, og 119 (.fieldAddr 1 (q 5)) 115 true, og 120 (.load false 1 (q 119)) 115 true, og 121 (.indexAddr 7 (q 118) (q 120)) 115 true, og 122 (.load true 7 (q 121)) 115 true, og 123 (.fieldAddr 3 (q 5)) 115 true, og 124 (.load false 1 (q 123)) 115 true, og 125 (.indexAddr 4 (q 124) (kI 0)) 115 true, og 126 (.load true 4 (q 125)) 115 true, og 127 (.call 89 [.tmp 116, .tmp 122, .tmp 126]) 115 true, o 128 (.pick (q 115) (q 127) kF), oM 6 128]
  .ret)
  (.seq (sQ [o 130 (.bin .eql (q 69) (kI 15) tI), oM 129 130]
  (.cond (q 129)
  .skip
  (sQ [o 131 (.bin .eql (q 69) (kI 16) tI), oM 129 131]
  (.cond (q 129)
  .skip
  (.ops [o 132 (.bin .eql (q 69) (kI 17) tI), oM 129 132])))))
  (.cond (q 129)
  (sQ [oA 133 1 5, oL 134 133, o 135 (.bin .eql (q 134) (kI 0) tI), oM 136 135, og 137 (.fieldAddr 2 (q 5)) 136 true, og 138 (.load false 1 (q 137)) 136 true, ⟨some 139, .bin .eql (q 138) (.const (.string ⟨#[]⟩)) (some .string), some (136, true)⟩, o 140 (.pick (q 136) (q 139) kF), oM 141 140, og 142 (.mov (q 0)) 141 true, og 143 (.load true 5 (q 7)) 141 true, og 144 (.fieldAddr 3 (q 5)) 141 true, og 145 (.load false 1 (q 144)) 141 true, og 146 (.call 109 [.tmp 142, .tmp 143, .tmp 145]) 141 true, o 147 (.pick (q 141) (q 146) kF), oM 6 147]
  .ret)
  (.seq (sQ [o 149 (.bin .eql (q 69) (kI 12) tI), oM 148 149]
  (.cond (q 148)
  .skip
  (sQ [o 150 (.bin .eql (q 69) (kI 13) tI), oM 148 150]
  (.cond (q 148)
  .skip
  (.ops [o 151 (.bin .eql (q 69) (kI 14) tI), oM 148 151])))))
  (.cond (q 148)
  (sQ [oA 152 1 5, oL 153 152, o 154 (.bin .eql (q 153) (kI 0) tI), oM 155 154, og 156 (.fieldAddr 3 (q 5)) 155 true, og 157 (.load false 1 (q 156)) 155 true, og 158 (.len 1 (q 157)) 155 true, og 159 (.bin .eql (q 158) (kI 0) tI) 155 true, o 160 (.pick (q 155) (q 159) kF), oM 161 160, og 162 (.fieldAddr 0 (q 7)) 161 true, og 163 (.load false 1 (q 162)) 161 true, og 164 (.bin .neq (q 163) (kI 12) tI) 161 true, og 165 (.mov (q 164)) 161 true, og 166 (.fieldAddr 2 (q 5)) 165 false, og 167 (.load false 1 (q 166)) 165 false, og 168 (.call 110 [.tmp 167]) 165 false, og 169 (.pick (q 165) kT (q 168)) 161 true, o 170 (.pick (q 161) (q 169) kF), oM 171 170, og 172 (.fieldAddr 0 (q 7)) 171 true, og 173 (.load false 1 (q 172)) 171 true, og 174 (.bin .neq (q 173) (kI 14) tI) 171 true, og 175 (.mov (q 174)) 171 true, og 176 (.fieldAddr 2 (q 5)) 175 false, og 177 (.load false 1 (q 176)) 175 false, og 178 (.len 0 (q 177)) 175 false, og 179 (.fieldAddr 1 (q 7)) 175 false, og 180 (.load false 1 (q 179)) 175 false, og 181 (.bin .eql (q 178) (q 180) tI) 175 false, og 182 (.pick (q 175) kT (q 181)) 171 true, o 183 (.pick (q 171) (q 182) kF), oM 6 183]
  .ret)
  .skip))))))))))
  (.seq (sQ [oA 184 2 5, oL 185 184, o 186 (.bin .neq (q 185) (.const (.string ⟨#[]⟩)) (some .string)), oM 187 186, og 188 (.fieldAddr 3 (q 5)) 187 false, og 189 (.load false 1 (q 188)) 187 false, og 190 (.len 1 (q 189)) 187 false, og 191 (.bin .gtr (q 190) (kI 0) tI) 187 false, o 192 (.pick (q 187) kT (q 191))]
  (.cond (q 192)
  (sQ [o 6 (.mov kF)]
  .ret)
  .skip))
  (.seq (.block 1 (sQ [oA 194 0 7, oL 195 194, o 196 (.bin .eql (q 195) (kI 2) tI), oM 193 196]
  (.cond (q 193)
  (sQ [oA 197 1 5, oL 198 197, o 199 (.bin .eql (q 198) (kI 0) tI), oM 200 199, og 201 (.fieldAddr 1 (q 5)) 200 false, og 202 (.load false 1 (q 201)) 200 false, og 203 (.bin .eql (q 202) (kI 1) tI) 200 false, o 204 (.pick (q 200) kT (q 203)), oM 6 204]
  .ret)
  (sQ [oA 206 0 7, oL 207 206, o 208 (.bin .eql (q 207) (kI 11) tI), oM 205 208]
  (.cond (q 205)
  (sQ [o 6 (.mov kT)]
  .ret)
  .skip)))))
  (sQ [oA 209 0 7, oL 210 209, o 211 (.call 111 [.tmp 210]), oM 212 211, og 213 (.fieldAddr 0 (q 7)) 212 true, og 214 (.load false 1 (q 213)) 212 true, og 215 (.fieldAddr 1 (q 5)) 212 true, og 216 (.load false 1 (q 215)) 212 true, og 217 (.call 112 [.tmp 214, .tmp 216]) 212 true, o 218 (.pick (q 212) (q 217) kF), oM 6 218]
  .ret))))))))))⟩
theorem F89_ok : compF Tryz.prog 89 = some F89 := by kernel_rfl
def F90 : FC := ⟨20, [.tmp 4],
  (sQ [o 4 (.mov (kI 0))]
  (sQ [oM 7 0, o 8 (.call 113 [.tmp 7]), oM 5 8]
  (sQ [oM 9 1, o 10 (.call 113 [.tmp 9]), oM 6 10]
  (.seq (sQ [oM 11 5]
  (.cond (q 11)
  (.seq (sQ [oM 12 6]
  (.cond (q 12)
  (sQ [o 4 (.mov (kI 0))]
  .ret)
  .skip))
  (sQ [o 4 (.mov (kI (-1)))]
  .ret))
  .skip))
  (.seq (sQ [oM 13 6]
  (.cond (q 13)
  (sQ [o 4 (.mov (kI 1))]
  .ret)
  .skip))
  (.seq (sQ [oM 14 0, oM 15 1, o 16 (.bin .lss (q 14) (q 15) (some (.int .u64)))]
  (.cond (q 16)
  (sQ [o 4 (.mov (kI (-1)))]
  .ret)
  .skip))
  (.seq (sQ [oM 17 0, oM 18 1, o 19 (.bin .gtr (q 17) (q 18) (some (.int .u64)))]
  (.cond (q 19)
  (sQ [o 4 (.mov (kI 1))]
  .ret)
  .skip))
  (sQ [o 4 (.mov (kI 0))]
  .ret))))))))⟩
theorem F90_ok : compF Tryz.prog 90 = some F90 := by kernel_rfl
def F91 : FC := ⟨11, [.tmp 2],
  (sQ [o 2 (.mov (.const (.int .u64 0)))]
  (.seq (sQ [oM 3 0, o 4 (.bin .lss (q 3) (kI 0) tI)]
  (.cond (q 4)
  (sQ [oM 5 0, o 6 (.conv .u64 (q 5)), o 7 (.un .xor (q 6)), oM 2 7]
  .ret)
  .skip))
  (sQ [oM 8 0, o 9 (.conv .u64 (q 8)), o 10 (.bin .or (q 9) (.const (.int .u64 9223372036854775808)) (some (.int .u64))), oM 2 10]
  .ret)))⟩
theorem F91_ok : compF Tryz.prog 91 = some F91 := by kernel_rfl
def F92 : FC := ⟨20, [.tmp 4],
  (sQ [o 4 (.mov (kI 0))]
  (sQ [oM 7 0, o 8 (.call 114 [.tmp 7]), oM 5 8]
  (sQ [oM 9 1, o 10 (.call 114 [.tmp 9]), oM 6 10]
  (.seq (sQ [oM 11 5]
  (.cond (q 11)
  (.seq (sQ [oM 12 6]
  (.cond (q 12)
  (sQ [o 4 (.mov (kI 0))]
  .ret)
  .skip))
  (sQ [o 4 (.mov (kI (-1)))]
  .ret))
  .skip))
  (.seq (sQ [oM 13 6]
  (.cond (q 13)
  (sQ [o 4 (.mov (kI 1))]
  .ret)
  .skip))
  (.seq (sQ [oM 14 0, oM 15 1, o 16 (.bin .lss (q 14) (q 15) tI)]
  (.cond (q 16)
  (sQ [o 4 (.mov (kI (-1)))]
  .ret)
  .skip))
  (.seq (sQ [oM 17 0, oM 18 1, o 19 (.bin .gtr (q 17) (q 18) tI)]
  (.cond (q 19)
  (sQ [o 4 (.mov (kI 1))]
  .ret)
  .skip))
  (sQ [o 4 (.mov (kI 0))]
  .ret))))))))⟩
theorem F92_ok : compF Tryz.prog 92 = some F92 := by kernel_rfl
def F94 : FC := ⟨52, [.tmp 4],
  (sQ [o 2 (.box (q 0)), o 4 (.mov (kI 0))]
  (sQ [o 5 (.mov (kI 16))]
  (.seq (sQ [oA 8 2 2, oL 9 8, o 10 (.len 0 (q 9)), oM 11 1, oM 12 5, o 13 (.bin .sub (q 11) (q 12) tI), o 14 (.bin .gtr (q 10) (q 13) tI)]
  (.cond (q 14)
  (sQ [oM 15 1, o 16 (.bin .add (q 15) (kI 1) tI), oM 4 16]
  .ret)
  .skip))
  (sQ [oM 17 5, oA 18 2 2, oL 19 18, o 20 (.len 0 (q 19)), o 21 (.bin .add (q 17) (q 20) tI), oM 5 21]
  (.seq (sQ [o 6 (.mov (kI 0))]
  (.block 0 (.loop (.seq (sQ [oM 22 6, oA 23 3 2, oL 24 23, o 25 (.len 1 (q 24)), o 26 (.bin .lss (q 22) (q 25) tI)]
  (.cond (q 26)
  .skip
  (.exit 0)))
  (.seq (.block 1 (.seq (sQ [oM 29 5, oM 30 1, o 31 (.bin .gtr (q 29) (q 30) tI)]
  (.cond (q 31)
  (sQ [oM 32 1, o 33 (.bin .add (q 32) (kI 1) tI), oM 4 33]
  .ret)
  .skip))
  (sQ [oA 34 3 2, oL 35 34, oM 36 6, o 37 (.indexAddr 4 (q 35) (q 36)), o 38 (.load true 4 (q 37)), oM 39 1, oM 40 5, o 41 (.bin .sub (q 39) (q 40) tI), o 42 (.call 94 [.tmp 38, .tmp 41]), oM 7 42]
  (.ops [oM 43 5, oM 44 7, o 45 (.bin .add (q 43) (q 44) tI), oM 5 45]))))
  (.ops [oM 27 6, o 28 (.bin .add (q 27) (kI 1) tI), oM 6 28]))))))
  (.seq (sQ [oM 46 5, oM 47 1, o 48 (.bin .gtr (q 46) (q 47) tI)]
  (.cond (q 48)
  (sQ [oM 49 1, o 50 (.bin .add (q 49) (kI 1) tI), oM 4 50]
  .ret)
  .skip))
  (sQ [oM 51 5, oM 4 51]
  .ret)))))))⟩
theorem F94_ok : compF Tryz.prog 94 = some F94 := by kernel_rfl
def F95 : FC := ⟨127, [.tmp 4],
  (sQ [o 2 (.box (q 0)), o 3 (.box (q 1)), o 4 (.mov kF)]
  (sQ [oA 9 2 2, o 10 (.load true 5 (q 9)), o 5 (.alloc [.int .i64 0, .int .i64 0, .int .i64 0, .int .i64 0, .slice none 0 0]), oS 5 5 10]
  (.seq (sQ [oA 11 0 3, oL 12 11]
  (.cond (q 12)
  (sQ [o 13 (.load true 7 (q 2)), o 14 (.call 116 [.tmp 13]), oM 6 14]
  (sQ [oM 15 6, oM 16 15, og 17 (.fieldAddr 1 (q 3)) 16 true, og 18 (.load false 1 (q 17)) 16 true, og 19 (.bin .eql (q 18) (kI 0) tI) 16 true, o 20 (.pick (q 16) (q 19) kF), oM 21 20, og 22 (.fieldAddr 2 (q 3)) 21 true, og 23 (.load false 1 (q 22)) 21 true, ⟨some 24, .bin .eql (q 23) (.const (.string ⟨#[]⟩)) (some .string), some (21, true)⟩, o 25 (.pick (q 21) (q 24) kF), oM 26 25, og 27 (.fieldAddr 3 (q 3)) 26 true, og 28 (.load false 1 (q 27)) 26 true, og 29 (.len 1 (q 28)) 26 true, og 30 (.bin .eql (q 29) (kI 0) tI) 26 true, o 31 (.pick (q 26) (q 30) kF), oM 4 31]
  .ret))
  .skip))
  (sQ [oA 32 0 5, oL 33 32, o 34 (.call 117 [.tmp 33]), oM 7 34]
  (.seq (.block 0 (sQ [oM 36 7, oM 35 36]
  (.cond (q 35)
  (sQ [oA 37 0 5, oL 38 37, oA 39 1 3, oL 40 39, o 41 (.call 118 [.tmp 38, .tmp 40]), oM 42 41, og 43 (.fieldAddr 2 (q 3)) 42 true, og 44 (.load false 1 (q 43)) 42 true, ⟨some 45, .bin .eql (q 44) (.const (.string ⟨#[]⟩)) (some .string), some (42, true)⟩, o 46 (.pick (q 42) (q 45) kF), oM 47 46, og 48 (.fieldAddr 3 (q 3)) 47 true, og 49 (.load false 1 (q 48)) 47 true, og 50 (.len 1 (q 49)) 47 true, og 51 (.bin .eql (q 50) (kI 0) tI) 47 true, o 52 (.pick (q 47) (q 51) kF), oM 4 52]
  .ret)
  (sQ [oA 54 0 5, oL 55 54, o 56 (.bin .eql (q 55) (kI 12) tI), oM 53 56]
  (.cond (q 53)
  (sQ [oA 57 2 3, oL 58 57, o 59 (.call 119 [.tmp 58]), oM 8 59]
  (sQ [oM 60 8, oM 61 60, og 62 (.fieldAddr 1 (q 3)) 61 true, og 63 (.load false 1 (q 62)) 61 true, og 64 (.bin .eql (q 63) (kI 0) tI) 61 true, o 65 (.pick (q 61) (q 64) kF), oM 66 65, og 67 (.fieldAddr 3 (q 3)) 66 true, og 68 (.load false 1 (q 67)) 66 true, og 69 (.len 1 (q 68)) 66 true, og 70 (.bin .eql (q 69) (kI 0) tI) 66 true, o 71 (.pick (q 66) (q 70) kF), oM 4 71]
  .ret))
  (sQ [oA 73 0 5, oL 74 73, o 75 (.bin .eql (q 74) (kI 13) tI), oM 72 75]
  (.cond (q 72)
  (sQ [oA 76 1 3, oL 77 76, o 78 (.bin .eql (q 77) (kI 0) tI), oM 79 78, og 80 (.fieldAddr 3 (q 3)) 79 true, og 81 (.load false 1 (q 80)) 79 true, og 82 (.len 1 (q 81)) 79 true, og 83 (.bin .eql (q 82) (kI 0) tI) 79 true, o 84 (.pick (q 79) (q 83) kF), oM 4 84]
  .ret)
  (sQ [oA 86 0 5, oL 87 86, o 88 (.bin .eql (q 87) (kI 14) tI), oM 85 88]
  (.cond (q 85)
  (sQ [oA 89 1 3, oL 90 89, o 91 (.bin .eql (q 90) (kI 0) tI), oM 92 91, og 93 (.fieldAddr 3 (q 3)) 92 true, og 94 (.load false 1 (q 93)) 92 true, og 95 (.len 1 (q 94)) 92 true, og 96 (.bin .eql (q 95) (kI 0) tI) 92 true, o 97 (.pick (q 92) (q 96) kF), oM 98 97, og 99 (.fieldAddr 2 (q 3)) 98 true, og 100 (.load false 1 (q 99)) 98 true, og 101 (.len 0 (q 100)) 98 true, og 102 (.fieldAddr 1 (q 5)) 98 true, og 103 (.load false 1 (q 102)) 98 true, og 104 (.bin .eql (q 101) (q 103) tI) 98 true, o 105 (.pick (q 98) (q 104) kF), oM 4 105]
  .ret)
  (.seq (sQ [oA 107 0 5, oL 108 107, o 109 (.bin .eql (q 108) (kI 19) tI), oM 106 109]
  (.cond (q 106)
  .skip
  (.ops [oA 110 0 5, oL 111 110, o 112 (.bin .eql (q 111) (kI 20) tI), oM 106 112])))
  (.cond (q 106)
  (sQ [oA 113 4 5, oL 114 113, o 115 (.indexAddr 7 (q 114) (kI 0)), o 116 (.load true 7 (q 115)), o 117 (.load true 4 (q 3)), o 118 (.call 95 [.tmp 116, .tmp 117]), oM 4 118]
  .ret)
  .skip)))))))))))
  (sQ [oA 119 2 3, oL 120 119, o 121 (.bin .eql (q 120) (.const (.string ⟨#[]⟩)) (some .string)), oM 122 121, og 123 (.load true 5 (q 5)) 122 true, og 124 (.load true 4 (q 3)) 122 true, og 125 (.call 120 [.tmp 123, .tmp 124]) 122 true, o 126 (.pick (q 122) (q 125) kF), oM 4 126]
  .ret))))))⟩
theorem F95_ok : compF Tryz.prog 95 = some F95 := by kernel_rfl
def F97 : FC := ⟨92, [.cell 4 true 3, .tmp 5],
  (sQ [o 2 (.box (q 0)), o 3 (.box (q 1)), o 4 (.alloc [.int .i64 0, .slice none 0 0, .int .i64 0]), o 5 (.mov (.const (.slice none 0 0)))]
  (.seq (sQ [o 18 (.load true 7 (q 2)), o 19 (.load true 6 (q 3)), o 20 (.call 121 [.tmp 18, .tmp 19]), o 6 (.alloc [.int .i64 0, .slice none 0 0, .int .i64 0]), oS 3 6 20]
  (sQ [oA 21 0 6, oL 22 21, o 23 (.bin .neq (q 22) (kI 0) tI)]
  (.cond (q 23)
  (sQ [o 24 (.load true 3 (q 6)), oS 3 4 24, o 5 (.mov (.const (.slice none 0 0)))]
  .ret)
  .skip)))
  (.seq (sQ [o 25 (.load true 7 (q 2)), o 26 (.load true 6 (q 3)), o 27 (.call 122 [.tmp 25, .tmp 26]), o 7 (.alloc [.int .i64 0, .slice none 0 0, .int .i64 0]), oS 3 7 27]
  (sQ [oA 28 0 7, oL 29 28, o 30 (.bin .neq (q 29) (kI 0) tI)]
  (.cond (q 30)
  (sQ [o 31 (.load true 3 (q 7)), oS 3 4 31, o 5 (.mov (.const (.slice none 0 0)))]
  .ret)
  .skip)))
  (sQ [o 8 (.mov (.const (.slice none 0 0)))]
  (.seq (sQ [o 32 (.load true 6 (q 3)), o 33 (.call 123 [.tmp 32]), o 34 (.len 1 (q 33)), o 35 (.mov (kI 0))]
  (.block 0 (.loop (sQ [o 36 (.bin .lss (q 35) (q 34) tI)]
  (.seq (.cond (q 36)
  .skip
  (.exit 0))
  (.seq (.block 1 (sQ [oM 37 35, o 38 (.indexAddr 6 (q 33) (q 35)), o 39 (.load true 6 (q 38)), o 10 (.alloc [.int .i64 0, .int .i64 0, .int .i64 0, .slice none 0 0, .slice none 0 0, .slice none 0 0]), oM 9 37, oS 6 10 39]
  (sQ [o 41 (.load true 7 (q 2)), oM 42 9, o 44 (.load true 6 (q 10)), o 43 (.call 124 [.tmp 41, .tmp 42]), ⟨none, .again 44 true 6 (q 10), none⟩, o 45 (.call 97 [.tmp 43, .tmp 44]), oM 40 45, o 46 (.extract (q 40) 0), o 47 (.extract (q 40) 1), o 11 (.alloc [.int .i64 0, .slice none 0 0, .int .i64 0]), oS 3 11 46, oM 12 47]
  (.seq (sQ [oA 48 0 11, oL 49 48, o 50 (.bin .neq (q 49) (kI 0) tI)]
  (.cond (q 50)
  (sQ [oM 51 9, o 52 (.buildSlice 1 1 [.int .i64 0] [(0, 1, (q 51))]), oA 53 1 11, oL 54 53, o 55 (.append 1 8 (q 52) (q 54)), oA 56 1 11, oS 1 56 55]
  (sQ [o 57 (.load true 3 (q 11)), oS 3 4 57, o 5 (.mov (.const (.slice none 0 0)))]
  .ret))
  .skip))
  (.ops [oM 58 8, oM 59 12, o 60 (.buildSlice 1 1 [.slice none 0 0] [(0, 1, (q 59))]), o 61 (.append 1 24 (q 58) (q 60)), oM 8 61])))))
  (.ops [o 62 (.bin .add (q 35) (kI 1) tI), oM 35 62])))))))
  (.seq (sQ [oA 63 2 2, oA 64 0 63, oL 65 64, o 66 (.bin .eql (q 65) (kI 20) tI)]
  (.cond (q 66)
  (sQ [o 67 (.load true 6 (q 3)), o 68 (.call 125 [.tmp 67]), o 13 (.alloc [.int .i64 0, .slice none 0 0, .int .i64 0]), oS 3 13 68]
  (sQ [oA 69 0 13, oL 70 69, o 71 (.bin .neq (q 70) (kI 0) tI)]
  (.cond (q 71)
  (sQ [o 72 (.load true 3 (q 13)), oS 3 4 72, o 5 (.mov (.const (.slice none 0 0)))]
  .ret)
  .skip)))
  .skip))
  (sQ [o 73 (.load true 7 (q 2)), o 74 (.load true 6 (q 3)), oM 75 8, o 76 (.call 126 [.tmp 73, .tmp 74, .tmp 75]), oM 14 76]
  (sQ [o 15 (.mov (kI 0))]
  (.seq (sQ [oM 77 14, o 78 (.len 1 (q 77)), o 79 (.mov (kI 0))]
  (.block 2 (.loop (sQ [o 80 (.bin .lss (q 79) (q 78) tI)]
  (.seq (.cond (q 80)
  .skip
  (.exit 2))
  (.seq (.block 3 (sQ [o 81 (.indexAddr 1 (q 77) (q 79)), oL 82 81, oM 17 82]
  (.ops [oM 83 15, oM 84 17, o 85 (.bin .add (q 83) (q 84) tI), oM 15 85])))
  (.ops [o 86 (.bin .add (q 79) (kI 1) tI), oM 79 86])))))))
  (.seq (sQ [oM 87 15, o 88 (.bin .gtr (q 87) (kI 4194304) tI)]
  (.cond (q 88)
  (sQ [o 89 (.call 96 [(kI 3), (kI 1)]), oS 3 4 89, o 5 (.mov (.const (.slice none 0 0)))]
  .ret)
  .skip))
  (sQ [o 90 (.build [.int .i64 0, .slice none 0 0, .int .i64 0] []), oM 91 14, oS 3 4 90, oM 5 91]
  .ret)))))))))))⟩
theorem F97_ok : compF Tryz.prog 97 = some F97 := by kernel_rfl
def F98 : FC := ⟨32, [.tmp 2],
  (sQ [o 2 (.mov (.const .nilIface))]
  (.seq (sQ [oM 3 0]
  (.block 0 (.seq (sQ [o 5 (.bin .eql (q 3) (kI 12) tI), oM 4 5]
  (.cond (q 4)
  .skip
  (.ops [o 6 (.bin .eql (q 3) (kI 13) tI), oM 4 6])))
  (.cond (q 4)
  (sQ [o 7 (.build [] []), o 8 (.mkIface 171 (q 7)), oM 2 8]
  .ret)
  (.seq (sQ [o 10 (.bin .eql (q 3) (kI 15) tI), oM 9 10]
  (.cond (q 9)
  .skip
  (.ops [o 11 (.bin .eql (q 3) (kI 16) tI), oM 9 11])))
  (.cond (q 9)
  (sQ [o 12 (.build [] []), o 13 (.mkIface 172 (q 12)), oM 2 13]
  .ret)
  (sQ [o 15 (.bin .eql (q 3) (kI 17) tI), oM 14 15]
  (.cond (q 14)
  (sQ [o 16 (.build [] []), o 17 (.mkIface 173 (q 16)), oM 2 17]
  .ret)
  (sQ [o 19 (.bin .eql (q 3) (kI 18) tI), oM 18 19]
  (.cond (q 18)
  (sQ [o 20 (.build [] []), o 21 (.mkIface 174 (q 20)), oM 2 21]
  .ret)
  (sQ [o 23 (.bin .eql (q 3) (kI 19) tI), oM 22 23]
  (.cond (q 22)
  (sQ [o 24 (.build [] []), o 25 (.mkIface 175 (q 24)), oM 2 25]
  .ret)
  (sQ [o 27 (.bin .eql (q 3) (kI 20) tI), oM 26 27]
  (.cond (q 26)
  (sQ [o 28 (.build [] []), o 29 (.mkIface 176 (q 28)), oM 2 29]
  .ret)
  .skip))))))))))))))
  (sQ [o 30 (.build [] []), o 31 (.mkIface 177 (q 30)), oM 2 31]
  .ret)))⟩
theorem F98_ok : compF Tryz.prog 98 = some F98 := by kernel_rfl
def F99 : FC := ⟨8, [.tmp 2],
  (sQ [o 2 (.mov (.const (.slice none 0 0)))]
  (.seq (sQ [oM 3 0, o 4 (.bin .eql (q 3) (.const (.slice none 0 0)) (some (.slice 26)))]
  (.cond (q 4)
  (sQ [o 2 (.mov (.const (.slice none 0 0)))]
  .ret)
  .skip))
  (sQ [o 5 (.buildSlice 7 0 [] []), oM 6 0, o 7 (.append 7 80 (q 5) (q 6)), oM 2 7]
  .ret)))⟩
theorem F99_ok : compF Tryz.prog 99 = some F99 := by kernel_rfl
def F100 : FC := ⟨8, [.tmp 2],
  (sQ [o 2 (.mov (.const (.slice none 0 0)))]
  (.seq (sQ [oM 3 0, o 4 (.bin .eql (q 3) (.const (.slice none 0 0)) (some (.slice 42)))]
  (.cond (q 4)
  (sQ [o 2 (.mov (.const (.slice none 0 0)))]
  .ret)
  .skip))
  (sQ [o 5 (.buildSlice 1 0 [] []), oM 6 0, o 7 (.append 1 24 (q 5) (q 6)), oM 2 7]
  .ret)))⟩
theorem F100_ok : compF Tryz.prog 100 = some F100 := by kernel_rfl
def F101 : FC := ⟨19, [.tmp 2],
  (sQ [o 2 (.mov (.const (.slice none 0 0)))]
  (sQ [o 3 (.mov (.const (.slice none 0 0)))]
  (.seq (sQ [oM 6 0, o 7 (.len 1 (q 6)), o 8 (.mov (kI 0))]
  (.block 0 (.loop (sQ [o 9 (.bin .lss (q 8) (q 7) tI)]
  (.seq (.cond (q 9)
  .skip
  (.exit 0))
  (.seq (.block 1 (sQ [o 10 (.indexAddr 6 (q 6) (q 8)), o 11 (.load true 6 (q 10)), o 5 (.alloc [.int .i64 0, .int .i64 0, .int .i64 0, .slice none 0 0, .slice none 0 0, .slice none 0 0]), oS 6 5 11]
  (.ops [oM 12 3, o 13 (.load true 6 (q 5)), o 14 (.call 74 [.tmp 13]), o 15 (.buildSlice 6 1 [.int .i64 0, .int .i64 0, .int .i64 0, .slice none 0 0, .slice none 0 0, .slice none 0 0] [(0, 6, (q 14))]), o 16 (.append 6 96 (q 12) (q 15)), oM 3 16])))
  (.ops [o 17 (.bin .add (q 8) (kI 1) tI), oM 8 17])))))))
  (sQ [oM 18 3, oM 2 18]
  .ret))))⟩
theorem F101_ok : compF Tryz.prog 101 = some F101 := by kernel_rfl
def F103 : FC := ⟨16, [.cell 6 true 4],
  (sQ [o 6 (.alloc zcZ)]
  (sQ [oM 7 0, oM 8 0, o 9 (.nilCheck (q 8)), oA 10 13 9, oL 11 10, oM 12 1, o 13 (.bin .add (q 11) (q 12) tI), oM 14 2, o 15 (.call 127 [.tmp 7, .tmp 13, .tmp 14]), oS 4 6 15]
  .ret))⟩
theorem F103_ok : compF Tryz.prog 103 = some F103 := by kernel_rfl
def F104 : FC := ⟨29, [.tmp 2],
  (sQ [o 2 (.mov kF)]
  (sQ [oM 3 0, o 4 (.bin .geq (q 3) (.const (.int .u8 97)) (some (.int .u8))), oM 5 4, og 6 (.mov (q 0)) 5 true, og 7 (.bin .leq (q 6) (.const (.int .u8 122)) (some (.int .u8))) 5 true, o 8 (.pick (q 5) (q 7) kF), oM 9 8, og 10 (.mov (q 0)) 9 false, og 11 (.bin .geq (q 10) (.const (.int .u8 65)) (some (.int .u8))) 9 false, og 12 (.mov (q 11)) 9 false, og 13 (.mov (q 0)) 12 true, og 14 (.bin .leq (q 13) (.const (.int .u8 90)) (some (.int .u8))) 12 true, og 15 (.pick (q 12) (q 14) kF) 9 false, o 16 (.pick (q 9) kT (q 15)), oM 17 16, og 18 (.mov (q 0)) 17 false, og 19 (.bin .geq (q 18) (.const (.int .u8 48)) (some (.int .u8))) 17 false, og 20 (.mov (q 19)) 17 false, og 21 (.mov (q 0)) 20 true, og 22 (.bin .leq (q 21) (.const (.int .u8 57)) (some (.int .u8))) 20 true, og 23 (.pick (q 20) (q 22) kF) 17 false, o 24 (.pick (q 17) kT (q 23)), oM 25 24, og 26 (.mov (q 0)) 25 false, og 27 (.bin .eql (q 26) (.const (.int .u8 95)) (some (.int .u8))) 25 false, o 28 (.pick (q 25) kT (q 27)), oM 2 28]
  .ret))⟩
theorem F104_ok : compF Tryz.prog 104 = some F104 := by kernel_rfl
def F105 : FC := ⟨29, [.tmp 2],
  (sQ [o 2 (.mov kF)]
  (sQ [oM 3 0, o 4 (.bin .geq (q 3) (.const (.int .u8 97)) (some (.int .u8))), oM 5 4, og 6 (.mov (q 0)) 5 true, og 7 (.bin .leq (q 6) (.const (.int .u8 122)) (some (.int .u8))) 5 true, o 8 (.pick (q 5) (q 7) kF), oM 9 8, og 10 (.mov (q 0)) 9 false, og 11 (.bin .geq (q 10) (.const (.int .u8 65)) (some (.int .u8))) 9 false, og 12 (.mov (q 11)) 9 false, og 13 (.mov (q 0)) 12 true, og 14 (.bin .leq (q 13) (.const (.int .u8 90)) (some (.int .u8))) 12 true, og 15 (.pick (q 12) (q 14) kF) 9 false, o 16 (.pick (q 9) kT (q 15)), oM 17 16, og 18 (.mov (q 0)) 17 false, og 19 (.bin .geq (q 18) (.const (.int .u8 48)) (some (.int .u8))) 17 false, og 20 (.mov (q 19)) 17 false, og 21 (.mov (q 0)) 20 true, og 22 (.bin .leq (q 21) (.const (.int .u8 57)) (some (.int .u8))) 20 true, og 23 (.pick (q 20) (q 22) kF) 17 false, o 24 (.pick (q 17) kT (q 23)), oM 25 24, og 26 (.mov (q 0)) 25 false, og 27 (.bin .eql (q 26) (.const (.int .u8 95)) (some (.int .u8))) 25 false, o 28 (.pick (q 25) kT (q 27)), oM 2 28]
  .ret))⟩
theorem F105_ok : compF Tryz.prog 105 = some F105 := by kernel_rfl
def F106 : FC := ⟨19, [.tmp 4],
  (sQ [o 4 (.mov (kI 0))]
  (.seq (sQ [oM 6 0, o 7 (.len 1 (q 6)), o 8 (.mov (kI 0))]
  (.block 0 (.loop (sQ [o 9 (.bin .lss (q 8) (q 7) tI)]
  (.seq (.cond (q 9)
  .skip
  (.exit 0))
  (.seq (.block 1 (sQ [oM 10 8, oM 5 10]
  (sQ [oM 11 1, oM 12 0, oM 13 5, o 14 (.indexAddr 7 (q 12) (q 13)), o 15 (.load true 7 (q 14)), o 16 (.callv (q 11) [.tmp 15])]
  (.cond (q 16)
  (sQ [oM 17 5, oM 4 17]
  .ret)
  .skip))))
  (.ops [o 18 (.bin .add (q 8) (kI 1) tI), oM 8 18])))))))
  (sQ [o 4 (.mov (kI (-1)))]
  .ret)))⟩
theorem F106_ok : compF Tryz.prog 106 = some F106 := by kernel_rfl
def F107 : FC := ⟨9, [.tmp 2],
  (sQ [o 2 (.mov kF)]
  (sQ [oM 3 0, o 4 (.bin .geq (q 3) (kI 1) tI), oM 5 4, og 6 (.mov (q 0)) 5 true, og 7 (.bin .leq (q 6) (kI 20) tI) 5 true, o 8 (.pick (q 5) (q 7) kF), oM 2 8]
  .ret))⟩
theorem F107_ok : compF Tryz.prog 107 = some F107 := by kernel_rfl
def F111 : FC := ⟨9, [.tmp 2],
  (sQ [o 2 (.mov kF)]
  (sQ [oM 3 0, o 4 (.bin .geq (q 3) (kI 3) tI), oM 5 4, og 6 (.mov (q 0)) 5 true, og 7 (.bin .leq (q 6) (kI 10) tI) 5 true, o 8 (.pick (q 5) (q 7) kF), oM 2 8]
  .ret))⟩
theorem F111_ok : compF Tryz.prog 111 = some F111 := by kernel_rfl
def F112 : FC := ⟨37, [.tmp 4],
  (sQ [o 4 (.mov kF)]
  (sQ [oM 8 0, o 9 (.call 129 [.tmp 8]), oM 7 9, o 10 (.extract (q 7) 0), o 11 (.extract (q 7) 1), oM 5 10, oM 6 11]
  (.seq (.block 0 (sQ [oM 13 5, o 14 (.bin .eql (q 13) (kI 64) tI), oM 12 14]
  (.cond (q 12)
  (sQ [o 4 (.mov kT)]
  .ret)
  (sQ [oM 16 6, oM 15 16]
  (.cond (q 15)
  (sQ [oM 17 1, oM 18 5, o 19 (.bin .sub (q 18) (kI 1) tI), o 20 (.bin .shl (kI (-1)) (q 19) tI), o 21 (.bin .geq (q 17) (q 20) tI), oM 22 21, og 23 (.mov (q 1)) 22 true, og 24 (.mov (q 5)) 22 true, og 25 (.bin .sub (q 24) (kI 1) tI) 22 true, og 26 (.bin .shl (kI 1) (q 25) tI) 22 true, og 27 (.bin .lss (q 23) (q 26) tI) 22 true, o 28 (.pick (q 22) (q 27) kF), oM 4 28]
  .ret)
  .skip)))))
  (sQ [oM 29 1, o 30 (.bin .geq (q 29) (kI 0) tI), oM 31 30, og 32 (.mov (q 1)) 31 true, og 33 (.mov (q 5)) 31 true, og 34 (.bin .shl (kI 1) (q 33) tI) 31 true, og 35 (.bin .lss (q 32) (q 34) tI) 31 true, o 36 (.pick (q 31) (q 35) kF), oM 4 36]
  .ret))))⟩
theorem F112_ok : compF Tryz.prog 112 = some F112 := by kernel_rfl
def F113 : FC := ⟨6, [.tmp 2],
  (sQ [o 2 (.mov kF)]
  (sQ [oM 3 0, oM 4 0, o 5 (.bin .neq (q 3) (q 4) (some (.int .u64))), oM 2 5]
  .ret))⟩
theorem F113_ok : compF Tryz.prog 113 = some F113 := by kernel_rfl
def F114 : FC := ⟨6, [.tmp 2],
  (sQ [o 2 (.mov kF)]
  (sQ [oM 3 0, oM 4 0, o 5 (.bin .neq (q 3) (q 4) tI), oM 2 5]
  .ret))⟩
theorem F114_ok : compF Tryz.prog 114 = some F114 := by kernel_rfl
def F117 : FC := ⟨9, [.tmp 2],
  (sQ [o 2 (.mov kF)]
  (sQ [oM 3 0, o 4 (.bin .geq (q 3) (kI 2) tI), oM 5 4, og 6 (.mov (q 0)) 5 true, og 7 (.bin .leq (q 6) (kI 11) tI) 5 true, o 8 (.pick (q 5) (q 7) kF), oM 2 8]
  .ret))⟩
theorem F117_ok : compF Tryz.prog 117 = some F117 := by kernel_rfl
def F118 : FC := ⟨62, [.tmp 4],
  (sQ [o 4 (.mov kF)]
  (.seq (sQ [oM 5 0]
  (.block 0 (sQ [o 7 (.bin .eql (q 5) (kI 2) tI), oM 6 7]
  (.cond (q 6)
  (sQ [oM 8 1, o 9 (.bin .eql (q 8) (kI 0) tI), oM 10 9, og 11 (.mov (q 1)) 10 false, og 12 (.bin .eql (q 11) (kI 1) tI) 10 false, o 13 (.pick (q 10) kT (q 12)), oM 4 13]
  .ret)
  (sQ [o 15 (.bin .eql (q 5) (kI 3) tI), oM 14 15]
  (.cond (q 14)
  (sQ [oM 16 1, o 17 (.bin .geq (q 16) (kI (-128)) tI), oM 18 17, og 19 (.mov (q 1)) 18 true, og 20 (.bin .leq (q 19) (kI 127) tI) 18 true, o 21 (.pick (q 18) (q 20) kF), oM 4 21]
  .ret)
  (sQ [o 23 (.bin .eql (q 5) (kI 4) tI), oM 22 23]
  (.cond (q 22)
  (sQ [oM 24 1, o 25 (.bin .geq (q 24) (kI (-32768)) tI), oM 26 25, og 27 (.mov (q 1)) 26 true, og 28 (.bin .leq (q 27) (kI 32767) tI) 26 true, o 29 (.pick (q 26) (q 28) kF), oM 4 29]
  .ret)
  (sQ [o 31 (.bin .eql (q 5) (kI 5) tI), oM 30 31]
  (.cond (q 30)
  (sQ [oM 32 1, o 33 (.bin .geq (q 32) (kI (-2147483648)) tI), oM 34 33, og 35 (.mov (q 1)) 34 true, og 36 (.bin .leq (q 35) (kI 2147483647) tI) 34 true, o 37 (.pick (q 34) (q 36) kF), oM 4 37]
  .ret)
  (sQ [o 39 (.bin .eql (q 5) (kI 7) tI), oM 38 39]
  (.cond (q 38)
  (sQ [oM 40 1, o 41 (.bin .geq (q 40) (kI 0) tI), oM 42 41, og 43 (.mov (q 1)) 42 true, og 44 (.bin .leq (q 43) (kI 255) tI) 42 true, o 45 (.pick (q 42) (q 44) kF), oM 4 45]
  .ret)
  (sQ [o 47 (.bin .eql (q 5) (kI 8) tI), oM 46 47]
  (.cond (q 46)
  (sQ [oM 48 1, o 49 (.bin .geq (q 48) (kI 0) tI), oM 50 49, og 51 (.mov (q 1)) 50 true, og 52 (.bin .leq (q 51) (kI 65535) tI) 50 true, o 53 (.pick (q 50) (q 52) kF), oM 4 53]
  .ret)
  (sQ [o 55 (.bin .eql (q 5) (kI 9) tI), oM 54 55]
  (.cond (q 54)
  (sQ [oM 56 1, o 57 (.bin .geq (q 56) (kI 0) tI), oM 58 57, og 59 (.mov (q 1)) 58 true, og 60 (.bin .leq (q 59) (kI 4294967295) tI) 58 true, o 61 (.pick (q 58) (q 60) kF), oM 4 61]
  .ret)
  .skip))))))))))))))))
  (sQ [o 4 (.mov kT)]
  .ret)))⟩
theorem F118_ok : compF Tryz.prog 118 = some F118 := by kernel_rfl
def F121 : FC := ⟨161, [.cell 4 true 3],
  (sQ [o 2 (.box (q 0)), o 3 (.box (q 1)), o 4 (.alloc [.int .i64 0, .slice none 0 0, .int .i64 0])]
  (sQ [oA 16 2 2, o 17 (.load true 5 (q 16)), o 18 (.call 131 [.tmp 17]), oM 15 18, o 19 (.extract (q 15) 0), o 20 (.extract (q 15) 1), o 21 (.extract (q 15) 2), oM 5 19, oM 6 20, oM 7 21]
  (sQ [oA 22 1 3, oL 23 22, oA 24 0 3, oL 25 24, o 26 (.bin .add (q 23) (q 25) tI), oM 8 26]
  (.seq (.block 0 (sQ [oA 28 3 3, oL 29 28, o 30 (.len 1 (q 29)), oM 31 5, o 32 (.bin .neq (q 30) (q 31) tI), oM 33 32, og 34 (.fieldAddr 4 (q 3)) 33 false, og 35 (.load false 1 (q 34)) 33 false, og 36 (.len 1 (q 35)) 33 false, og 37 (.mov (q 6)) 33 false, og 38 (.bin .neq (q 36) (q 37) tI) 33 false, o 39 (.pick (q 33) kT (q 38)), oM 40 39, og 41 (.fieldAddr 5 (q 3)) 40 false, og 42 (.load false 1 (q 41)) 40 false, og 43 (.len 1 (q 42)) 40 false, og 44 (.mov (q 7)) 40 false, og 45 (.bin .neq (q 43) (q 44) tI) 40 false, o 46 (.pick (q 40) kT (q 45)), oM 27 46]
  (.cond (q 27)
  (sQ [o 47 (.call 96 [(kI 80), (kI 0)]), oS 3 4 47]
  .ret)
  (sQ [oA 49 0 3, oL 50 49, o 51 (.bin .lss (q 50) (kI 0) tI), oM 52 51, og 53 (.fieldAddr 1 (q 3)) 52 false, og 54 (.load false 1 (q 53)) 52 false, og 55 (.bin .lss (q 54) (kI 0) tI) 52 false, o 56 (.pick (q 52) kT (q 55)), oM 57 56, og 58 (.fieldAddr 2 (q 3)) 57 false, og 59 (.load false 1 (q 58)) 57 false, og 60 (.bin .lss (q 59) (kI 0) tI) 57 false, o 61 (.pick (q 57) kT (q 60)), oM 62 61, og 63 (.fieldAddr 2 (q 3)) 62 false, og 64 (.load false 1 (q 63)) 62 false, og 65 (.fieldAddr 0 (q 3)) 62 false, og 66 (.load false 1 (q 65)) 62 false, og 67 (.bin .gtr (q 64) (q 66) tI) 62 false, o 68 (.pick (q 62) kT (q 67)), oM 48 68]
  (.cond (q 48)
  (sQ [o 69 (.call 96 [(kI 81), (kI 0)]), oS 3 4 69]
  .ret)
  (sQ [oA 71 0 3, oL 72 71, o 73 (.bin .gtr (q 72) (kI 4096) tI), oM 74 73, og 75 (.fieldAddr 1 (q 3)) 74 false, og 76 (.load false 1 (q 75)) 74 false, og 77 (.bin .gtr (q 76) (kI 4096) tI) 74 false, o 78 (.pick (q 74) kT (q 77)), oM 79 78, og 80 (.mov (q 8)) 79 false, og 81 (.bin .gtr (q 80) (kI 4096) tI) 79 false, o 82 (.pick (q 79) kT (q 81)), oM 70 82]
  (.cond (q 70)
  (sQ [o 83 (.call 96 [(kI 3), (kI 0)]), oS 3 4 83]
  .ret)
  .skip)))))))
  (.seq (sQ [oA 84 3 3, oL 85 84, o 86 (.len 1 (q 85)), o 87 (.mov (kI 0))]
  (.block 1 (.loop (sQ [o 88 (.bin .lss (q 87) (q 86) tI)]
  (.seq (.cond (q 88)
  .skip
  (.exit 1))
  (.seq (.block 2 (sQ [oM 89 87, o 90 (.indexAddr 1 (q 85) (q 87)), oL 91 90, oM 9 89, oM 10 91]
  (sQ [oM 92 10, o 93 (.len 1 (q 92)), o 94 (.bin .gtr (q 93) (kI 65536) tI)]
  (.cond (q 94)
  (sQ [oM 95 9, o 96 (.call 96 [(kI 4), .tmp 95]), oS 3 4 96]
  .ret)
  .skip))))
  (.ops [o 97 (.bin .add (q 87) (kI 1) tI), oM 87 97])))))))
  (.seq (sQ [oA 98 3 3, oL 99 98, o 100 (.len 1 (q 99)), o 101 (.mov (kI 0))]
  (.block 3 (.loop (sQ [o 102 (.bin .lss (q 101) (q 100) tI)]
  (.seq (.cond (q 102)
  .skip
  (.exit 3))
  (.seq (.block 4 (sQ [oM 103 101, o 104 (.indexAddr 1 (q 99) (q 101)), oL 105 104, oM 11 103, oM 12 105]
  (sQ [oM 106 12, o 107 (.len 1 (q 106)), oA 108 2 2, o 109 (.load true 5 (q 108)), oM 110 11, oM 111 8, oM 112 12, o 113 (.len 1 (q 112)), o 114 (.call 132 [.tmp 109, .tmp 110, .tmp 111, .tmp 113]), o 115 (.bin .lss (q 107) (q 114) tI)]
  (.cond (q 115)
  (sQ [oM 116 11, o 117 (.call 96 [(kI 82), .tmp 116]), oS 3 4 117]
  .ret)
  .skip))))
  (.ops [o 118 (.bin .add (q 101) (kI 1) tI), oM 101 118])))))))
  (.seq (sQ [oA 119 4 3, oL 120 119, o 121 (.len 1 (q 120)), o 122 (.mov (kI 0))]
  (.block 5 (.loop (sQ [o 123 (.bin .lss (q 122) (q 121) tI)]
  (.seq (.cond (q 123)
  .skip
  (.exit 5))
  (.seq (.block 6 (sQ [oM 124 122, o 125 (.indexAddr 6 (q 120) (q 122)), o 126 (.load true 6 (q 125)), o 14 (.alloc [.int .i64 0, .int .i64 0, .int .i64 0, .slice none 0 0, .slice none 0 0, .slice none 0 0]), oM 13 124, oS 6 14 126]
  (sQ [oA 127 2 2, oA 128 0 127, oL 129 128, o 130 (.bin .eql (q 129) (kI 16) tI), oM 131 130, og 132 (.fieldAddr 0 (q 14)) 131 true, og 133 (.load false 1 (q 132)) 131 true, og 134 (.mov (q 8)) 131 true, og 135 (.fieldAddr 2 (q 2)) 131 true, og 136 (.fieldAddr 1 (q 135)) 131 true, og 137 (.load false 1 (q 136)) 131 true, og 138 (.bin .mul (q 134) (q 137) tI) 131 true, og 139 (.bin .lss (q 133) (q 138) tI) 131 true, o 140 (.pick (q 131) (q 139) kF), oM 141 140, og 142 (.fieldAddr 2 (q 2)) 141 false, og 143 (.fieldAddr 0 (q 142)) 141 false, og 144 (.load false 1 (q 143)) 141 false, og 145 (.bin .eql (q 144) (kI 17) tI) 141 false, og 146 (.mov (q 145)) 141 false, og 147 (.fieldAddr 0 (q 14)) 146 true, og 148 (.load false 1 (q 147)) 146 true, og 149 (.mov (q 8)) 146 true, og 150 (.bin .lss (q 148) (q 149) tI) 146 true, og 151 (.pick (q 146) (q 150) kF) 141 false, o 152 (.pick (q 141) kT (q 151))]
  (.cond (q 152)
  (sQ [oM 153 5, oM 154 13, o 155 (.bin .add (q 153) (q 154) tI), o 156 (.call 96 [(kI 82), .tmp 155]), oS 3 4 156]
  .ret)
  .skip))))
  (.ops [o 157 (.bin .add (q 122) (kI 1) tI), oM 122 157])))))))
  (sQ [o 158 (.load true 7 (q 2)), o 159 (.load true 6 (q 3)), o 160 (.call 133 [.tmp 158, .tmp 159]), oS 3 4 160]
  .ret))))))))⟩
theorem F121_ok : compF Tryz.prog 121 = some F121 := by kernel_rfl
def F122 : FC := ⟨95, [.cell 4 true 3],
  (sQ [o 2 (.box (q 0)), o 3 (.box (q 1)), o 4 (.alloc [.int .i64 0, .slice none 0 0, .int .i64 0])]
  (.seq (sQ [oA 11 2 2, oA 12 0 11, oL 13 12]
  (.block 0 (.seq (sQ [o 15 (.bin .eql (q 13) (kI 12) tI), oM 14 15]
  (.cond (q 14)
  .skip
  (sQ [o 16 (.bin .eql (q 13) (kI 13) tI), oM 14 16]
  (.cond (q 14)
  .skip
  (.ops [o 17 (.bin .eql (q 13) (kI 15) tI), oM 14 17])))))
  (.cond (q 14)
  (sQ [o 18 (.load true 7 (q 2)), o 19 (.load true 6 (q 3)), o 20 (.call 134 [.tmp 18, .tmp 19]), oS 3 4 20]
  .ret)
  (sQ [o 22 (.bin .eql (q 13) (kI 18) tI), oM 21 22]
  (.cond (q 21)
  (sQ [oA 23 0 3, oL 24 23, o 25 (.mov (kI 0))]
  (.block 1 (.loop (sQ [o 26 (.bin .lss (q 25) (q 24) tI)]
  (.seq (.cond (q 26)
  .skip
  (.exit 1))
  (.seq (.block 2 (sQ [oM 27 25, oM 5 27]
  (sQ [oA 28 1 3, oL 29 28, oM 30 5, o 31 (.bin .add (q 29) (q 30) tI), oM 6 31]
  (sQ [oA 32 3 3, oL 33 32, o 34 (.indexAddr 1 (q 33) (kI 0)), oL 35 34, oM 36 6, o 37 (.indexAddr 1 (q 35) (q 36)), oL 38 37, o 39 (.conv .i64 (q 38)), oM 7 39]
  (.seq (sQ [oM 40 7, oA 41 4 3, oL 42 41, o 43 (.len 1 (q 42)), o 44 (.bin .geq (q 40) (q 43) tI)]
  (.cond (q 44)
  (sQ [oM 45 5, o 46 (.call 96 [(kI 85), .tmp 45]), oS 3 4 46]
  .ret)
  .skip))
  (sQ [oA 47 3 3, oL 48 47, o 49 (.indexAddr 1 (q 48) (kI 1)), oL 50 49, oM 51 6, o 52 (.call 135 [.tmp 50, .tmp 51]), oM 8 52]
  (sQ [oM 53 8, o 54 (.bin .lss (q 53) (kI 0) tI), oM 55 54, og 56 (.mov (q 8)) 55 false, og 57 (.fieldAddr 4 (q 3)) 55 false, og 58 (.load false 1 (q 57)) 55 false, og 59 (.mov (q 7)) 55 false, og 60 (.indexAddr 6 (q 58) (q 59)) 55 false, og 61 (.fieldAddr 0 (q 60)) 55 false, og 62 (.load false 1 (q 61)) 55 false, og 63 (.bin .geq (q 56) (q 62) tI) 55 false, o 64 (.pick (q 55) kT (q 63))]
  (.cond (q 64)
  (sQ [oM 65 5, o 66 (.call 96 [(kI 83), .tmp 65]), oS 3 4 66]
  .ret)
  .skip))))))))
  (.ops [o 67 (.bin .add (q 25) (kI 1) tI), oM 25 67])))))))
  (sQ [o 69 (.bin .eql (q 13) (kI 19) tI), oM 68 69]
  (.cond (q 68)
  (sQ [oA 70 0 3, oL 71 70, o 72 (.mov (kI 0))]
  (.block 3 (.loop (sQ [o 73 (.bin .lss (q 72) (q 71) tI)]
  (.seq (.cond (q 73)
  .skip
  (.exit 3))
  (.seq (.block 4 (sQ [oM 74 72, oM 9 74]
  (sQ [oA 75 1 3, oL 76 75, oM 77 9, o 78 (.bin .add (q 76) (q 77) tI), oM 10 78]
  (sQ [o 79 (.load true 7 (q 2)), o 80 (.load true 6 (q 3)), oM 81 10, o 82 (.call 136 [.tmp 79, .tmp 80, .tmp 81]), o 83 (.un .not (q 82)), oM 84 83, og 85 (.load true 7 (q 2)) 84 true, og 86 (.load true 6 (q 3)) 84 true, og 87 (.mov (q 10)) 84 true, og 88 (.call 137 [.tmp 85, .tmp 86, .tmp 87]) 84 true, og 89 (.bin .lss (q 88) (kI 0) tI) 84 true, o 90 (.pick (q 84) (q 89) kF)]
  (.cond (q 90)
  (sQ [oM 91 9, o 92 (.call 96 [(kI 86), .tmp 91]), oS 3 4 92]
  .ret)
  .skip)))))
  (.ops [o 93 (.bin .add (q 72) (kI 1) tI), oM 72 93])))))))
  .skip))))))))
  (sQ [o 94 (.build [.int .i64 0, .slice none 0 0, .int .i64 0] []), oS 3 4 94]
  .ret)))⟩
theorem F122_ok : compF Tryz.prog 122 = some F122 := by kernel_rfl
end Go.Proofs.YtecephhhjhpcjaaGreatDoor.Stats
end
