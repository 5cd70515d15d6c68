/- The code that the call meets, as instructions. No conditions. -/
import Derived.Test.YtpgeonghlabnhaaGreatDoorEm22
import Derived.Test.YtpgeonghlabnhaaGreatDoorProg
import Derived.KernelRfl
set_option linter.unusedVariables false
namespace Go.Proofs.YtpgeonghlabnhaaGreatDoor.Lin
open Go Go.Proofs.YtpgeonghlabnhaaGreatDoor Go.Proofs.YtpgeonghlabnhaaGreatDoor.Em
/-- what the program's variables hold -/
def gs : List (List EV) := [[.lit (.int .u8 240), .lit (.int .u8 240), .lit (.int .u8 240), .lit (.int .u8 240), .lit (.int .u8 240), .lit (.int .u8 240), .lit (.int .u8 240), .lit (.int .u8 240), .lit (.int .u8 240), .lit (.int .u8 240), .lit (.int .u8 240), .lit (.int .u8 240), .lit (.int .u8 240), .lit (.int .u8 240), .lit (.int .u8 240), .lit (.int .u8 240), .lit (.int .u8 240), .lit (.int .u8 240), .lit (.int .u8 240), .lit (.int .u8 240), .lit (.int .u8 240), .lit (.int .u8 240), .lit (.int .u8 240), .lit (.int .u8 240), .lit (.int .u8 240), .lit (.int .u8 240), .lit (.int .u8 240), .lit (.int .u8 240), .lit (.int .u8 240), .lit (.int .u8 240), .lit (.int .u8 240), .lit (.int .u8 240), .lit (.int .u8 240), .lit (.int .u8 240), .lit (.int .u8 240), .lit (.int .u8 240), .lit (.int .u8 240), .lit (.int .u8 240), .lit (.int .u8 240), .lit (.int .u8 240), .lit (.int .u8 240), .lit (.int .u8 240), .lit (.int .u8 240), .lit (.int .u8 240), .lit (.int .u8 240), .lit (.int .u8 240), .lit (.int .u8 240), .lit (.int .u8 240), .lit (.int .u8 240), .lit (.int .u8 240), .lit (.int .u8 240), .lit (.int .u8 240), .lit (.int .u8 240), .lit (.int .u8 240), .lit (.int .u8 240), .lit (.int .u8 240), .lit (.int .u8 240), .lit (.int .u8 240), .lit (.int .u8 240), .lit (.int .u8 240), .lit (.int .u8 240), .lit (.int .u8 240), .lit (.int .u8 240), .lit (.int .u8 240), .lit (.int .u8 240), .lit (.int .u8 240), .lit (.int .u8 240), .lit (.int .u8 240), .lit (.int .u8 240), .lit (.int .u8 240), .lit (.int .u8 240), .lit (.int .u8 240), .lit (.int .u8 240), .lit (.int .u8 240), .lit (.int .u8 240), .lit (.int .u8 240), .lit (.int .u8 240), .lit (.int .u8 240), .lit (.int .u8 240), .lit (.int .u8 240), .lit (.int .u8 240), .lit (.int .u8 240), .lit (.int .u8 240), .lit (.int .u8 240), .lit (.int .u8 240), .lit (.int .u8 240), .lit (.int .u8 240), .lit (.int .u8 240), .lit (.int .u8 240), .lit (.int .u8 240), .lit (.int .u8 240), .lit (.int .u8 240), .lit (.int .u8 240), .lit (.int .u8 240), .lit (.int .u8 240), .lit (.int .u8 240), .lit (.int .u8 240), .lit (.int .u8 240), .lit (.int .u8 240), .lit (.int .u8 240), .lit (.int .u8 240), .lit (.int .u8 240), .lit (.int .u8 240), .lit (.int .u8 240), .lit (.int .u8 240), .lit (.int .u8 240), .lit (.int .u8 240), .lit (.int .u8 240), .lit (.int .u8 240), .lit (.int .u8 240), .lit (.int .u8 240), .lit (.int .u8 240), .lit (.int .u8 240), .lit (.int .u8 240), .lit (.int .u8 240), .lit (.int .u8 240), .lit (.int .u8 240), .lit (.int .u8 240), .lit (.int .u8 240), .lit (.int .u8 240), .lit (.int .u8 240), .lit (.int .u8 240), .lit (.int .u8 240), .lit (.int .u8 240), .lit (.int .u8 240), .lit (.int .u8 240), .lit (.int .u8 240), .lit (.int .u8 240), .lit (.int .u8 241), .lit (.int .u8 241), .lit (.int .u8 241), .lit (.int .u8 241), .lit (.int .u8 241), .lit (.int .u8 241), .lit (.int .u8 241), .lit (.int .u8 241), .lit (.int .u8 241), .lit (.int .u8 241), .lit (.int .u8 241), .lit (.int .u8 241), .lit (.int .u8 241), .lit (.int .u8 241), .lit (.int .u8 241), .lit (.int .u8 241), .lit (.int .u8 241), .lit (.int .u8 241), .lit (.int .u8 241), .lit (.int .u8 241), .lit (.int .u8 241), .lit (.int .u8 241), .lit (.int .u8 241), .lit (.int .u8 241), .lit (.int .u8 241), .lit (.int .u8 241), .lit (.int .u8 241), .lit (.int .u8 241), .lit (.int .u8 241), .lit (.int .u8 241), .lit (.int .u8 241), .lit (.int .u8 241), .lit (.int .u8 241), .lit (.int .u8 241), .lit (.int .u8 241), .lit (.int .u8 241), .lit (.int .u8 241), .lit (.int .u8 241), .lit (.int .u8 241), .lit (.int .u8 241), .lit (.int .u8 241), .lit (.int .u8 241), .lit (.int .u8 241), .lit (.int .u8 241), .lit (.int .u8 241), .lit (.int .u8 241), .lit (.int .u8 241), .lit (.int .u8 241), .lit (.int .u8 241), .lit (.int .u8 241), .lit (.int .u8 241), .lit (.int .u8 241), .lit (.int .u8 241), .lit (.int .u8 241), .lit (.int .u8 241), .lit (.int .u8 241), .lit (.int .u8 241), .lit (.int .u8 241), .lit (.int .u8 241), .lit (.int .u8 241), .lit (.int .u8 241), .lit (.int .u8 241), .lit (.int .u8 241), .lit (.int .u8 241), .lit (.int .u8 241), .lit (.int .u8 241), .lit (.int .u8 2), .lit (.int .u8 2), .lit (.int .u8 2), .lit (.int .u8 2), .lit (.int .u8 2), .lit (.int .u8 2), .lit (.int .u8 2), .lit (.int .u8 2), .lit (.int .u8 2), .lit (.int .u8 2), .lit (.int .u8 2), .lit (.int .u8 2), .lit (.int .u8 2), .lit (.int .u8 2), .lit (.int .u8 2), .lit (.int .u8 2), .lit (.int .u8 2), .lit (.int .u8 2), .lit (.int .u8 2), .lit (.int .u8 2), .lit (.int .u8 2), .lit (.int .u8 2), .lit (.int .u8 2), .lit (.int .u8 2), .lit (.int .u8 2), .lit (.int .u8 2), .lit (.int .u8 2), .lit (.int .u8 2), .lit (.int .u8 2), .lit (.int .u8 2), .lit (.int .u8 19), .lit (.int .u8 3), .lit (.int .u8 3), .lit (.int .u8 3), .lit (.int .u8 3), .lit (.int .u8 3), .lit (.int .u8 3), .lit (.int .u8 3), .lit (.int .u8 3), .lit (.int .u8 3), .lit (.int .u8 3), .lit (.int .u8 3), .lit (.int .u8 3), .lit (.int .u8 35), .lit (.int .u8 3), .lit (.int .u8 3), .lit (.int .u8 52), .lit (.int .u8 4), .lit (.int .u8 4), .lit (.int .u8 4), .lit (.int .u8 68), .lit (.int .u8 241), .lit (.int .u8 241), .lit (.int .u8 241), .lit (.int .u8 241), .lit (.int .u8 241), .lit (.int .u8 241), .lit (.int .u8 241), .lit (.int .u8 241), .lit (.int .u8 241), .lit (.int .u8 241), .lit (.int .u8 241)], [.lit (.int .u8 128), .lit (.int .u8 191), .lit (.int .u8 160), .lit (.int .u8 191), .lit (.int .u8 128), .lit (.int .u8 159), .lit (.int .u8 144), .lit (.int .u8 191), .lit (.int .u8 128), .lit (.int .u8 143), .lit (.int .u8 0), .lit (.int .u8 0), .lit (.int .u8 0), .lit (.int .u8 0), .lit (.int .u8 0), .lit (.int .u8 0), .lit (.int .u8 0), .lit (.int .u8 0), .lit (.int .u8 0), .lit (.int .u8 0), .lit (.int .u8 0), .lit (.int .u8 0), .lit (.int .u8 0), .lit (.int .u8 0), .lit (.int .u8 0), .lit (.int .u8 0), .lit (.int .u8 0), .lit (.int .u8 0), .lit (.int .u8 0), .lit (.int .u8 0), .lit (.int .u8 0), .lit (.int .u8 0)], [.lit (.string ⟨#[]⟩), .lit (.int .i64 0), .lit (.int .i64 0), .lit (.bool false), .lit (.string ⟨#[110, 117, 108, 108]⟩), .lit (.int .i64 0), .lit (.int .i64 0), .lit (.bool false), .lit (.string ⟨#[98, 111, 111, 108]⟩), .lit (.int .i64 0), .lit (.int .i64 2), .lit (.bool false), .lit (.string ⟨#[105, 110, 116, 56]⟩), .lit (.int .i64 1), .lit (.int .i64 2), .lit (.bool true), .lit (.string ⟨#[105, 110, 116, 49, 54]⟩), .lit (.int .i64 2), .lit (.int .i64 2), .lit (.bool true), .lit (.string ⟨#[105, 110, 116, 51, 50]⟩), .lit (.int .i64 4), .lit (.int .i64 2), .lit (.bool true), .lit (.string ⟨#[105, 110, 116, 54, 52]⟩), .lit (.int .i64 8), .lit (.int .i64 2), .lit (.bool true), .lit (.string ⟨#[117, 105, 110, 116, 56]⟩), .lit (.int .i64 1), .lit (.int .i64 2), .lit (.bool true), .lit (.string ⟨#[117, 105, 110, 116, 49, 54]⟩), .lit (.int .i64 2), .lit (.int .i64 2), .lit (.bool true), .lit (.string ⟨#[117, 105, 110, 116, 51, 50]⟩), .lit (.int .i64 4), .lit (.int .i64 2), .lit (.bool true), .lit (.string ⟨#[117, 105, 110, 116, 54, 52]⟩), .lit (.int .i64 8), .lit (.int .i64 2), .lit (.bool true), .lit (.string ⟨#[102, 108, 111, 97, 116, 54, 52]⟩), .lit (.int .i64 8), .lit (.int .i64 2), .lit (.bool false), .lit (.string ⟨#[116, 101, 120, 116]⟩), .lit (.int .i64 0), .lit (.int .i64 3), .lit (.bool false), .lit (.string ⟨#[98, 121, 116, 101, 115]⟩), .lit (.int .i64 0), .lit (.int .i64 3), .lit (.bool false), .lit (.string ⟨#[102, 105, 120, 101, 100]⟩), .lit (.int .i64 0), .lit (.int .i64 2), .lit (.bool false), .lit (.string ⟨#[108, 105, 115, 116]⟩), .lit (.int .i64 0), .lit (.int .i64 2), .lit (.bool false), .lit (.string ⟨#[115, 112, 97, 110]⟩), .lit (.int .i64 0), .lit (.int .i64 1), .lit (.bool false), .lit (.string ⟨#[115, 116, 114, 117, 99, 116]⟩), .lit (.int .i64 0), .lit (.int .i64 1), .lit (.bool false), .lit (.string ⟨#[99, 104, 111, 105, 99, 101]⟩), .lit (.int .i64 0), .lit (.int .i64 2), .lit (.bool false), .lit (.string ⟨#[100, 105, 99, 116]⟩), .lit (.int .i64 0), .lit (.int .i64 2), .lit (.bool false), .lit (.string ⟨#[114, 117, 110, 115]⟩), .lit (.int .i64 0), .lit (.int .i64 0), .lit (.bool false)], [], [.lit (.int .u64 1), .lit (.int .u64 10), .lit (.int .u64 100), .lit (.int .u64 1000), .lit (.int .u64 10000), .lit (.int .u64 100000), .lit (.int .u64 1000000), .lit (.int .u64 10000000), .lit (.int .u64 100000000), .lit (.int .u64 1000000000), .lit (.int .u64 10000000000), .lit (.int .u64 100000000000), .lit (.int .u64 1000000000000), .lit (.int .u64 10000000000000), .lit (.int .u64 100000000000000), .lit (.int .u64 1000000000000000), .lit (.int .u64 10000000000000000), .lit (.int .u64 100000000000000000), .lit (.int .u64 1000000000000000000), .lit (.int .u64 10000000000000000000)], [.iface 386 (.top)], [.iface 386 (.top)], [.lit (.int .u8 0), .lit (.int .u8 1), .lit (.int .u8 28), .lit (.int .u8 2), .lit (.int .u8 29), .lit (.int .u8 14), .lit (.int .u8 24), .lit (.int .u8 3), .lit (.int .u8 30), .lit (.int .u8 22), .lit (.int .u8 20), .lit (.int .u8 15), .lit (.int .u8 25), .lit (.int .u8 17), .lit (.int .u8 4), .lit (.int .u8 8), .lit (.int .u8 31), .lit (.int .u8 27), .lit (.int .u8 13), .lit (.int .u8 23), .lit (.int .u8 21), .lit (.int .u8 19), .lit (.int .u8 16), .lit (.int .u8 7), .lit (.int .u8 26), .lit (.int .u8 12), .lit (.int .u8 18), .lit (.int .u8 6), .lit (.int .u8 11), .lit (.int .u8 5), .lit (.int .u8 10), .lit (.int .u8 9)], [.lit (.int .u8 0), .lit (.int .u8 1), .lit (.int .u8 56), .lit (.int .u8 2), .lit (.int .u8 57), .lit (.int .u8 49), .lit (.int .u8 28), .lit (.int .u8 3), .lit (.int .u8 61), .lit (.int .u8 58), .lit (.int .u8 42), .lit (.int .u8 50), .lit (.int .u8 38), .lit (.int .u8 29), .lit (.int .u8 17), .lit (.int .u8 4), .lit (.int .u8 62), .lit (.int .u8 47), .lit (.int .u8 59), .lit (.int .u8 36), .lit (.int .u8 45), .lit (.int .u8 43), .lit (.int .u8 51), .lit (.int .u8 22), .lit (.int .u8 53), .lit (.int .u8 39), .lit (.int .u8 33), .lit (.int .u8 30), .lit (.int .u8 24), .lit (.int .u8 18), .lit (.int .u8 12), .lit (.int .u8 5), .lit (.int .u8 63), .lit (.int .u8 55), .lit (.int .u8 48), .lit (.int .u8 27), .lit (.int .u8 60), .lit (.int .u8 41), .lit (.int .u8 37), .lit (.int .u8 16), .lit (.int .u8 46), .lit (.int .u8 35), .lit (.int .u8 44), .lit (.int .u8 21), .lit (.int .u8 52), .lit (.int .u8 32), .lit (.int .u8 23), .lit (.int .u8 11), .lit (.int .u8 54), .lit (.int .u8 26), .lit (.int .u8 40), .lit (.int .u8 15), .lit (.int .u8 34), .lit (.int .u8 20), .lit (.int .u8 31), .lit (.int .u8 10), .lit (.int .u8 25), .lit (.int .u8 14), .lit (.int .u8 19), .lit (.int .u8 9), .lit (.int .u8 13), .lit (.int .u8 8), .lit (.int .u8 7), .lit (.int .u8 6)]]
/-- colonnade/colonnadelaw25.LinesNames -/
def F3 : FC := ⟨4, [.tmp 0],
  (.seq (.ops [⟨(some 0), .mov (.const (.bool false)), none⟩])
  (.seq (.ops [⟨(some 1), .mov (.const (.bool true)), none⟩,
    ⟨(some 2), .call 6 [], (some (1, true))⟩,
    ⟨(some 3), .pick (.tmp 1) (.tmp 2) (.const (.bool false)), none⟩,
    ⟨(some 0), .mov (.tmp 3), none⟩])
  .ret))⟩
theorem F3_ok : compF Tryz.prog 3 = some F3 := by kernel_rfl
/-- colonnade/colonnadelaw25.awake -/
def F6 : FC := ⟨79, [.tmp 0],
  (.seq (.ops [⟨(some 0), .mov (.const (.bool false)), none⟩])
  (.seq (.ops [⟨(some 11), .build [(.int .i64 0), (.int .i64 0), (.int .i64 0), (.int .i64 0), (.slice none 0 0)] [(0, 1, (.const (.int .i64 3)))], none⟩,
    ⟨(some 12), .build [(.string ⟨#[]⟩), (.bool false), (.int .i64 0), (.int .i64 0), (.int .i64 0), (.int .i64 0), (.slice none 0 0)] [(0, 1, (.const (.string ⟨#[97]⟩))), (1, 1, (.const (.bool true))), (2, 5, (.tmp 11))], none⟩,
    ⟨(some 13), .build [(.int .i64 0), (.int .i64 0), (.int .i64 0), (.int .i64 0), (.slice none 0 0)] [(0, 1, (.const (.int .i64 12)))], none⟩,
    ⟨(some 14), .build [(.string ⟨#[]⟩), (.bool false), (.int .i64 0), (.int .i64 0), (.int .i64 0), (.int .i64 0), (.slice none 0 0)] [(0, 1, (.const (.string ⟨#[98]⟩))), (2, 5, (.tmp 13))], none⟩,
    ⟨(some 15), .buildSlice 7 2 [(.string ⟨#[]⟩), (.bool false), (.int .i64 0), (.int .i64 0), (.int .i64 0), (.int .i64 0), (.slice none 0 0), (.string ⟨#[]⟩), (.bool false), (.int .i64 0), (.int .i64 0), (.int .i64 0), (.int .i64 0), (.slice none 0 0)] [(0, 7, (.tmp 12)), (7, 7, (.tmp 14))], none⟩,
    ⟨(some 16), .build [(.slice none 0 0), (.slice none 0 0)] [(0, 1, (.tmp 15))], none⟩,
    ⟨(some 1), .alloc [(.slice none 0 0), (.slice none 0 0)], none⟩,
    ⟨none, .store 2 (.tmp 1) (.tmp 16), none⟩])
  (.seq (.ops [⟨(some 2), .mov (.const (.string ⟨#[97, 44, 98, 10, 49, 44, 120, 10, 44, 34, 34, 10, 50, 44, 34, 97, 44, 98, 34, 10]⟩)), none⟩])
  (.seq (.ops [⟨(some 18), .load true 2 (.tmp 1), none⟩,
    ⟨(some 19), .mov (.tmp 2), none⟩,
    ⟨(some 20), .call 10 [(.tmp 18), (.tmp 19)], none⟩,
    ⟨(some 17), .mov (.tmp 20), none⟩,
    ⟨(some 21), .extract (.tmp 17) 0, none⟩,
    ⟨(some 22), .extract (.tmp 17) 1, none⟩,
    ⟨(some 23), .extract (.tmp 17) 2, none⟩,
    ⟨(some 24), .extract (.tmp 17) 3, none⟩,
    ⟨(some 3), .alloc [(.slice none 0 0), (.slice none 0 0), (.slice none 0 0)], none⟩,
    ⟨none, .store 3 (.tmp 3) (.tmp 21), none⟩,
    ⟨(some 4), .mov (.tmp 22), none⟩,
    ⟨(some 5), .mov (.tmp 23), none⟩,
    ⟨(some 6), .mov (.tmp 24), none⟩])
  (.seq (.ops [⟨(some 26), .load true 3 (.tmp 3), none⟩,
    ⟨(some 27), .call 11 [(.tmp 26)], none⟩,
    ⟨(some 25), .mov (.tmp 27), none⟩,
    ⟨(some 28), .extract (.tmp 25) 0, none⟩,
    ⟨(some 29), .extract (.tmp 25) 1, none⟩,
    ⟨(some 7), .mov (.tmp 28), none⟩,
    ⟨(some 8), .mov (.tmp 29), none⟩])
  (.seq (.ops [⟨(some 31), .mov (.tmp 2), none⟩,
    ⟨(some 32), .call 7 [(.tmp 31)], none⟩,
    ⟨(some 30), .mov (.tmp 32), none⟩,
    ⟨(some 33), .extract (.tmp 30) 0, none⟩,
    ⟨(some 34), .extract (.tmp 30) 1, none⟩,
    ⟨(some 9), .alloc [(.slice none 0 0), (.slice none 0 0)], none⟩,
    ⟨none, .store 2 (.tmp 9) (.tmp 33), none⟩,
    ⟨(some 10), .mov (.tmp 34), none⟩])
  (.seq (.ops [⟨(some 35), .mov (.tmp 4), none⟩,
    ⟨(some 36), .bin .eql (.tmp 35) (.const (.int .i64 0)) (some (.int .i64)), none⟩,
    ⟨(some 37), .mov (.tmp 36), none⟩,
    ⟨(some 38), .fieldAddr 2 (.tmp 3), (some (37, true))⟩,
    ⟨(some 39), .load false 1 (.tmp 38), (some (37, true))⟩,
    ⟨(some 40), .len 1 (.tmp 39), (some (37, true))⟩,
    ⟨(some 41), .bin .eql (.tmp 40) (.const (.int .i64 1)) (some (.int .i64)), (some (37, true))⟩,
    ⟨(some 42), .pick (.tmp 37) (.tmp 41) (.const (.bool false)), none⟩,
    ⟨(some 43), .mov (.tmp 42), none⟩,
    ⟨(some 44), .fieldAddr 2 (.tmp 3), (some (43, true))⟩,
    ⟨(some 45), .load false 1 (.tmp 44), (some (43, true))⟩,
    ⟨(some 46), .indexAddr 2 (.tmp 45) (.const (.int .i64 0)), (some (43, true))⟩,
    ⟨(some 47), .fieldAddr 0 (.tmp 46), (some (43, true))⟩,
    ⟨(some 48), .load false 1 (.tmp 47), (some (43, true))⟩,
    ⟨(some 49), .bin .eql (.tmp 48) (.const (.int .i64 3)) (some (.int .i64)), (some (43, true))⟩,
    ⟨(some 50), .pick (.tmp 43) (.tmp 49) (.const (.bool false)), none⟩,
    ⟨(some 51), .mov (.tmp 50), none⟩,
    ⟨(some 52), .mov (.tmp 8), (some (51, true))⟩,
    ⟨(some 53), .bin .eql (.tmp 52) (.const (.int .i64 0)) (some (.int .i64)), (some (51, true))⟩,
    ⟨(some 54), .pick (.tmp 51) (.tmp 53) (.const (.bool false)), none⟩,
    ⟨(some 55), .mov (.tmp 54), none⟩,
    ⟨(some 56), .mov (.tmp 7), (some (55, true))⟩,
    ⟨(some 57), .mov (.tmp 2), (some (55, true))⟩,
    ⟨(some 58), .bin .eql (.tmp 56) (.tmp 57) (some .string), (some (55, true))⟩,
    ⟨(some 59), .pick (.tmp 55) (.tmp 58) (.const (.bool false)), none⟩,
    ⟨(some 60), .mov (.tmp 59), none⟩,
    ⟨(some 61), .mov (.tmp 10), (some (60, true))⟩,
    ⟨(some 62), .bin .eql (.tmp 61) (.const (.int .i64 0)) (some (.int .i64)), (some (60, true))⟩,
    ⟨(some 63), .pick (.tmp 60) (.tmp 62) (.const (.bool false)), none⟩,
    ⟨(some 64), .mov (.tmp 63), none⟩,
    ⟨(some 65), .fieldAddr 0 (.tmp 9), (some (64, true))⟩,
    ⟨(some 66), .load false 1 (.tmp 65), (some (64, true))⟩,
    ⟨(some 67), .len 1 (.tmp 66), (some (64, true))⟩,
    ⟨(some 68), .bin .eql (.tmp 67) (.const (.int .i64 2)) (some (.int .i64)), (some (64, true))⟩,
    ⟨(some 69), .pick (.tmp 64) (.tmp 68) (.const (.bool false)), none⟩,
    ⟨(some 70), .mov (.tmp 69), none⟩,
    ⟨(some 71), .fieldAddr 0 (.tmp 9), (some (70, true))⟩,
    ⟨(some 72), .load false 1 (.tmp 71), (some (70, true))⟩,
    ⟨(some 73), .indexAddr 7 (.tmp 72) (.const (.int .i64 0)), (some (70, true))⟩,
    ⟨(some 74), .fieldAddr 2 (.tmp 73), (some (70, true))⟩,
    ⟨(some 75), .fieldAddr 0 (.tmp 74), (some (70, true))⟩,
    ⟨(some 76), .load false 1 (.tmp 75), (some (70, true))⟩,
    ⟨(some 77), .bin .eql (.tmp 76) (.const (.int .i64 6)) (some (.int .i64)), (some (70, true))⟩,
    ⟨(some 78), .pick (.tmp 70) (.tmp 77) (.const (.bool false)), none⟩,
    ⟨(some 0), .mov (.tmp 78), none⟩])
  .ret)))))))⟩
theorem F6_ok : compF Tryz.prog 6 = some F6 := by kernel_rfl
/-- colonnade/lines.Guess -/
def F7 : FC := ⟨79, [.cell 2 true 2, .tmp 3],
  (.seq (.ops [⟨(some 2), .alloc [(.slice none 0 0), (.slice none 0 0)], none⟩,
    ⟨(some 3), .mov (.const (.int .i64 0)), none⟩])
  (.seq (.seq (.ops [⟨(some 15), .mov (.tmp 0), none⟩,
    ⟨(some 16), .len 0 (.tmp 15), none⟩,
    ⟨(some 17), .bin .gtr (.tmp 16) (.const (.int .i64 65536)) (some (.int .i64)), none⟩])
  (.cond (.tmp 17)
  (.seq (.ops [⟨(some 18), .build [(.slice none 0 0), (.slice none 0 0)] [], none⟩,
    ⟨none, .store 2 (.tmp 2) (.tmp 18), none⟩,
    ⟨(some 3), .mov (.const (.int .i64 4)), none⟩])
  .ret)
  .skip))
  (.seq (.ops [⟨(some 20), .mov (.tmp 0), none⟩,
    ⟨(some 21), .call 12 [(.tmp 20)], none⟩,
    ⟨(some 19), .mov (.tmp 21), none⟩,
    ⟨(some 22), .extract (.tmp 19) 0, none⟩,
    ⟨(some 23), .extract (.tmp 19) 1, none⟩,
    ⟨(some 4), .mov (.tmp 22), none⟩,
    ⟨(some 5), .mov (.tmp 23), none⟩])
  (.seq (.seq (.ops [⟨(some 24), .mov (.tmp 5), none⟩,
    ⟨(some 25), .bin .neq (.tmp 24) (.const (.int .i64 0)) (some (.int .i64)), none⟩])
  (.cond (.tmp 25)
  (.seq (.ops [⟨(some 26), .build [(.slice none 0 0), (.slice none 0 0)] [], none⟩,
    ⟨(some 27), .mov (.tmp 5), none⟩,
    ⟨none, .store 2 (.tmp 2) (.tmp 26), none⟩,
    ⟨(some 3), .mov (.tmp 27), none⟩])
  .ret)
  .skip))
  (.seq (.ops [⟨(some 6), .alloc [(.slice none 0 0), (.slice none 0 0)], none⟩])
  (.seq (.seq (.ops [⟨(some 28), .mov (.tmp 4), none⟩,
    ⟨(some 29), .indexAddr 1 (.tmp 28) (.const (.int .i64 0)), none⟩,
    ⟨(some 30), .load false 1 (.tmp 29), none⟩,
    ⟨(some 31), .len 1 (.tmp 30), none⟩,
    ⟨(some 32), .mov (.const (.int .i64 0)), none⟩])
  (.block 0 (.loop (.seq (.ops [⟨(some 33), .bin .lss (.tmp 32) (.tmp 31) (some (.int .i64)), none⟩])
  (.seq (.cond (.tmp 33)
  .skip
  (.exit 0))
  (.seq (.block 1 (.seq (.ops [⟨(some 34), .mov (.tmp 32), none⟩,
    ⟨(some 35), .indexAddr 2 (.tmp 30) (.tmp 32), none⟩,
    ⟨(some 36), .load true 2 (.tmp 35), none⟩,
    ⟨(some 8), .alloc [(.string ⟨#[]⟩), (.bool false)], none⟩,
    ⟨(some 7), .mov (.tmp 34), none⟩,
    ⟨none, .store 2 (.tmp 8) (.tmp 36), none⟩])
  (.seq (.ops [⟨(some 9), .mov (.const (.slice none 0 0)), none⟩])
  (.seq (.seq (.ops [⟨(some 37), .mov (.tmp 4), none⟩,
    ⟨(some 38), .slice 1 (.tmp 37) (some (.const (.int .i64 1))) none none, none⟩,
    ⟨(some 39), .len 1 (.tmp 38), none⟩,
    ⟨(some 40), .mov (.const (.int .i64 0)), none⟩])
  (.block 2 (.loop (.seq (.ops [⟨(some 41), .bin .lss (.tmp 40) (.tmp 39) (some (.int .i64)), none⟩])
  (.seq (.cond (.tmp 41)
  .skip
  (.exit 2))
  (.seq (.block 3 (.seq (.ops [⟨(some 42), .indexAddr 1 (.tmp 38) (.tmp 40), none⟩,
    ⟨(some 43), .load false 1 (.tmp 42), none⟩,
    ⟨(some 11), .mov (.tmp 43), none⟩])
  (.ops [⟨(some 44), .mov (.tmp 9), none⟩,
    ⟨(some 45), .mov (.tmp 11), none⟩,
    ⟨(some 46), .mov (.tmp 7), none⟩,
    ⟨(some 47), .indexAddr 2 (.tmp 45) (.tmp 46), none⟩,
    ⟨(some 48), .load true 2 (.tmp 47), none⟩,
    ⟨(some 49), .buildSlice 2 1 [(.string ⟨#[]⟩), (.bool false)] [(0, 2, (.tmp 48))], none⟩,
    ⟨(some 50), .append 2 24 (.tmp 44) (.tmp 49), none⟩,
    ⟨(some 9), .mov (.tmp 50), none⟩])))
  (.ops [⟨(some 51), .bin .add (.tmp 40) (.const (.int .i64 1)) (some (.int .i64)), none⟩,
    ⟨(some 40), .mov (.tmp 51), none⟩])))))))
  (.seq (.ops [⟨(some 53), .fieldAddr 0 (.tmp 8), none⟩,
    ⟨(some 54), .load false 1 (.tmp 53), none⟩,
    ⟨(some 55), .mov (.tmp 9), none⟩,
    ⟨(some 56), .call 13 [(.tmp 54), (.tmp 55)], none⟩,
    ⟨(some 52), .mov (.tmp 56), none⟩,
    ⟨(some 57), .extract (.tmp 52) 0, none⟩,
    ⟨(some 58), .extract (.tmp 52) 1, none⟩,
    ⟨(some 12), .alloc [(.string ⟨#[]⟩), (.bool false), (.int .i64 0), (.int .i64 0), (.int .i64 0), (.int .i64 0), (.slice none 0 0)], none⟩,
    ⟨none, .store 7 (.tmp 12) (.tmp 57), none⟩,
    ⟨(some 13), .mov (.tmp 58), none⟩])
  (.seq (.seq (.ops [⟨(some 59), .mov (.tmp 13), none⟩,
    ⟨(some 60), .bin .neq (.tmp 59) (.const (.int .i64 0)) (some (.int .i64)), none⟩])
  (.cond (.tmp 60)
  (.seq (.ops [⟨(some 61), .build [(.slice none 0 0), (.slice none 0 0)] [], none⟩,
    ⟨(some 62), .mov (.tmp 13), none⟩,
    ⟨none, .store 2 (.tmp 2) (.tmp 61), none⟩,
    ⟨(some 3), .mov (.tmp 62), none⟩])
  .ret)
  .skip))
  (.ops [⟨(some 63), .fieldAddr 0 (.tmp 6), none⟩,
    ⟨(some 64), .load false 1 (.tmp 63), none⟩,
    ⟨(some 65), .load true 7 (.tmp 12), none⟩,
    ⟨(some 66), .buildSlice 7 1 [(.string ⟨#[]⟩), (.bool false), (.int .i64 0), (.int .i64 0), (.int .i64 0), (.int .i64 0), (.slice none 0 0)] [(0, 7, (.tmp 65))], none⟩,
    ⟨(some 67), .append 7 80 (.tmp 64) (.tmp 66), none⟩,
    ⟨(some 68), .fieldAddr 0 (.tmp 6), none⟩,
    ⟨none, .store 1 (.tmp 68) (.tmp 67), none⟩])))))))
  (.ops [⟨(some 69), .bin .add (.tmp 32) (.const (.int .i64 1)) (some (.int .i64)), none⟩,
    ⟨(some 32), .mov (.tmp 69), none⟩])))))))
  (.seq (.seq (.ops [⟨(some 70), .load true 2 (.tmp 6), none⟩,
    ⟨(some 71), .call 14 [(.tmp 70)], none⟩,
    ⟨(some 14), .alloc [(.int .i64 0), (.slice none 0 0), (.int .i64 0)], none⟩,
    ⟨none, .store 3 (.tmp 14) (.tmp 71), none⟩])
  (.seq (.ops [⟨(some 72), .fieldAddr 0 (.tmp 14), none⟩,
    ⟨(some 73), .load false 1 (.tmp 72), none⟩,
    ⟨(some 74), .bin .neq (.tmp 73) (.const (.int .i64 0)) (some (.int .i64)), none⟩])
  (.cond (.tmp 74)
  (.seq (.ops [⟨(some 75), .build [(.slice none 0 0), (.slice none 0 0)] [], none⟩,
    ⟨(some 76), .fieldAddr 0 (.tmp 14), none⟩,
    ⟨(some 77), .load false 1 (.tmp 76), none⟩,
    ⟨none, .store 2 (.tmp 2) (.tmp 75), none⟩,
    ⟨none, .again 77 false 1 (.tmp 76), none⟩,
    ⟨(some 3), .mov (.tmp 77), none⟩])
  .ret)
  .skip)))
  (.seq (.ops [⟨(some 78), .load true 2 (.tmp 6), none⟩,
    ⟨none, .store 2 (.tmp 2) (.tmp 78), none⟩,
    ⟨(some 3), .mov (.const (.int .i64 0)), none⟩])
  .ret))))))))⟩
theorem F7_ok : compF Tryz.prog 7 = some F7 := by kernel_rfl
/-- colonnade/lines.Parse -/
def F10 : FC := ⟨56, [.cell 4 true 3, .tmp 5, .tmp 6, .tmp 7],
  (.seq (.ops [⟨(some 2), .box (.tmp 0), none⟩,
    ⟨(some 4), .alloc [(.slice none 0 0), (.slice none 0 0), (.slice none 0 0)], none⟩,
    ⟨(some 5), .mov (.const (.int .i64 0)), none⟩,
    ⟨(some 6), .mov (.const (.int .i64 0)), none⟩,
    ⟨(some 7), .mov (.const (.int .i64 0)), none⟩])
  (.seq (.seq (.ops [⟨(some 10), .load true 2 (.tmp 2), none⟩,
    ⟨(some 11), .call 14 [(.tmp 10)], none⟩,
    ⟨(some 12), .field false 0 1 (.tmp 11), none⟩,
    ⟨(some 13), .bin .neq (.tmp 12) (.const (.int .i64 0)) (some (.int .i64)), none⟩])
  (.cond (.tmp 13)
  (.seq (.ops [⟨(some 14), .build [(.slice none 0 0), (.slice none 0 0), (.slice none 0 0)] [], none⟩,
    ⟨none, .store 3 (.tmp 4) (.tmp 14), none⟩,
    ⟨(some 5), .mov (.const (.int .i64 5)), none⟩,
    ⟨(some 6), .mov (.const (.int .i64 0)), none⟩,
    ⟨(some 7), .mov (.const (.int .i64 0)), none⟩])
  .ret)
  .skip))
  (.seq (.seq (.ops [⟨(some 15), .mov (.tmp 1), none⟩,
    ⟨(some 16), .len 0 (.tmp 15), none⟩,
    ⟨(some 17), .bin .gtr (.tmp 16) (.const (.int .i64 65536)) (some (.int .i64)), none⟩])
  (.cond (.tmp 17)
  (.seq (.ops [⟨(some 18), .build [(.slice none 0 0), (.slice none 0 0), (.slice none 0 0)] [], none⟩,
    ⟨none, .store 3 (.tmp 4) (.tmp 18), none⟩,
    ⟨(some 5), .mov (.const (.int .i64 4)), none⟩,
    ⟨(some 6), .mov (.const (.int .i64 0)), none⟩,
    ⟨(some 7), .mov (.const (.int .i64 0)), none⟩])
  .ret)
  .skip))
  (.seq (.ops [⟨(some 19), .load true 2 (.tmp 2), none⟩,
    ⟨(some 20), .build [(.slice none 0 0), (.slice none 0 0), (.slice none 0 0), (.slice none 0 0), (.int .i64 0)] [(0, 2, (.tmp 19))], none⟩,
    ⟨(some 21), .box (.tmp 20), none⟩,
    ⟨(some 8), .mov (.tmp 21), none⟩])
  (.seq (.ops [⟨(some 22), .mov (.tmp 8), none⟩,
    ⟨(some 23), .call 20 [(.tmp 22)], none⟩])
  (.seq (.ops [⟨(some 24), .mov (.tmp 1), none⟩,
    ⟨(some 25), .build [(.string ⟨#[]⟩), (.bool false)] [(0, 1, (.tmp 24))], none⟩,
    ⟨(some 26), .box (.tmp 25), none⟩,
    ⟨(some 9), .mov (.tmp 26), none⟩])
  (.seq (.block 0 (.loop (.seq (.seq (.ops [⟨(some 27), .mov (.tmp 9), none⟩,
    ⟨(some 28), .nilCheck (.tmp 27), none⟩,
    ⟨(some 29), .fieldAddr 1 (.tmp 28), none⟩,
    ⟨(some 30), .load false 1 (.tmp 29), none⟩,
    ⟨(some 31), .un .not (.tmp 30), none⟩])
  (.cond (.tmp 31)
  .skip
  (.exit 0)))
  (.seq (.block 1 (.seq (.ops [⟨(some 35), .mov (.tmp 8), none⟩,
    ⟨(some 36), .mov (.tmp 9), none⟩,
    ⟨(some 37), .mov (.tmp 6), none⟩,
    ⟨(some 38), .call 21 [(.tmp 35), (.tmp 36), (.tmp 37)], none⟩,
    ⟨(some 34), .mov (.tmp 38), none⟩,
    ⟨(some 39), .extract (.tmp 34) 0, none⟩,
    ⟨(some 40), .extract (.tmp 34) 1, none⟩,
    ⟨(some 5), .mov (.tmp 39), none⟩,
    ⟨(some 7), .mov (.tmp 40), none⟩])
  (.seq (.ops [⟨(some 41), .mov (.tmp 5), none⟩,
    ⟨(some 42), .bin .neq (.tmp 41) (.const (.int .i64 0)) (some (.int .i64)), none⟩])
  (.cond (.tmp 42)
  (.seq (.ops [⟨(some 43), .build [(.slice none 0 0), (.slice none 0 0), (.slice none 0 0)] [], none⟩,
    ⟨(some 44), .mov (.tmp 5), none⟩,
    ⟨(some 45), .mov (.tmp 6), none⟩,
    ⟨(some 46), .mov (.tmp 7), none⟩,
    ⟨none, .store 3 (.tmp 4) (.tmp 43), none⟩,
    ⟨(some 5), .mov (.tmp 44), none⟩,
    ⟨(some 6), .mov (.tmp 45), none⟩,
    ⟨(some 7), .mov (.tmp 46), none⟩])
  .ret)
  .skip))))
  (.ops [⟨(some 32), .mov (.tmp 6), none⟩,
    ⟨(some 33), .bin .add (.tmp 32) (.const (.int .i64 1)) (some (.int .i64)), none⟩,
    ⟨(some 6), .mov (.tmp 33), none⟩])))))
  (.seq (.ops [⟨(some 47), .mov (.tmp 8), none⟩,
    ⟨(some 48), .call 22 [(.tmp 47)], none⟩])
  (.seq (.ops [⟨(some 49), .load true 2 (.tmp 2), none⟩,
    ⟨(some 51), .mov (.tmp 8), none⟩,
    ⟨(some 52), .nilCheck (.tmp 51), none⟩,
    ⟨(some 53), .fieldAddr 2 (.tmp 52), none⟩,
    ⟨(some 54), .load false 1 (.tmp 53), none⟩,
    ⟨(some 50), .call 23 [(.tmp 49)], none⟩,
    ⟨none, .again 54 false 1 (.tmp 53), none⟩,
    ⟨(some 55), .build [(.slice none 0 0), (.slice none 0 0), (.slice none 0 0)] [(0, 2, (.tmp 50)), (2, 1, (.tmp 54))], none⟩,
    ⟨none, .store 3 (.tmp 4) (.tmp 55), none⟩,
    ⟨(some 5), .mov (.const (.int .i64 0)), none⟩,
    ⟨(some 6), .mov (.const (.int .i64 0)), none⟩,
    ⟨(some 7), .mov (.const (.int .i64 0)), none⟩])
  .ret)))))))))⟩
theorem F10_ok : compF Tryz.prog 10 = some F10 := by kernel_rfl
/-- colonnade/lines.Print -/
def F11 : FC := ⟨112, [.tmp 2, .tmp 3],
  (.seq (.ops [⟨(some 1), .box (.tmp 0), none⟩,
    ⟨(some 2), .mov (.const (.string ⟨#[]⟩)), none⟩,
    ⟨(some 3), .mov (.const (.int .i64 0)), none⟩])
  (.seq (.ops [⟨(some 19), .load true 3 (.tmp 1), none⟩,
    ⟨(some 20), .call 24 [(.tmp 19)], none⟩,
    ⟨(some 18), .mov (.tmp 20), none⟩,
    ⟨(some 21), .extract (.tmp 18) 0, none⟩,
    ⟨(some 22), .extract (.tmp 18) 1, none⟩,
    ⟨(some 4), .mov (.tmp 21), none⟩,
    ⟨(some 5), .mov (.tmp 22), none⟩])
  (.seq (.seq (.ops [⟨(some 23), .mov (.tmp 5), none⟩,
    ⟨(some 24), .bin .neq (.tmp 23) (.const (.int .i64 0)) (some (.int .i64)), none⟩])
  (.cond (.tmp 24)
  (.seq (.ops [⟨(some 25), .mov (.tmp 5), none⟩,
    ⟨(some 2), .mov (.const (.string ⟨#[]⟩)), none⟩,
    ⟨(some 3), .mov (.tmp 25), none⟩])
  .ret)
  .skip))
  (.seq (.ops [⟨(some 6), .mov (.const (.slice none 0 0)), none⟩])
  (.seq (.seq (.ops [⟨(some 26), .fieldAddr 0 (.tmp 1), none⟩,
    ⟨(some 27), .fieldAddr 0 (.tmp 26), none⟩,
    ⟨(some 28), .load false 1 (.tmp 27), none⟩,
    ⟨(some 29), .len 1 (.tmp 28), none⟩,
    ⟨(some 30), .mov (.const (.int .i64 0)), none⟩])
  (.block 0 (.loop (.seq (.ops [⟨(some 31), .bin .lss (.tmp 30) (.tmp 29) (some (.int .i64)), none⟩])
  (.seq (.cond (.tmp 31)
  .skip
  (.exit 0))
  (.seq (.block 1 (.seq (.ops [⟨(some 32), .indexAddr 7 (.tmp 28) (.tmp 30), none⟩,
    ⟨(some 33), .load true 7 (.tmp 32), none⟩,
    ⟨(some 8), .alloc [(.string ⟨#[]⟩), (.bool false), (.int .i64 0), (.int .i64 0), (.int .i64 0), (.int .i64 0), (.slice none 0 0)], none⟩,
    ⟨none, .store 7 (.tmp 8) (.tmp 33), none⟩])
  (.ops [⟨(some 34), .mov (.tmp 6), none⟩,
    ⟨(some 35), .fieldAddr 0 (.tmp 8), none⟩,
    ⟨(some 36), .load false 1 (.tmp 35), none⟩,
    ⟨(some 37), .buildSlice 1 1 [(.string ⟨#[]⟩)] [(0, 1, (.tmp 36))], none⟩,
    ⟨(some 38), .append 1 16 (.tmp 34) (.tmp 37), none⟩,
    ⟨(some 6), .mov (.tmp 38), none⟩])))
  (.ops [⟨(some 39), .bin .add (.tmp 30) (.const (.int .i64 1)) (some (.int .i64)), none⟩,
    ⟨(some 30), .mov (.tmp 39), none⟩])))))))
  (.seq (.ops [⟨(some 40), .mov (.tmp 6), none⟩,
    ⟨(some 41), .call 25 [(.tmp 40), (.const (.string ⟨#[44]⟩))], none⟩,
    ⟨(some 42), .bin .add (.tmp 41) (.const (.string ⟨#[10]⟩)) (some .string), none⟩,
    ⟨(some 43), .s2b (.tmp 42), none⟩,
    ⟨(some 9), .mov (.tmp 43), none⟩])
  (.seq (.seq (.ops [⟨(some 44), .mov (.tmp 4), none⟩,
    ⟨(some 45), .len 1 (.tmp 44), none⟩,
    ⟨(some 46), .mov (.const (.int .i64 0)), none⟩])
  (.block 2 (.loop (.seq (.ops [⟨(some 47), .bin .lss (.tmp 46) (.tmp 45) (some (.int .i64)), none⟩])
  (.seq (.cond (.tmp 47)
  .skip
  (.exit 2))
  (.seq (.block 3 (.seq (.ops [⟨(some 48), .mov (.tmp 46), none⟩,
    ⟨(some 49), .indexAddr 1 (.tmp 44) (.tmp 46), none⟩,
    ⟨(some 50), .load false 1 (.tmp 49), none⟩,
    ⟨(some 10), .mov (.tmp 48), none⟩,
    ⟨(some 11), .mov (.tmp 50), none⟩])
  (.seq (.ops [⟨(some 51), .fieldAddr 2 (.tmp 1), none⟩,
    ⟨(some 52), .load false 1 (.tmp 51), none⟩,
    ⟨(some 53), .mov (.tmp 10), none⟩,
    ⟨(some 54), .indexAddr 2 (.tmp 52) (.tmp 53), none⟩,
    ⟨(some 55), .fieldAddr 0 (.tmp 54), none⟩,
    ⟨(some 56), .load false 1 (.tmp 55), none⟩,
    ⟨(some 57), .mov (.const (.int .i64 0)), none⟩])
  (.block 4 (.loop (.seq (.ops [⟨(some 58), .bin .lss (.tmp 57) (.tmp 56) (some (.int .i64)), none⟩])
  (.seq (.cond (.tmp 58)
  .skip
  (.exit 4))
  (.seq (.block 5 (.seq (.ops [⟨(some 59), .mov (.tmp 57), none⟩,
    ⟨(some 12), .mov (.tmp 59), none⟩])
  (.seq (.seq (.ops [⟨(some 60), .mov (.tmp 11), none⟩,
    ⟨(some 61), .len 1 (.tmp 60), none⟩,
    ⟨(some 62), .mov (.const (.int .i64 0)), none⟩])
  (.block 6 (.loop (.seq (.ops [⟨(some 63), .bin .lss (.tmp 62) (.tmp 61) (some (.int .i64)), none⟩])
  (.seq (.cond (.tmp 63)
  .skip
  (.exit 6))
  (.seq (.block 7 (.seq (.ops [⟨(some 64), .mov (.tmp 62), none⟩,
    ⟨(some 65), .indexAddr 1 (.tmp 60) (.tmp 62), none⟩,
    ⟨(some 66), .load false 1 (.tmp 65), none⟩,
    ⟨(some 13), .mov (.tmp 64), none⟩,
    ⟨(some 14), .mov (.tmp 66), none⟩])
  (.seq (.ops [⟨(some 68), .mov (.tmp 14), none⟩,
    ⟨(some 69), .mov (.tmp 12), none⟩,
    ⟨(some 70), .call 26 [(.tmp 68), (.tmp 69)], none⟩,
    ⟨(some 67), .mov (.tmp 70), none⟩,
    ⟨(some 71), .extract (.tmp 67) 0, none⟩,
    ⟨(some 72), .extract (.tmp 67) 1, none⟩,
    ⟨(some 15), .alloc [(.bool false), (.int .i64 0), (.string ⟨#[]⟩), (.slice none 0 0)], none⟩,
    ⟨none, .store 4 (.tmp 15) (.tmp 71), none⟩,
    ⟨(some 16), .mov (.tmp 72), none⟩])
  (.seq (.seq (.ops [⟨(some 73), .mov (.tmp 16), none⟩,
    ⟨(some 74), .bin .neq (.tmp 73) (.const (.int .i64 0)) (some (.int .i64)), none⟩])
  (.cond (.tmp 74)
  (.seq (.ops [⟨(some 75), .mov (.tmp 16), none⟩,
    ⟨(some 2), .mov (.const (.string ⟨#[]⟩)), none⟩,
    ⟨(some 3), .mov (.tmp 75), none⟩])
  .ret)
  .skip))
  (.seq (.ops [⟨(some 77), .fieldAddr 0 (.tmp 1), none⟩,
    ⟨(some 78), .fieldAddr 0 (.tmp 77), none⟩,
    ⟨(some 79), .load false 1 (.tmp 78), none⟩,
    ⟨(some 80), .mov (.tmp 13), none⟩,
    ⟨(some 81), .indexAddr 7 (.tmp 79) (.tmp 80), none⟩,
    ⟨(some 82), .load true 7 (.tmp 81), none⟩,
    ⟨(some 83), .load true 4 (.tmp 15), none⟩,
    ⟨(some 84), .call 27 [(.tmp 82), (.tmp 83)], none⟩,
    ⟨(some 76), .mov (.tmp 84), none⟩,
    ⟨(some 85), .extract (.tmp 76) 0, none⟩,
    ⟨(some 86), .extract (.tmp 76) 1, none⟩,
    ⟨(some 17), .mov (.tmp 85), none⟩,
    ⟨(some 16), .mov (.tmp 86), none⟩])
  (.seq (.seq (.ops [⟨(some 87), .mov (.tmp 16), none⟩,
    ⟨(some 88), .bin .neq (.tmp 87) (.const (.int .i64 0)) (some (.int .i64)), none⟩])
  (.cond (.tmp 88)
  (.seq (.ops [⟨(some 89), .mov (.tmp 16), none⟩,
    ⟨(some 2), .mov (.const (.string ⟨#[]⟩)), none⟩,
    ⟨(some 3), .mov (.tmp 89), none⟩])
  .ret)
  .skip))
  (.seq (.seq (.ops [⟨(some 90), .mov (.tmp 13), none⟩,
    ⟨(some 91), .bin .gtr (.tmp 90) (.const (.int .i64 0)) (some (.int .i64)), none⟩])
  (.cond (.tmp 91)
  (.ops [⟨(some 92), .mov (.tmp 9), none⟩,
    ⟨(some 93), .buildSlice 1 1 [(.int .u8 0)] [(0, 1, (.const (.int .u8 44)))], none⟩,
    ⟨(some 94), .appendB (.tmp 92) (.tmp 93), none⟩,
    ⟨(some 9), .mov (.tmp 94), none⟩])
  .skip))
  (.ops [⟨(some 95), .mov (.tmp 9), none⟩,
    ⟨(some 96), .mov (.tmp 17), none⟩,
    ⟨(some 97), .appendB (.tmp 95) (.tmp 96), none⟩,
    ⟨(some 9), .mov (.tmp 97), none⟩]))))))))
  (.ops [⟨(some 98), .bin .add (.tmp 62) (.const (.int .i64 1)) (some (.int .i64)), none⟩,
    ⟨(some 62), .mov (.tmp 98), none⟩])))))))
  (.seq (.ops [⟨(some 99), .mov (.tmp 9), none⟩,
    ⟨(some 100), .buildSlice 1 1 [(.int .u8 0)] [(0, 1, (.const (.int .u8 10)))], none⟩,
    ⟨(some 101), .appendB (.tmp 99) (.tmp 100), none⟩,
    ⟨(some 9), .mov (.tmp 101), none⟩])
  (.seq (.ops [⟨(some 102), .mov (.tmp 9), none⟩,
    ⟨(some 103), .len 1 (.tmp 102), none⟩,
    ⟨(some 104), .bin .gtr (.tmp 103) (.const (.int .i64 65536)) (some (.int .i64)), none⟩])
  (.cond (.tmp 104)
  (.seq (.ops [⟨(some 2), .mov (.const (.string ⟨#[]⟩)), none⟩,
    ⟨(some 3), .mov (.const (.int .i64 4)), none⟩])
  .ret)
  .skip))))))
  (.ops [⟨(some 105), .bin .add (.tmp 57) (.const (.int .i64 1)) (some (.int .i64)), none⟩,
    ⟨(some 57), .mov (.tmp 105), none⟩])))))))))
  (.ops [⟨(some 106), .bin .add (.tmp 46) (.const (.int .i64 1)) (some (.int .i64)), none⟩,
    ⟨(some 46), .mov (.tmp 106), none⟩])))))))
  (.seq (.seq (.ops [⟨(some 107), .mov (.tmp 9), none⟩,
    ⟨(some 108), .len 1 (.tmp 107), none⟩,
    ⟨(some 109), .bin .gtr (.tmp 108) (.const (.int .i64 65536)) (some (.int .i64)), none⟩])
  (.cond (.tmp 109)
  (.seq (.ops [⟨(some 2), .mov (.const (.string ⟨#[]⟩)), none⟩,
    ⟨(some 3), .mov (.const (.int .i64 4)), none⟩])
  .ret)
  .skip))
  (.seq (.ops [⟨(some 110), .mov (.tmp 9), none⟩,
    ⟨(some 111), .b2s (.tmp 110), none⟩,
    ⟨(some 2), .mov (.tmp 111), none⟩,
    ⟨(some 3), .mov (.const (.int .i64 0)), none⟩])
  .ret)))))))))⟩
theorem F11_ok : compF Tryz.prog 11 = some F11 := by kernel_rfl
/-- colonnade/lines.all -/
def F12 : FC := ⟨43, [.tmp 2, .tmp 3],
  (.seq (.ops [⟨(some 2), .mov (.const (.slice none 0 0)), none⟩,
    ⟨(some 3), .mov (.const (.int .i64 0)), none⟩])
  (.seq (.ops [⟨(some 4), .mov (.const (.slice none 0 0)), none⟩])
  (.seq (.seq (.ops [⟨(some 9), .mov (.tmp 0), none⟩,
    ⟨(some 10), .build [(.string ⟨#[]⟩), (.bool false)] [(0, 1, (.tmp 9))], none⟩,
    ⟨(some 11), .box (.tmp 10), none⟩,
    ⟨(some 5), .mov (.tmp 11), none⟩])
  (.block 0 (.loop (.seq (.seq (.ops [⟨(some 12), .mov (.tmp 5), none⟩,
    ⟨(some 13), .nilCheck (.tmp 12), none⟩,
    ⟨(some 14), .fieldAddr 1 (.tmp 13), none⟩,
    ⟨(some 15), .load false 1 (.tmp 14), none⟩,
    ⟨(some 16), .un .not (.tmp 15), none⟩])
  (.cond (.tmp 16)
  .skip
  (.exit 0)))
  (.block 1 (.seq (.ops [⟨(some 18), .mov (.tmp 5), none⟩,
    ⟨(some 19), .call 28 [(.tmp 18)], none⟩,
    ⟨(some 17), .mov (.tmp 19), none⟩,
    ⟨(some 20), .extract (.tmp 17) 0, none⟩,
    ⟨(some 21), .extract (.tmp 17) 1, none⟩,
    ⟨(some 22), .extract (.tmp 17) 2, none⟩,
    ⟨(some 6), .mov (.tmp 20), none⟩,
    ⟨(some 7), .mov (.tmp 21), none⟩,
    ⟨(some 8), .mov (.tmp 22), none⟩])
  (.seq (.seq (.ops [⟨(some 23), .mov (.tmp 8), none⟩,
    ⟨(some 24), .bin .neq (.tmp 23) (.const (.int .i64 0)) (some (.int .i64)), none⟩])
  (.cond (.tmp 24)
  (.seq (.ops [⟨(some 25), .mov (.tmp 8), none⟩,
    ⟨(some 2), .mov (.const (.slice none 0 0)), none⟩,
    ⟨(some 3), .mov (.tmp 25), none⟩])
  .ret)
  .skip))
  (.seq (.seq (.ops [⟨(some 26), .mov (.tmp 4), none⟩,
    ⟨(some 27), .len 1 (.tmp 26), none⟩,
    ⟨(some 28), .bin .gtr (.tmp 27) (.const (.int .i64 0)) (some (.int .i64)), none⟩,
    ⟨(some 29), .mov (.tmp 28), none⟩,
    ⟨(some 30), .mov (.tmp 6), (some (29, true))⟩,
    ⟨(some 31), .len 1 (.tmp 30), (some (29, true))⟩,
    ⟨(some 32), .mov (.tmp 4), (some (29, true))⟩,
    ⟨(some 33), .indexAddr 1 (.tmp 32) (.const (.int .i64 0)), (some (29, true))⟩,
    ⟨(some 34), .load false 1 (.tmp 33), (some (29, true))⟩,
    ⟨(some 35), .len 1 (.tmp 34), (some (29, true))⟩,
    ⟨(some 36), .bin .neq (.tmp 31) (.tmp 35) (some (.int .i64)), (some (29, true))⟩,
    ⟨(some 37), .pick (.tmp 29) (.tmp 36) (.const (.bool false)), none⟩])
  (.cond (.tmp 37)
  (.seq (.ops [⟨(some 2), .mov (.const (.slice none 0 0)), none⟩,
    ⟨(some 3), .mov (.const (.int .i64 251)), none⟩])
  .ret)
  .skip))
  (.ops [⟨(some 38), .mov (.tmp 4), none⟩,
    ⟨(some 39), .mov (.tmp 6), none⟩,
    ⟨(some 40), .buildSlice 1 1 [(.slice none 0 0)] [(0, 1, (.tmp 39))], none⟩,
    ⟨(some 41), .append 1 24 (.tmp 38) (.tmp 40), none⟩,
    ⟨(some 4), .mov (.tmp 41), none⟩])))))))))
  (.seq (.ops [⟨(some 42), .mov (.tmp 4), none⟩,
    ⟨(some 2), .mov (.tmp 42), none⟩,
    ⟨(some 3), .mov (.const (.int .i64 0)), none⟩])
  .ret))))⟩
theorem F12_ok : compF Tryz.prog 12 = some F12 := by kernel_rfl
/-- colonnade/lines.guessed -/
def F13 : FC := ⟨53, [.cell 4 true 7, .tmp 5],
  (.seq (.ops [⟨(some 4), .alloc [(.string ⟨#[]⟩), (.bool false), (.int .i64 0), (.int .i64 0), (.int .i64 0), (.int .i64 0), (.slice none 0 0)], none⟩,
    ⟨(some 5), .mov (.const (.int .i64 0)), none⟩])
  (.seq (.ops [⟨(some 12), .mov (.tmp 1), none⟩,
    ⟨(some 13), .call 30 [(.tmp 12)], none⟩,
    ⟨(some 14), .call 29 [(.tmp 13), (.func 31)], none⟩,
    ⟨(some 6), .mov (.tmp 14), none⟩])
  (.seq (.ops [⟨(some 15), .mov (.tmp 0), none⟩,
    ⟨(some 16), .mov (.tmp 6), none⟩,
    ⟨(some 17), .len 1 (.tmp 16), none⟩,
    ⟨(some 18), .mov (.tmp 1), none⟩,
    ⟨(some 19), .len 1 (.tmp 18), none⟩,
    ⟨(some 20), .bin .lss (.tmp 17) (.tmp 19) (some (.int .i64)), none⟩,
    ⟨(some 21), .build [(.string ⟨#[]⟩), (.bool false), (.int .i64 0), (.int .i64 0), (.int .i64 0), (.int .i64 0), (.slice none 0 0)] [(0, 1, (.tmp 15)), (1, 1, (.tmp 20))], none⟩,
    ⟨(some 7), .alloc [(.string ⟨#[]⟩), (.bool false), (.int .i64 0), (.int .i64 0), (.int .i64 0), (.int .i64 0), (.slice none 0 0)], none⟩,
    ⟨none, .store 7 (.tmp 7) (.tmp 21), none⟩])
  (.seq (.seq (.ops [⟨(some 22), .mov (.tmp 6), none⟩,
    ⟨(some 23), .len 1 (.tmp 22), none⟩,
    ⟨(some 24), .bin .eql (.tmp 23) (.const (.int .i64 0)) (some (.int .i64)), none⟩])
  (.cond (.tmp 24)
  (.seq (.ops [⟨(some 25), .mov (.tmp 0), none⟩,
    ⟨(some 26), .build [(.int .i64 0), (.int .i64 0), (.int .i64 0), (.int .i64 0), (.slice none 0 0)] [(0, 1, (.const (.int .i64 1)))], none⟩,
    ⟨(some 27), .build [(.string ⟨#[]⟩), (.bool false), (.int .i64 0), (.int .i64 0), (.int .i64 0), (.int .i64 0), (.slice none 0 0)] [(0, 1, (.tmp 25)), (1, 1, (.const (.bool true))), (2, 5, (.tmp 26))], none⟩,
    ⟨none, .store 7 (.tmp 4) (.tmp 27), none⟩,
    ⟨(some 5), .mov (.const (.int .i64 0)), none⟩])
  .ret)
  .skip))
  (.seq (.seq (.ops [⟨(some 28), .buildSlice 1 3 [(.int .i64 0), (.int .i64 0), (.int .i64 0)] [(0, 1, (.const (.int .i64 2))), (1, 1, (.const (.int .i64 6))), (2, 1, (.const (.int .i64 11)))], none⟩,
    ⟨(some 29), .len 1 (.tmp 28), none⟩,
    ⟨(some 30), .mov (.const (.int .i64 0)), none⟩])
  (.block 0 (.loop (.seq (.ops [⟨(some 31), .bin .lss (.tmp 30) (.tmp 29) (some (.int .i64)), none⟩])
  (.seq (.cond (.tmp 31)
  .skip
  (.exit 0))
  (.seq (.block 1 (.seq (.ops [⟨(some 32), .indexAddr 1 (.tmp 28) (.tmp 30), none⟩,
    ⟨(some 33), .load false 1 (.tmp 32), none⟩,
    ⟨(some 9), .mov (.tmp 33), none⟩])
  (.seq (.ops [⟨(some 34), .mov (.tmp 9), none⟩,
    ⟨(some 35), .build [(.int .i64 0), (.int .i64 0), (.int .i64 0), (.int .i64 0), (.slice none 0 0)] [(0, 1, (.tmp 34))], none⟩,
    ⟨(some 36), .build [(.string ⟨#[]⟩), (.bool false), (.int .i64 0), (.int .i64 0), (.int .i64 0), (.int .i64 0), (.slice none 0 0)] [(0, 1, (.const (.string ⟨#[97]⟩))), (2, 5, (.tmp 35))], none⟩,
    ⟨(some 10), .alloc [(.string ⟨#[]⟩), (.bool false), (.int .i64 0), (.int .i64 0), (.int .i64 0), (.int .i64 0), (.slice none 0 0)], none⟩,
    ⟨none, .store 7 (.tmp 10) (.tmp 36), none⟩])
  (.seq (.ops [⟨(some 37), .mkFunc (.func 32) [] [(.tmp 10)], none⟩,
    ⟨(some 11), .mov (.tmp 37), none⟩])
  (.seq (.ops [⟨(some 38), .mov (.tmp 6), none⟩,
    ⟨(some 39), .mov (.tmp 11), none⟩,
    ⟨(some 40), .call 34 [(.tmp 38), (.tmp 39)], none⟩,
    ⟨(some 41), .un .not (.tmp 40), none⟩])
  (.cond (.tmp 41)
  (.seq (.ops [⟨(some 42), .mov (.tmp 9), none⟩,
    ⟨(some 43), .fieldAddr 2 (.tmp 7), none⟩,
    ⟨(some 44), .fieldAddr 0 (.tmp 43), none⟩,
    ⟨none, .store 1 (.tmp 44) (.tmp 42), none⟩])
  (.seq (.ops [⟨(some 45), .load true 7 (.tmp 7), none⟩,
    ⟨none, .store 7 (.tmp 4) (.tmp 45), none⟩,
    ⟨(some 5), .mov (.const (.int .i64 0)), none⟩])
  .ret))
  .skip))))))
  (.ops [⟨(some 46), .bin .add (.tmp 30) (.const (.int .i64 1)) (some (.int .i64)), none⟩,
    ⟨(some 30), .mov (.tmp 46), none⟩])))))))
  (.seq (.seq (.ops [⟨(some 47), .mov (.tmp 6), none⟩,
    ⟨(some 48), .call 34 [(.tmp 47), (.func 35)], none⟩])
  (.cond (.tmp 48)
  (.seq (.ops [⟨(some 49), .build [(.string ⟨#[]⟩), (.bool false), (.int .i64 0), (.int .i64 0), (.int .i64 0), (.int .i64 0), (.slice none 0 0)] [], none⟩,
    ⟨none, .store 7 (.tmp 4) (.tmp 49), none⟩,
    ⟨(some 5), .mov (.const (.int .i64 84)), none⟩])
  .ret)
  .skip))
  (.seq (.ops [⟨(some 50), .fieldAddr 2 (.tmp 7), none⟩,
    ⟨(some 51), .fieldAddr 0 (.tmp 50), none⟩,
    ⟨none, .store 1 (.tmp 51) (.const (.int .i64 12)), none⟩])
  (.seq (.ops [⟨(some 52), .load true 7 (.tmp 7), none⟩,
    ⟨none, .store 7 (.tmp 4) (.tmp 52), none⟩,
    ⟨(some 5), .mov (.const (.int .i64 0)), none⟩])
  .ret))))))))⟩
theorem F13_ok : compF Tryz.prog 13 = some F13 := by kernel_rfl
/-- colonnade/kind.Check -/
def F14 : FC := ⟨71, [.cell 2 true 3],
  (.seq (.ops [⟨(some 1), .box (.tmp 0), none⟩,
    ⟨(some 2), .alloc [(.int .i64 0), (.slice none 0 0), (.int .i64 0)], none⟩])
  (.seq (.block 0 (.seq (.ops [⟨(some 10), .fieldAddr 0 (.tmp 1), none⟩,
    ⟨(some 11), .load false 1 (.tmp 10), none⟩,
    ⟨(some 12), .len 1 (.tmp 11), none⟩,
    ⟨(some 13), .bin .gtr (.tmp 12) (.const (.int .i64 32)) (some (.int .i64)), none⟩,
    ⟨(some 9), .mov (.tmp 13), none⟩])
  (.cond (.tmp 9)
  (.seq (.ops [⟨(some 14), .build [(.int .i64 0), (.slice none 0 0), (.int .i64 0)] [(0, 1, (.const (.int .i64 34))), (2, 1, (.const (.int .i64 32)))], none⟩,
    ⟨none, .store 3 (.tmp 2) (.tmp 14), none⟩])
  .ret)
  (.seq (.ops [⟨(some 16), .fieldAddr 1 (.tmp 1), none⟩,
    ⟨(some 17), .load false 1 (.tmp 16), none⟩,
    ⟨(some 18), .len 1 (.tmp 17), none⟩,
    ⟨(some 19), .bin .gtr (.tmp 18) (.const (.int .i64 16)) (some (.int .i64)), none⟩,
    ⟨(some 15), .mov (.tmp 19), none⟩])
  (.cond (.tmp 15)
  (.seq (.ops [⟨(some 20), .build [(.int .i64 0), (.slice none 0 0), (.int .i64 0)] [(0, 1, (.const (.int .i64 34))), (2, 1, (.const (.int .i64 16)))], none⟩,
    ⟨none, .store 3 (.tmp 2) (.tmp 20), none⟩])
  .ret)
  .skip)))))
  (.seq (.seq (.ops [⟨(some 21), .fieldAddr 1 (.tmp 1), none⟩,
    ⟨(some 22), .load false 1 (.tmp 21), none⟩,
    ⟨(some 23), .len 1 (.tmp 22), none⟩,
    ⟨(some 24), .mov (.const (.int .i64 0)), none⟩])
  (.block 1 (.loop (.seq (.ops [⟨(some 25), .bin .lss (.tmp 24) (.tmp 23) (some (.int .i64)), none⟩])
  (.seq (.cond (.tmp 25)
  .skip
  (.exit 1))
  (.seq (.block 2 (.seq (.ops [⟨(some 26), .mov (.tmp 24), none⟩,
    ⟨(some 27), .indexAddr 2 (.tmp 22) (.tmp 24), none⟩,
    ⟨(some 28), .load true 2 (.tmp 27), none⟩,
    ⟨(some 4), .alloc [(.string ⟨#[]⟩), (.string ⟨#[]⟩)], none⟩,
    ⟨(some 3), .mov (.tmp 26), none⟩,
    ⟨none, .store 2 (.tmp 4) (.tmp 28), none⟩])
  (.seq (.ops [⟨(some 29), .fieldAddr 0 (.tmp 4), none⟩,
    ⟨(some 30), .load false 1 (.tmp 29), none⟩,
    ⟨(some 31), .len 0 (.tmp 30), none⟩,
    ⟨(some 32), .bin .gtr (.tmp 31) (.const (.int .i64 256)) (some (.int .i64)), none⟩,
    ⟨(some 33), .mov (.tmp 32), none⟩,
    ⟨(some 34), .fieldAddr 1 (.tmp 4), (some (33, false))⟩,
    ⟨(some 35), .load false 1 (.tmp 34), (some (33, false))⟩,
    ⟨(some 36), .len 0 (.tmp 35), (some (33, false))⟩,
    ⟨(some 37), .bin .gtr (.tmp 36) (.const (.int .i64 256)) (some (.int .i64)), (some (33, false))⟩,
    ⟨(some 38), .pick (.tmp 33) (.const (.bool true)) (.tmp 37), none⟩])
  (.cond (.tmp 38)
  (.seq (.ops [⟨(some 39), .mov (.tmp 3), none⟩,
    ⟨(some 40), .build [(.int .i64 0), (.slice none 0 0), (.int .i64 0)] [(0, 1, (.const (.int .i64 37))), (2, 1, (.tmp 39))], none⟩,
    ⟨none, .store 3 (.tmp 2) (.tmp 40), none⟩])
  .ret)
  .skip))))
  (.ops [⟨(some 41), .bin .add (.tmp 24) (.const (.int .i64 1)) (some (.int .i64)), none⟩,
    ⟨(some 24), .mov (.tmp 41), none⟩])))))))
  (.seq (.ops [⟨(some 5), .alloc [(.int .i64 0)], none⟩,
    ⟨none, .store 1 (.tmp 5) (.const (.int .i64 0)), none⟩])
  (.seq (.ops [⟨(some 42), .mkMap, none⟩,
    ⟨(some 6), .alloc [(.map none)], none⟩,
    ⟨none, .store 1 (.tmp 6) (.tmp 42), none⟩])
  (.seq (.seq (.ops [⟨(some 43), .fieldAddr 0 (.tmp 1), none⟩,
    ⟨(some 44), .load false 1 (.tmp 43), none⟩,
    ⟨(some 45), .call 37 [(.tmp 44), (.const (.int .i64 65))], none⟩])
  (.block 3 (.rf (.tmp 45) [46]
  (.ops [⟨(some 7), .alloc [(.slice none 0 0), (.slice none 0 0), (.string ⟨#[]⟩), (.bool false), (.int .i64 0), (.int .i64 0), (.int .i64 0), (.int .i64 0), (.slice none 0 0), (.bool false)], none⟩,
    ⟨none, .store 10 (.tmp 7) (.tmp 46), none⟩])
  (.block 4 (.seq (.seq (.ops [⟨(some 47), .load true 10 (.tmp 7), none⟩,
    ⟨(some 48), .load false 1 (.tmp 5), none⟩,
    ⟨(some 49), .load false 1 (.tmp 6), none⟩,
    ⟨(some 50), .call 38 [(.tmp 47), (.tmp 48), (.tmp 49)], none⟩,
    ⟨(some 8), .mov (.tmp 50), none⟩])
  (.seq (.ops [⟨(some 51), .mov (.tmp 8), none⟩,
    ⟨(some 52), .bin .neq (.tmp 51) (.const (.int .i64 0)) (some (.int .i64)), none⟩])
  (.cond (.tmp 52)
  (.seq (.ops [⟨(some 53), .mov (.tmp 8), none⟩,
    ⟨(some 54), .fieldAddr 0 (.tmp 7), none⟩,
    ⟨(some 55), .load false 1 (.tmp 54), none⟩,
    ⟨(some 56), .build [(.int .i64 0), (.slice none 0 0), (.int .i64 0)] [(0, 1, (.tmp 53)), (1, 1, (.tmp 55))], none⟩,
    ⟨none, .store 3 (.tmp 2) (.tmp 56), none⟩])
  .ret)
  .skip)))
  (.seq (.ops [⟨(some 57), .load false 1 (.tmp 5), none⟩,
    ⟨(some 58), .bin .add (.tmp 57) (.const (.int .i64 1)) (some (.int .i64)), none⟩,
    ⟨none, .store 1 (.tmp 5) (.tmp 58), none⟩])
  (.seq (.ops [⟨(some 59), .fieldAddr 2 (.tmp 7), none⟩,
    ⟨(some 60), .fieldAddr 2 (.tmp 59), none⟩,
    ⟨(some 61), .fieldAddr 0 (.tmp 60), none⟩,
    ⟨(some 62), .load false 1 (.tmp 61), none⟩,
    ⟨(some 63), .bin .eql (.tmp 62) (.const (.int .i64 19)) (some (.int .i64)), none⟩])
  (.cond (.tmp 63)
  (.ops [⟨(some 64), .load false 1 (.tmp 6), none⟩,
    ⟨(some 65), .fieldAddr 2 (.tmp 7), none⟩,
    ⟨(some 66), .fieldAddr 2 (.tmp 65), none⟩,
    ⟨(some 67), .fieldAddr 2 (.tmp 66), none⟩,
    ⟨(some 68), .load false 1 (.tmp 67), none⟩,
    ⟨(some 69), .load false 1 (.tmp 5), none⟩,
    ⟨none, .mapSet 0 (.tmp 64) (.tmp 68) (.tmp 69), none⟩])
  .skip))))))))
  (.seq (.ops [⟨(some 70), .build [(.int .i64 0), (.slice none 0 0), (.int .i64 0)] [], none⟩,
    ⟨none, .store 3 (.tmp 2) (.tmp 70), none⟩])
  .ret)))))))⟩
theorem F14_ok : compF Tryz.prog 14 = some F14 := by kernel_rfl
/-- (*colonnade/lines.table).begin -/
def F20 : FC := ⟨38, [],
  (.seq (.ops [⟨(some 6), .mov (.tmp 0), none⟩,
    ⟨(some 7), .mov (.tmp 0), none⟩,
    ⟨(some 8), .nilCheck (.tmp 6), none⟩,
    ⟨(some 9), .fieldAddr 3 (.tmp 8), none⟩,
    ⟨none, .store 1 (.tmp 9) (.const (.slice none 0 0)), none⟩,
    ⟨(some 10), .nilCheck (.tmp 7), none⟩,
    ⟨(some 11), .fieldAddr 4 (.tmp 10), none⟩,
    ⟨none, .store 1 (.tmp 11) (.const (.int .i64 0)), none⟩])
  (.seq (.ops [⟨(some 12), .mov (.tmp 0), none⟩,
    ⟨(some 13), .nilCheck (.tmp 12), none⟩,
    ⟨(some 14), .fieldAddr 0 (.tmp 13), none⟩,
    ⟨(some 15), .fieldAddr 0 (.tmp 14), none⟩,
    ⟨(some 16), .load false 1 (.tmp 15), none⟩,
    ⟨(some 17), .len 1 (.tmp 16), none⟩,
    ⟨(some 18), .mov (.const (.int .i64 0)), none⟩])
  (.block 0 (.loop (.seq (.ops [⟨(some 19), .bin .lss (.tmp 18) (.tmp 17) (some (.int .i64)), none⟩])
  (.seq (.cond (.tmp 19)
  .skip
  (.exit 0))
  (.seq (.block 1 (.seq (.ops [⟨(some 20), .indexAddr 7 (.tmp 16) (.tmp 18), none⟩,
    ⟨(some 21), .load true 7 (.tmp 20), none⟩,
    ⟨(some 3), .alloc [(.string ⟨#[]⟩), (.bool false), (.int .i64 0), (.int .i64 0), (.int .i64 0), (.int .i64 0), (.slice none 0 0)], none⟩,
    ⟨none, .store 7 (.tmp 3) (.tmp 21), none⟩])
  (.seq (.ops [⟨(some 23), .load true 7 (.tmp 3), none⟩,
    ⟨(some 24), .call 47 [(.tmp 23)], none⟩,
    ⟨(some 22), .mov (.tmp 24), none⟩,
    ⟨(some 25), .extract (.tmp 22) 0, none⟩,
    ⟨(some 26), .extract (.tmp 22) 1, none⟩,
    ⟨(some 4), .mov (.tmp 25), none⟩,
    ⟨(some 5), .mov (.tmp 26), none⟩])
  (.ops [⟨(some 27), .mov (.tmp 0), none⟩,
    ⟨(some 28), .mov (.tmp 0), none⟩,
    ⟨(some 29), .nilCheck (.tmp 28), none⟩,
    ⟨(some 30), .fieldAddr 3 (.tmp 29), none⟩,
    ⟨(some 31), .load false 1 (.tmp 30), none⟩,
    ⟨(some 32), .mov (.tmp 4), none⟩,
    ⟨(some 33), .buildSlice 1 1 [(.pointer none)] [(0, 1, (.tmp 32))], none⟩,
    ⟨(some 34), .append 1 8 (.tmp 31) (.tmp 33), none⟩,
    ⟨(some 35), .nilCheck (.tmp 27), none⟩,
    ⟨(some 36), .fieldAddr 3 (.tmp 35), none⟩,
    ⟨none, .store 1 (.tmp 36) (.tmp 34), none⟩]))))
  (.ops [⟨(some 37), .bin .add (.tmp 18) (.const (.int .i64 1)) (some (.int .i64)), none⟩,
    ⟨(some 18), .mov (.tmp 37), none⟩]))))))))⟩
theorem F20_ok : compF Tryz.prog 20 = some F20 := by kernel_rfl
/-- (*colonnade/lines.table).one -/
def F21 : FC := ⟨54, [.tmp 6, .tmp 7],
  (.seq (.ops [⟨(some 6), .mov (.const (.int .i64 0)), none⟩,
    ⟨(some 7), .mov (.const (.int .i64 0)), none⟩])
  (.seq (.seq (.ops [⟨(some 11), .mov (.tmp 0), none⟩,
    ⟨(some 12), .nilCheck (.tmp 11), none⟩,
    ⟨(some 13), .fieldAddr 0 (.tmp 12), none⟩,
    ⟨(some 14), .fieldAddr 0 (.tmp 13), none⟩,
    ⟨(some 15), .load false 1 (.tmp 14), none⟩,
    ⟨(some 16), .len 1 (.tmp 15), none⟩,
    ⟨(some 17), .bin .eql (.tmp 16) (.const (.int .i64 0)) (some (.int .i64)), none⟩])
  (.cond (.tmp 17)
  (.seq (.seq (.ops [⟨(some 18), .mov (.tmp 1), none⟩,
    ⟨(some 19), .call 48 [(.tmp 18)], none⟩])
  (.cond (.tmp 19)
  (.seq (.ops [⟨(some 20), .mov (.tmp 0), none⟩,
    ⟨(some 21), .mov (.tmp 2), none⟩,
    ⟨(some 22), .call 49 [(.tmp 20), (.tmp 21)], none⟩,
    ⟨(some 23), .extract (.tmp 22) 0, none⟩,
    ⟨(some 24), .extract (.tmp 22) 1, none⟩,
    ⟨(some 6), .mov (.tmp 23), none⟩,
    ⟨(some 7), .mov (.tmp 24), none⟩])
  .ret)
  .skip))
  (.seq (.seq (.ops [⟨(some 25), .mov (.tmp 2), none⟩,
    ⟨(some 26), .bin .eql (.tmp 25) (.const (.int .i64 0)) (some (.int .i64)), none⟩])
  (.cond (.tmp 26)
  (.seq (.ops [⟨(some 6), .mov (.const (.int .i64 253)), none⟩,
    ⟨(some 7), .mov (.const (.int .i64 0)), none⟩])
  .ret)
  .skip))
  (.seq (.ops [⟨(some 6), .mov (.const (.int .i64 251)), none⟩,
    ⟨(some 7), .mov (.const (.int .i64 0)), none⟩])
  .ret)))
  .skip))
  (.seq (.ops [⟨(some 28), .mov (.tmp 1), none⟩,
    ⟨(some 29), .call 28 [(.tmp 28)], none⟩,
    ⟨(some 27), .mov (.tmp 29), none⟩,
    ⟨(some 30), .extract (.tmp 27) 0, none⟩,
    ⟨(some 31), .extract (.tmp 27) 1, none⟩,
    ⟨(some 32), .extract (.tmp 27) 2, none⟩,
    ⟨(some 8), .mov (.tmp 30), none⟩,
    ⟨(some 9), .mov (.tmp 31), none⟩,
    ⟨(some 10), .mov (.tmp 32), none⟩])
  (.seq (.block 0 (.seq (.ops [⟨(some 34), .mov (.tmp 10), none⟩,
    ⟨(some 35), .bin .neq (.tmp 34) (.const (.int .i64 0)) (some (.int .i64)), none⟩,
    ⟨(some 33), .mov (.tmp 35), none⟩])
  (.cond (.tmp 33)
  (.seq (.ops [⟨(some 36), .mov (.tmp 10), none⟩,
    ⟨(some 37), .mov (.tmp 9), none⟩,
    ⟨(some 6), .mov (.tmp 36), none⟩,
    ⟨(some 7), .mov (.tmp 37), none⟩])
  .ret)
  (.seq (.ops [⟨(some 39), .mov (.tmp 2), none⟩,
    ⟨(some 40), .bin .eql (.tmp 39) (.const (.int .i64 0)) (some (.int .i64)), none⟩,
    ⟨(some 38), .mov (.tmp 40), none⟩])
  (.cond (.tmp 38)
  (.seq (.ops [⟨(some 41), .mov (.tmp 0), none⟩,
    ⟨(some 42), .nilCheck (.tmp 41), none⟩,
    ⟨(some 43), .fieldAddr 0 (.tmp 42), none⟩,
    ⟨(some 44), .load true 2 (.tmp 43), none⟩,
    ⟨(some 45), .mov (.tmp 8), none⟩,
    ⟨(some 46), .call 50 [(.tmp 44), (.tmp 45)], none⟩,
    ⟨(some 47), .extract (.tmp 46) 0, none⟩,
    ⟨(some 48), .extract (.tmp 46) 1, none⟩,
    ⟨(some 6), .mov (.tmp 47), none⟩,
    ⟨(some 7), .mov (.tmp 48), none⟩])
  .ret)
  .skip)))))
  (.seq (.ops [⟨(some 49), .mov (.tmp 0), none⟩,
    ⟨(some 50), .mov (.tmp 8), none⟩,
    ⟨(some 51), .call 51 [(.tmp 49), (.tmp 50)], none⟩,
    ⟨(some 52), .extract (.tmp 51) 0, none⟩,
    ⟨(some 53), .extract (.tmp 51) 1, none⟩,
    ⟨(some 6), .mov (.tmp 52), none⟩,
    ⟨(some 7), .mov (.tmp 53), none⟩])
  .ret)))))⟩
theorem F21_ok : compF Tryz.prog 21 = some F21 := by kernel_rfl
/-- (*colonnade/lines.table).end -/
def F22 : FC := ⟨50, [],
  (.seq (.seq (.ops [⟨(some 7), .mov (.tmp 0), none⟩,
    ⟨(some 8), .nilCheck (.tmp 7), none⟩,
    ⟨(some 9), .fieldAddr 4 (.tmp 8), none⟩,
    ⟨(some 10), .load false 1 (.tmp 9), none⟩,
    ⟨(some 11), .bin .eql (.tmp 10) (.const (.int .i64 0)) (some (.int .i64)), none⟩])
  (.cond (.tmp 11)
  .ret
  .skip))
  (.seq (.ops [⟨(some 12), .mov (.tmp 0), none⟩,
    ⟨(some 13), .nilCheck (.tmp 12), none⟩,
    ⟨(some 14), .fieldAddr 4 (.tmp 13), none⟩,
    ⟨(some 15), .load false 1 (.tmp 14), none⟩,
    ⟨(some 16), .build [(.int .i64 0), (.slice none 0 0)] [(0, 1, (.tmp 15))], none⟩,
    ⟨(some 2), .alloc [(.int .i64 0), (.slice none 0 0)], none⟩,
    ⟨none, .store 2 (.tmp 2) (.tmp 16), none⟩])
  (.seq (.seq (.ops [⟨(some 17), .mov (.tmp 0), none⟩,
    ⟨(some 18), .nilCheck (.tmp 17), none⟩,
    ⟨(some 19), .fieldAddr 3 (.tmp 18), none⟩,
    ⟨(some 20), .load false 1 (.tmp 19), none⟩,
    ⟨(some 21), .len 1 (.tmp 20), none⟩,
    ⟨(some 22), .mov (.const (.int .i64 0)), none⟩])
  (.block 0 (.loop (.seq (.ops [⟨(some 23), .bin .lss (.tmp 22) (.tmp 21) (some (.int .i64)), none⟩])
  (.seq (.cond (.tmp 23)
  .skip
  (.exit 0))
  (.seq (.block 1 (.seq (.ops [⟨(some 24), .indexAddr 1 (.tmp 20) (.tmp 22), none⟩,
    ⟨(some 25), .load false 1 (.tmp 24), none⟩,
    ⟨(some 4), .mov (.tmp 25), none⟩])
  (.seq (.ops [⟨(some 27), .mov (.tmp 4), none⟩,
    ⟨(some 28), .call 52 [(.tmp 27)], none⟩,
    ⟨(some 26), .mov (.tmp 28), none⟩,
    ⟨(some 29), .extract (.tmp 26) 0, none⟩,
    ⟨(some 30), .extract (.tmp 26) 1, none⟩,
    ⟨(some 5), .alloc [(.int .i64 0), (.int .i64 0), (.int .i64 0), (.slice none 0 0), (.slice none 0 0), (.slice none 0 0)], none⟩,
    ⟨none, .store 6 (.tmp 5) (.tmp 29), none⟩,
    ⟨(some 6), .mov (.tmp 30), none⟩])
  (.ops [⟨(some 31), .fieldAddr 1 (.tmp 2), none⟩,
    ⟨(some 32), .load false 1 (.tmp 31), none⟩,
    ⟨(some 33), .load true 6 (.tmp 5), none⟩,
    ⟨(some 34), .buildSlice 6 1 [(.int .i64 0), (.int .i64 0), (.int .i64 0), (.slice none 0 0), (.slice none 0 0), (.slice none 0 0)] [(0, 6, (.tmp 33))], none⟩,
    ⟨(some 35), .append 6 96 (.tmp 32) (.tmp 34), none⟩,
    ⟨(some 36), .fieldAddr 1 (.tmp 2), none⟩,
    ⟨none, .store 1 (.tmp 36) (.tmp 35), none⟩]))))
  (.ops [⟨(some 37), .bin .add (.tmp 22) (.const (.int .i64 1)) (some (.int .i64)), none⟩,
    ⟨(some 22), .mov (.tmp 37), none⟩])))))))
  (.seq (.ops [⟨(some 38), .mov (.tmp 0), none⟩,
    ⟨(some 39), .mov (.tmp 0), none⟩,
    ⟨(some 40), .nilCheck (.tmp 39), none⟩,
    ⟨(some 41), .fieldAddr 2 (.tmp 40), none⟩,
    ⟨(some 42), .load false 1 (.tmp 41), none⟩,
    ⟨(some 43), .load true 2 (.tmp 2), none⟩,
    ⟨(some 44), .buildSlice 2 1 [(.int .i64 0), (.slice none 0 0)] [(0, 2, (.tmp 43))], none⟩,
    ⟨none, .again 42 false 1 (.tmp 41), none⟩,
    ⟨(some 45), .append 2 32 (.tmp 42) (.tmp 44), none⟩,
    ⟨(some 46), .nilCheck (.tmp 38), none⟩,
    ⟨(some 47), .fieldAddr 2 (.tmp 46), none⟩,
    ⟨none, .store 1 (.tmp 47) (.tmp 45), none⟩])
  (.ops [⟨(some 48), .mov (.tmp 0), none⟩,
    ⟨(some 49), .call 20 [(.tmp 48)], none⟩])))))⟩
theorem F22_ok : compF Tryz.prog 22 = some F22 := by kernel_rfl
/-- colonnade/lines.copied -/
def F23 : FC := ⟨10, [.cell 2 true 2],
  (.seq (.ops [⟨(some 1), .box (.tmp 0), none⟩,
    ⟨(some 2), .alloc [(.slice none 0 0), (.slice none 0 0)], none⟩])
  (.seq (.ops [⟨(some 3), .fieldAddr 0 (.tmp 1), none⟩,
    ⟨(some 4), .load false 1 (.tmp 3), none⟩,
    ⟨(some 6), .fieldAddr 1 (.tmp 1), none⟩,
    ⟨(some 7), .load false 1 (.tmp 6), none⟩,
    ⟨(some 5), .call 53 [(.tmp 4)], none⟩,
    ⟨none, .again 7 false 1 (.tmp 6), none⟩,
    ⟨(some 8), .call 54 [(.tmp 7)], none⟩,
    ⟨(some 9), .build [(.slice none 0 0), (.slice none 0 0)] [(0, 1, (.tmp 5)), (1, 1, (.tmp 8))], none⟩,
    ⟨none, .store 2 (.tmp 2) (.tmp 9), none⟩])
  .ret))⟩
theorem F23_ok : compF Tryz.prog 23 = some F23 := by kernel_rfl
/-- colonnade/lines.looked -/
def F24 : FC := ⟨41, [.tmp 2, .tmp 3],
  (.seq (.ops [⟨(some 1), .box (.tmp 0), none⟩,
    ⟨(some 2), .mov (.const (.slice none 0 0)), none⟩,
    ⟨(some 3), .mov (.const (.int .i64 0)), none⟩])
  (.seq (.seq (.ops [⟨(some 9), .fieldAddr 0 (.tmp 1), none⟩,
    ⟨(some 10), .load true 2 (.tmp 9), none⟩,
    ⟨(some 11), .call 14 [(.tmp 10)], none⟩,
    ⟨(some 12), .field false 0 1 (.tmp 11), none⟩,
    ⟨(some 13), .bin .neq (.tmp 12) (.const (.int .i64 0)) (some (.int .i64)), none⟩])
  (.cond (.tmp 13)
  (.seq (.ops [⟨(some 2), .mov (.const (.slice none 0 0)), none⟩,
    ⟨(some 3), .mov (.const (.int .i64 5)), none⟩])
  .ret)
  .skip))
  (.seq (.seq (.ops [⟨(some 14), .fieldAddr 2 (.tmp 1), none⟩,
    ⟨(some 15), .load false 1 (.tmp 14), none⟩,
    ⟨(some 16), .len 1 (.tmp 15), none⟩,
    ⟨(some 17), .bin .gtr (.tmp 16) (.const (.int .i64 256)) (some (.int .i64)), none⟩])
  (.cond (.tmp 17)
  (.seq (.ops [⟨(some 2), .mov (.const (.slice none 0 0)), none⟩,
    ⟨(some 3), .mov (.const (.int .i64 2)), none⟩])
  .ret)
  .skip))
  (.seq (.ops [⟨(some 4), .mov (.const (.slice none 0 0)), none⟩])
  (.seq (.seq (.ops [⟨(some 18), .fieldAddr 2 (.tmp 1), none⟩,
    ⟨(some 19), .load false 1 (.tmp 18), none⟩,
    ⟨(some 20), .len 1 (.tmp 19), none⟩,
    ⟨(some 21), .mov (.const (.int .i64 0)), none⟩])
  (.block 0 (.loop (.seq (.ops [⟨(some 22), .bin .lss (.tmp 21) (.tmp 20) (some (.int .i64)), none⟩])
  (.seq (.cond (.tmp 22)
  .skip
  (.exit 0))
  (.seq (.block 1 (.seq (.ops [⟨(some 23), .indexAddr 2 (.tmp 19) (.tmp 21), none⟩,
    ⟨(some 24), .load true 2 (.tmp 23), none⟩,
    ⟨(some 6), .alloc [(.int .i64 0), (.slice none 0 0)], none⟩,
    ⟨none, .store 2 (.tmp 6) (.tmp 24), none⟩])
  (.seq (.ops [⟨(some 26), .fieldAddr 0 (.tmp 1), none⟩,
    ⟨(some 27), .load true 2 (.tmp 26), none⟩,
    ⟨(some 28), .load true 2 (.tmp 6), none⟩,
    ⟨(some 29), .call 55 [(.tmp 27), (.tmp 28)], none⟩,
    ⟨(some 25), .mov (.tmp 29), none⟩,
    ⟨(some 30), .extract (.tmp 25) 0, none⟩,
    ⟨(some 31), .extract (.tmp 25) 1, none⟩,
    ⟨(some 7), .mov (.tmp 30), none⟩,
    ⟨(some 8), .mov (.tmp 31), none⟩])
  (.seq (.seq (.ops [⟨(some 32), .mov (.tmp 8), none⟩,
    ⟨(some 33), .bin .neq (.tmp 32) (.const (.int .i64 0)) (some (.int .i64)), none⟩])
  (.cond (.tmp 33)
  (.seq (.ops [⟨(some 34), .mov (.tmp 8), none⟩,
    ⟨(some 2), .mov (.const (.slice none 0 0)), none⟩,
    ⟨(some 3), .mov (.tmp 34), none⟩])
  .ret)
  .skip))
  (.ops [⟨(some 35), .mov (.tmp 4), none⟩,
    ⟨(some 36), .mov (.tmp 7), none⟩,
    ⟨(some 37), .buildSlice 1 1 [(.slice none 0 0)] [(0, 1, (.tmp 36))], none⟩,
    ⟨(some 38), .append 1 24 (.tmp 35) (.tmp 37), none⟩,
    ⟨(some 4), .mov (.tmp 38), none⟩])))))
  (.ops [⟨(some 39), .bin .add (.tmp 21) (.const (.int .i64 1)) (some (.int .i64)), none⟩,
    ⟨(some 21), .mov (.tmp 39), none⟩])))))))
  (.seq (.ops [⟨(some 40), .mov (.tmp 4), none⟩,
    ⟨(some 2), .mov (.tmp 40), none⟩,
    ⟨(some 3), .mov (.const (.int .i64 0)), none⟩])
  .ret))))))⟩
theorem F24_ok : compF Tryz.prog 24 = some F24 := by kernel_rfl
/-- (*colonnade/array.Array).Get -/
def F26 : FC := ⟨26, [.cell 4 true 4, .tmp 5],
  (.seq (.ops [⟨(some 4), .alloc [(.bool false), (.int .i64 0), (.string ⟨#[]⟩), (.slice none 0 0)], none⟩,
    ⟨(some 5), .mov (.const (.int .i64 0)), none⟩])
  (.seq (.seq (.ops [⟨(some 9), .mov (.tmp 0), none⟩,
    ⟨(some 10), .mov (.tmp 1), none⟩,
    ⟨(some 11), .call 59 [(.tmp 9), (.tmp 10)], none⟩,
    ⟨(some 12), .un .not (.tmp 11), none⟩])
  (.cond (.tmp 12)
  (.seq (.ops [⟨(some 13), .build [(.bool false), (.int .i64 0), (.string ⟨#[]⟩), (.slice none 0 0)] [], none⟩,
    ⟨none, .store 4 (.tmp 4) (.tmp 13), none⟩,
    ⟨(some 5), .mov (.const (.int .i64 2)), none⟩])
  .ret)
  .skip))
  (.seq (.ops [⟨(some 15), .mov (.tmp 0), none⟩,
    ⟨(some 16), .mov (.tmp 1), none⟩,
    ⟨(some 17), .call 60 [(.tmp 15), (.tmp 16)], none⟩,
    ⟨(some 14), .mov (.tmp 17), none⟩,
    ⟨(some 18), .extract (.tmp 14) 0, none⟩,
    ⟨(some 19), .extract (.tmp 14) 1, none⟩,
    ⟨(some 20), .extract (.tmp 14) 2, none⟩,
    ⟨(some 6), .alloc [(.bool false), (.int .i64 0), (.string ⟨#[]⟩), (.slice none 0 0)], none⟩,
    ⟨none, .store 4 (.tmp 6) (.tmp 18), none⟩,
    ⟨(some 7), .mov (.tmp 19), none⟩,
    ⟨(some 8), .mov (.tmp 20), none⟩])
  (.seq (.seq (.ops [⟨(some 21), .mov (.tmp 8), none⟩,
    ⟨(some 22), .bin .neq (.tmp 21) (.const (.int .i64 0)) (some (.int .i64)), none⟩])
  (.cond (.tmp 22)
  (.seq (.ops [⟨(some 23), .build [(.bool false), (.int .i64 0), (.string ⟨#[]⟩), (.slice none 0 0)] [], none⟩,
    ⟨(some 24), .mov (.tmp 8), none⟩,
    ⟨none, .store 4 (.tmp 4) (.tmp 23), none⟩,
    ⟨(some 5), .mov (.tmp 24), none⟩])
  .ret)
  .skip))
  (.seq (.ops [⟨(some 25), .load true 4 (.tmp 6), none⟩,
    ⟨none, .store 4 (.tmp 4) (.tmp 25), none⟩,
    ⟨(some 5), .mov (.const (.int .i64 0)), none⟩])
  .ret)))))⟩
theorem F26_ok : compF Tryz.prog 26 = some F26 := by kernel_rfl
/-- colonnade/lines.written -/
def F27 : FC := ⟨39, [.tmp 4, .tmp 5],
  (.seq (.ops [⟨(some 2), .box (.tmp 0), none⟩,
    ⟨(some 3), .box (.tmp 1), none⟩,
    ⟨(some 4), .mov (.const (.string ⟨#[]⟩)), none⟩,
    ⟨(some 5), .mov (.const (.int .i64 0)), none⟩])
  (.seq (.seq (.ops [⟨(some 9), .fieldAddr 0 (.tmp 3), none⟩,
    ⟨(some 10), .load false 1 (.tmp 9), none⟩])
  (.cond (.tmp 10)
  (.seq (.ops [⟨(some 4), .mov (.const (.string ⟨#[]⟩)), none⟩,
    ⟨(some 5), .mov (.const (.int .i64 0)), none⟩])
  .ret)
  .skip))
  (.seq (.ops [⟨(some 11), .fieldAddr 2 (.tmp 3), none⟩,
    ⟨(some 12), .load false 1 (.tmp 11), none⟩,
    ⟨(some 6), .mov (.tmp 12), none⟩])
  (.seq (.seq (.ops [⟨(some 13), .fieldAddr 2 (.tmp 2), none⟩,
    ⟨(some 14), .load true 5 (.tmp 13), none⟩,
    ⟨(some 15), .call 61 [(.tmp 14)], none⟩,
    ⟨(some 16), .un .not (.tmp 15), none⟩])
  (.cond (.tmp 16)
  (.seq (.ops [⟨(some 18), .load true 7 (.tmp 2), none⟩,
    ⟨(some 19), .load true 4 (.tmp 3), none⟩,
    ⟨(some 20), .call 62 [(.tmp 18), (.tmp 19)], none⟩,
    ⟨(some 17), .mov (.tmp 20), none⟩,
    ⟨(some 21), .extract (.tmp 17) 0, none⟩,
    ⟨(some 22), .extract (.tmp 17) 1, none⟩,
    ⟨(some 7), .mov (.tmp 21), none⟩,
    ⟨(some 8), .mov (.tmp 22), none⟩])
  (.seq (.seq (.ops [⟨(some 23), .mov (.tmp 8), none⟩,
    ⟨(some 24), .bin .neq (.tmp 23) (.const (.int .i64 0)) (some (.int .i64)), none⟩])
  (.cond (.tmp 24)
  (.seq (.ops [⟨(some 25), .mov (.tmp 8), none⟩,
    ⟨(some 4), .mov (.const (.string ⟨#[]⟩)), none⟩,
    ⟨(some 5), .mov (.tmp 25), none⟩])
  .ret)
  .skip))
  (.ops [⟨(some 26), .mov (.tmp 7), none⟩,
    ⟨(some 6), .mov (.tmp 26), none⟩])))
  .skip))
  (.seq (.seq (.ops [⟨(some 27), .mov (.tmp 6), none⟩,
    ⟨(some 28), .bin .neq (.tmp 27) (.const (.string ⟨#[]⟩)) (some .string), none⟩,
    ⟨(some 29), .mov (.tmp 28), none⟩,
    ⟨(some 30), .mov (.tmp 6), (some (29, true))⟩,
    ⟨(some 31), .call 63 [(.tmp 30), (.const (.string ⟨#[44, 34, 10, 13]⟩))], (some (29, true))⟩,
    ⟨(some 32), .un .not (.tmp 31), (some (29, true))⟩,
    ⟨(some 33), .pick (.tmp 29) (.tmp 32) (.const (.bool false)), none⟩])
  (.cond (.tmp 33)
  (.seq (.ops [⟨(some 34), .mov (.tmp 6), none⟩,
    ⟨(some 4), .mov (.tmp 34), none⟩,
    ⟨(some 5), .mov (.const (.int .i64 0)), none⟩])
  .ret)
  .skip))
  (.seq (.ops [⟨(some 35), .mov (.tmp 6), none⟩,
    ⟨(some 36), .call 64 [(.tmp 35), (.const (.string ⟨#[34]⟩)), (.const (.string ⟨#[34, 34]⟩))], none⟩,
    ⟨(some 37), .bin .add (.const (.string ⟨#[34]⟩)) (.tmp 36) (some .string), none⟩,
    ⟨(some 38), .bin .add (.tmp 37) (.const (.string ⟨#[34]⟩)) (some .string), none⟩,
    ⟨(some 4), .mov (.tmp 38), none⟩,
    ⟨(some 5), .mov (.const (.int .i64 0)), none⟩])
  .ret))))))⟩
theorem F27_ok : compF Tryz.prog 27 = some F27 := by kernel_rfl
/-- (*colonnade/lines.reader).line -/
def F28 : FC := ⟨95, [.tmp 2, .tmp 3, .tmp 4],
  (.seq (.ops [⟨(some 2), .mov (.const (.slice none 0 0)), none⟩,
    ⟨(some 3), .mov (.const (.int .i64 0)), none⟩,
    ⟨(some 4), .mov (.const (.int .i64 0)), none⟩])
  (.seq (.ops [⟨(some 5), .alloc [(.slice none 0 0)], none⟩])
  (.seq (.ops [⟨(some 6), .alloc [(.slice none 0 0)], none⟩])
  (.seq (.ops [⟨(some 7), .alloc [(.int .i64 0)], none⟩,
    ⟨none, .store 1 (.tmp 7) (.const (.int .i64 0)), none⟩])
  (.seq (.ops [⟨(some 12), .mkFunc (.func 65) [] [(.tmp 5), (.tmp 6), (.tmp 7)], none⟩,
    ⟨(some 8), .mov (.tmp 12), none⟩])
  (.seq (.ops [⟨(some 13), .mov (.tmp 0), none⟩,
    ⟨(some 14), .nilCheck (.tmp 13), none⟩,
    ⟨(some 15), .fieldAddr 0 (.tmp 14), none⟩,
    ⟨(some 16), .load false 1 (.tmp 15), none⟩,
    ⟨(some 9), .mov (.tmp 16), none⟩])
  (.seq (.seq (.ops [⟨(some 17), .mov (.tmp 9), none⟩,
    ⟨(some 18), .rngS (.tmp 17), none⟩])
  (.block 0 (.loop (.seq (.ops [⟨(some 19), .nxtS (.tmp 18), none⟩,
    ⟨(some 20), .extract (.tmp 19) 0, none⟩])
  (.seq (.cond (.tmp 20)
  .skip
  (.exit 0))
  (.block 1 (.seq (.ops [⟨(some 21), .extract (.tmp 19) 1, none⟩,
    ⟨(some 22), .extract (.tmp 19) 2, none⟩,
    ⟨(some 10), .mov (.tmp 21), none⟩,
    ⟨(some 11), .mov (.tmp 22), none⟩])
  (.seq (.seq (.ops [⟨(some 23), .load false 1 (.tmp 7), none⟩,
    ⟨(some 24), .bin .neq (.tmp 23) (.const (.int .i64 2)) (some (.int .i64)), none⟩,
    ⟨(some 25), .mov (.tmp 24), none⟩,
    ⟨(some 26), .mov (.tmp 9), (some (25, true))⟩,
    ⟨(some 27), .mov (.tmp 10), (some (25, true))⟩,
    ⟨(some 28), .sliceStr (.tmp 26) (some (.tmp 27)) none, (some (25, true))⟩,
    ⟨(some 29), .call 66 [(.tmp 28)], (some (25, true))⟩,
    ⟨(some 30), .bin .gtr (.tmp 29) (.const (.int .i64 0)) (some (.int .i64)), (some (25, true))⟩,
    ⟨(some 31), .pick (.tmp 25) (.tmp 30) (.const (.bool false)), none⟩])
  (.cond (.tmp 31)
  (.seq (.ops [⟨(some 32), .mov (.tmp 8), none⟩,
    ⟨(some 33), .callv (.tmp 32) [], none⟩])
  (.seq (.ops [⟨(some 34), .mov (.tmp 0), none⟩,
    ⟨(some 35), .mov (.tmp 10), none⟩,
    ⟨(some 36), .mov (.tmp 9), none⟩,
    ⟨(some 37), .mov (.tmp 10), none⟩,
    ⟨(some 38), .sliceStr (.tmp 36) (some (.tmp 37)) none, none⟩,
    ⟨(some 39), .call 66 [(.tmp 38)], none⟩,
    ⟨(some 40), .call 67 [(.tmp 34), (.tmp 35), (.tmp 39)], none⟩])
  (.seq (.ops [⟨(some 41), .load false 1 (.tmp 5), none⟩,
    ⟨(some 2), .mov (.tmp 41), none⟩,
    ⟨(some 3), .mov (.const (.int .i64 0)), none⟩,
    ⟨(some 4), .mov (.const (.int .i64 0)), none⟩])
  .ret)))
  .skip))
  (.block 2 (.seq (.ops [⟨(some 56), .mov (.tmp 11), none⟩,
    ⟨(some 57), .bin .eql (.tmp 56) (.const (.int .i32 34)) (some (.int .i32)), none⟩,
    ⟨(some 55), .mov (.tmp 57), none⟩])
  (.cond (.tmp 55)
  (.seq (.ops [⟨(some 58), .load false 1 (.tmp 7), none⟩])
  (.block 3 (.seq (.block 7 (.seq (.block 6 (.seq (.block 5 (.seq (.block 4 (.seq (.seq (.seq (.ops [⟨(some 60), .bin .eql (.tmp 58) (.const (.int .i64 1)) (some (.int .i64)), none⟩,
    ⟨(some 59), .mov (.tmp 60), none⟩])
  (.cond (.tmp 59)
  (.exit 4)
  .skip))
  (.seq (.seq (.ops [⟨(some 62), .bin .eql (.tmp 58) (.const (.int .i64 3)) (some (.int .i64)), none⟩,
    ⟨(some 61), .mov (.tmp 62), none⟩])
  (.cond (.tmp 61)
  (.exit 5)
  .skip))
  (.seq (.ops [⟨(some 64), .bin .eql (.tmp 58) (.const (.int .i64 0)) (some (.int .i64)), none⟩,
    ⟨(some 63), .mov (.tmp 64), none⟩])
  (.cond (.tmp 63)
  (.exit 6)
  .skip))))
  (.exit 7)))
  (.seq (.seq (.ops [⟨(some 65), .load false 1 (.tmp 5), none⟩,
    ⟨(some 66), .len 1 (.tmp 65), none⟩,
    ⟨(some 2), .mov (.const (.slice none 0 0)), none⟩,
    ⟨(some 3), .mov (.tmp 66), none⟩,
    ⟨(some 4), .mov (.const (.int .i64 250)), none⟩])
  .ret)
  (.exit 3))))
  (.ops [⟨(some 67), .load false 1 (.tmp 6), none⟩,
    ⟨(some 68), .buildSlice 1 1 [(.int .u8 0)] [(0, 1, (.const (.int .u8 34)))], none⟩,
    ⟨(some 69), .appendB (.tmp 67) (.tmp 68), none⟩,
    ⟨none, .store 1 (.tmp 6) (.tmp 69), none⟩])))
  (.seq (.ops [⟨none, .store 1 (.tmp 7) (.const (.int .i64 2)), none⟩])
  (.exit 3))))
  (.seq (.ops [⟨none, .store 1 (.tmp 7) (.const (.int .i64 3)), none⟩])
  (.exit 3)))))
  (.seq (.ops [⟨(some 71), .mov (.tmp 11), none⟩,
    ⟨(some 72), .bin .eql (.tmp 71) (.const (.int .i32 44)) (some (.int .i32)), none⟩,
    ⟨(some 73), .mov (.tmp 72), none⟩,
    ⟨(some 74), .load false 1 (.tmp 7), (some (73, true))⟩,
    ⟨(some 75), .bin .neq (.tmp 74) (.const (.int .i64 2)) (some (.int .i64)), (some (73, true))⟩,
    ⟨(some 76), .pick (.tmp 73) (.tmp 75) (.const (.bool false)), none⟩,
    ⟨(some 70), .mov (.tmp 76), none⟩])
  (.cond (.tmp 70)
  (.ops [⟨(some 77), .mov (.tmp 8), none⟩,
    ⟨(some 78), .callv (.tmp 77) [], none⟩])
  (.seq (.ops [⟨(some 80), .load false 1 (.tmp 7), none⟩,
    ⟨(some 81), .bin .eql (.tmp 80) (.const (.int .i64 3)) (some (.int .i64)), none⟩,
    ⟨(some 79), .mov (.tmp 81), none⟩])
  (.cond (.tmp 79)
  (.seq (.ops [⟨(some 82), .load false 1 (.tmp 5), none⟩,
    ⟨(some 83), .len 1 (.tmp 82), none⟩,
    ⟨(some 2), .mov (.const (.slice none 0 0)), none⟩,
    ⟨(some 3), .mov (.tmp 83), none⟩,
    ⟨(some 4), .mov (.const (.int .i64 250)), none⟩])
  .ret)
  (.seq (.seq (.ops [⟨(some 42), .load false 1 (.tmp 7), none⟩,
    ⟨(some 43), .bin .eql (.tmp 42) (.const (.int .i64 0)) (some (.int .i64)), none⟩])
  (.cond (.tmp 43)
  (.ops [⟨none, .store 1 (.tmp 7) (.const (.int .i64 1)), none⟩])
  .skip))
  (.ops [⟨(some 44), .load false 1 (.tmp 6), none⟩,
    ⟨(some 45), .mov (.tmp 9), none⟩,
    ⟨(some 46), .mov (.tmp 10), none⟩,
    ⟨(some 47), .mov (.tmp 10), none⟩,
    ⟨(some 48), .mov (.tmp 9), none⟩,
    ⟨(some 49), .mov (.tmp 10), none⟩,
    ⟨(some 50), .sliceStr (.tmp 48) (some (.tmp 49)) none, none⟩,
    ⟨(some 51), .call 68 [(.tmp 50)], none⟩,
    ⟨none, .again 44 false 1 (.tmp 6), none⟩,
    ⟨(some 52), .bin .add (.tmp 47) (.tmp 51) (some (.int .i64)), none⟩,
    ⟨(some 53), .sliceStr (.tmp 45) (some (.tmp 46)) (some (.tmp 52)), none⟩,
    ⟨(some 54), .appendB (.tmp 44) (.tmp 53), none⟩,
    ⟨none, .store 1 (.tmp 6) (.tmp 54), none⟩])))))))))))))))))
  (.seq (.seq (.ops [⟨(some 84), .load false 1 (.tmp 7), none⟩,
    ⟨(some 85), .bin .eql (.tmp 84) (.const (.int .i64 2)) (some (.int .i64)), none⟩])
  (.cond (.tmp 85)
  (.seq (.ops [⟨(some 86), .load false 1 (.tmp 5), none⟩,
    ⟨(some 87), .len 1 (.tmp 86), none⟩,
    ⟨(some 2), .mov (.const (.slice none 0 0)), none⟩,
    ⟨(some 3), .mov (.tmp 87), none⟩,
    ⟨(some 4), .mov (.const (.int .i64 250)), none⟩])
  .ret)
  .skip))
  (.seq (.ops [⟨(some 88), .mov (.tmp 8), none⟩,
    ⟨(some 89), .callv (.tmp 88) [], none⟩])
  (.seq (.ops [⟨(some 90), .mov (.tmp 0), none⟩,
    ⟨(some 91), .mov (.tmp 9), none⟩,
    ⟨(some 92), .len 0 (.tmp 91), none⟩,
    ⟨(some 93), .call 67 [(.tmp 90), (.tmp 92), (.const (.int .i64 0))], none⟩])
  (.seq (.ops [⟨(some 94), .load false 1 (.tmp 5), none⟩,
    ⟨(some 2), .mov (.tmp 94), none⟩,
    ⟨(some 3), .mov (.const (.int .i64 0)), none⟩,
    ⟨(some 4), .mov (.const (.int .i64 0)), none⟩])
  .ret)))))))))))⟩
theorem F28_ok : compF Tryz.prog 28 = some F28 := by kernel_rfl
/-- slices.DeleteFunc[[]colonnade/lines.cell,colonnade/lines.cell] -/
def F29 : FC := ⟨42, [.tmp 4],
  (.seq (.ops [⟨(some 4), .mov (.const (.slice none 0 0)), none⟩])
  (.seq (.ops [⟨(some 8), .mov (.tmp 0), none⟩,
    ⟨(some 9), .mov (.tmp 1), none⟩,
    ⟨(some 10), .call 69 [(.tmp 8), (.tmp 9)], none⟩,
    ⟨(some 5), .mov (.tmp 10), none⟩])
  (.seq (.seq (.ops [⟨(some 11), .mov (.tmp 5), none⟩,
    ⟨(some 12), .bin .eql (.tmp 11) (.const (.int .i64 (-1))) (some (.int .i64)), none⟩])
  (.cond (.tmp 12)
  (.seq (.ops [⟨(some 13), .mov (.tmp 0), none⟩,
    ⟨(some 4), .mov (.tmp 13), none⟩])
  .ret)
  .skip))
  (.seq (.seq (.ops [⟨(some 14), .mov (.tmp 5), none⟩,
    ⟨(some 15), .bin .add (.tmp 14) (.const (.int .i64 1)) (some (.int .i64)), none⟩,
    ⟨(some 6), .mov (.tmp 15), none⟩])
  (.block 0 (.loop (.seq (.seq (.ops [⟨(some 16), .mov (.tmp 6), none⟩,
    ⟨(some 17), .mov (.tmp 0), none⟩,
    ⟨(some 18), .len 1 (.tmp 17), none⟩,
    ⟨(some 19), .bin .lss (.tmp 16) (.tmp 18) (some (.int .i64)), none⟩])
  (.cond (.tmp 19)
  .skip
  (.exit 0)))
  (.seq (.block 1 (.seq (.ops [⟨(some 22), .mov (.tmp 0), none⟩,
    ⟨(some 23), .mov (.tmp 6), none⟩,
    ⟨(some 24), .indexAddr 2 (.tmp 22) (.tmp 23), none⟩,
    ⟨(some 25), .load true 2 (.tmp 24), none⟩,
    ⟨(some 7), .alloc [(.string ⟨#[]⟩), (.bool false)], none⟩,
    ⟨none, .store 2 (.tmp 7) (.tmp 25), none⟩])
  (.seq (.ops [⟨(some 26), .mov (.tmp 1), none⟩,
    ⟨(some 27), .load true 2 (.tmp 7), none⟩,
    ⟨(some 28), .callv (.tmp 26) [(.tmp 27)], none⟩,
    ⟨(some 29), .un .not (.tmp 28), none⟩])
  (.cond (.tmp 29)
  (.seq (.ops [⟨(some 30), .mov (.tmp 0), none⟩,
    ⟨(some 31), .mov (.tmp 5), none⟩,
    ⟨(some 32), .load true 2 (.tmp 7), none⟩,
    ⟨(some 33), .indexAddr 2 (.tmp 30) (.tmp 31), none⟩,
    ⟨none, .store 2 (.tmp 33) (.tmp 32), none⟩])
  (.ops [⟨(some 34), .mov (.tmp 5), none⟩,
    ⟨(some 35), .bin .add (.tmp 34) (.const (.int .i64 1)) (some (.int .i64)), none⟩,
    ⟨(some 5), .mov (.tmp 35), none⟩]))
  .skip))))
  (.ops [⟨(some 20), .mov (.tmp 6), none⟩,
    ⟨(some 21), .bin .add (.tmp 20) (.const (.int .i64 1)) (some (.int .i64)), none⟩,
    ⟨(some 6), .mov (.tmp 21), none⟩]))))))
  (.seq (.ops [⟨(some 36), .mov (.tmp 0), none⟩,
    ⟨(some 37), .mov (.tmp 5), none⟩,
    ⟨(some 38), .slice 2 (.tmp 36) (some (.tmp 37)) none none, none⟩,
    ⟨none, .clr 2 [(.string ⟨#[]⟩), (.bool false)] (.tmp 38), none⟩])
  (.seq (.ops [⟨(some 39), .mov (.tmp 0), none⟩,
    ⟨(some 40), .mov (.tmp 5), none⟩,
    ⟨(some 41), .slice 2 (.tmp 39) none (some (.tmp 40)) none, none⟩,
    ⟨(some 4), .mov (.tmp 41), none⟩])
  .ret))))))⟩
theorem F29_ok : compF Tryz.prog 29 = some F29 := by kernel_rfl
/-- slices.Clone[[]colonnade/lines.cell,colonnade/lines.cell] -/
def F30 : FC := ⟨8, [.tmp 2],
  (.seq (.ops [⟨(some 2), .mov (.const (.slice none 0 0)), none⟩])
  (.seq (.seq (.ops [⟨(some 3), .mov (.tmp 0), none⟩,
    ⟨(some 4), .bin .eql (.tmp 3) (.const (.slice none 0 0)) (some (.slice 55)), none⟩])
  (.cond (.tmp 4)
  (.seq (.ops [⟨(some 2), .mov (.const (.slice none 0 0)), none⟩])
  .ret)
  .skip))
  (.seq (.ops [⟨(some 5), .buildSlice 2 0 [] [], none⟩,
    ⟨(some 6), .mov (.tmp 0), none⟩,
    ⟨(some 7), .append 2 24 (.tmp 5) (.tmp 6), none⟩,
    ⟨(some 2), .mov (.tmp 7), none⟩])
  .ret)))⟩
theorem F30_ok : compF Tryz.prog 30 = some F30 := by kernel_rfl
/-- (colonnade/lines.cell).null -/
def F31 : FC := ⟨11, [.tmp 2],
  (.seq (.ops [⟨(some 1), .box (.tmp 0), none⟩,
    ⟨(some 2), .mov (.const (.bool false)), none⟩])
  (.seq (.ops [⟨(some 3), .fieldAddr 1 (.tmp 1), none⟩,
    ⟨(some 4), .load false 1 (.tmp 3), none⟩,
    ⟨(some 5), .un .not (.tmp 4), none⟩,
    ⟨(some 6), .mov (.tmp 5), none⟩,
    ⟨(some 7), .fieldAddr 0 (.tmp 1), (some (6, true))⟩,
    ⟨(some 8), .load false 1 (.tmp 7), (some (6, true))⟩,
    ⟨(some 9), .bin .eql (.tmp 8) (.const (.string ⟨#[]⟩)) (some .string), (some (6, true))⟩,
    ⟨(some 10), .pick (.tmp 6) (.tmp 9) (.const (.bool false)), none⟩,
    ⟨(some 2), .mov (.tmp 10), none⟩])
  .ret))⟩
theorem F31_ok : compF Tryz.prog 31 = some F31 := by kernel_rfl
/-- colonnade/lines.guessed$1 -/
def F32 : FC := ⟨21, [.tmp 3],
  (.seq (.ops [⟨(some 2), .box (.tmp 0), none⟩,
    ⟨(some 3), .mov (.const (.bool false)), none⟩])
  (.seq (.ops [⟨(some 8), .load true 7 (.tmp 1), none⟩,
    ⟨(some 9), .fieldAddr 0 (.tmp 2), none⟩,
    ⟨(some 10), .load false 1 (.tmp 9), none⟩,
    ⟨(some 11), .call 33 [(.tmp 8), (.tmp 10)], none⟩,
    ⟨(some 7), .mov (.tmp 11), none⟩,
    ⟨(some 12), .extract (.tmp 7) 0, none⟩,
    ⟨(some 13), .extract (.tmp 7) 1, none⟩,
    ⟨(some 14), .extract (.tmp 7) 2, none⟩,
    ⟨(some 4), .alloc [(.bool false), (.int .i64 0), (.string ⟨#[]⟩), (.slice none 0 0)], none⟩,
    ⟨none, .store 4 (.tmp 4) (.tmp 12), none⟩,
    ⟨(some 5), .mov (.tmp 13), none⟩,
    ⟨(some 6), .mov (.tmp 14), none⟩])
  (.seq (.ops [⟨(some 15), .fieldAddr 1 (.tmp 2), none⟩,
    ⟨(some 16), .load false 1 (.tmp 15), none⟩,
    ⟨(some 17), .mov (.tmp 16), none⟩,
    ⟨(some 18), .mov (.tmp 5), (some (17, false))⟩,
    ⟨(some 19), .bin .neq (.tmp 18) (.const (.int .i64 0)) (some (.int .i64)), (some (17, false))⟩,
    ⟨(some 20), .pick (.tmp 17) (.const (.bool true)) (.tmp 19), none⟩,
    ⟨(some 3), .mov (.tmp 20), none⟩])
  .ret)))⟩
theorem F32_ok : compF Tryz.prog 32 = some F32 := by kernel_rfl
end Go.Proofs.YtpgeonghlabnhaaGreatDoor.Lin
