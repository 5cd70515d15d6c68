/- Em24: rules for runs over variables: bytes, and the arithmetic where it fits. No conditions beyond those written. -/
import Derived.Test.YtmckingimnhoaaaGreatDoorX23
set_option linter.unusedVariables false
set_option linter.unusedSimpArgs false
namespace Go.Proofs.YtmckingimnhoaaaGreatDoor.Em
open Go
section
variable {P : Program} {G : List (List EV)} {ro : Option Nat} {I0 : Imm} {ρ0 : Ren} {w0 : World} {Q : Exit → Act → World → Prop}
theorem runS {A : Ar} (hA : A = stdA) (hd : DrawSound P G) {Fin : St → Prop} (hF : EndsQ P G I0 ρ0 w0 Q Fin) (n : Nat) {k : List KI} {st : St} (hk : noOps k) (ok : OK P G ro I0 ρ0 w0 Q Fin (run A G n k st)) : OKs P G ro I0 ρ0 w0 Q k st := by
  subst hA
  have := run_sound hd hF n k st hk.good ok
  rwa [hk.okk] at this
theorem runK {A : Ar} (hA : A = stdA) (hd : DrawSound P G) {Fin : St → Prop} (hF : EndsQ P G I0 ρ0 w0 Q Fin) (n : Nat) {k : List KI} {st : St} (hk : goodK k) (ok : OK P G ro I0 ρ0 w0 Q Fin (run A G n k st)) : OKK P G ro I0 ρ0 w0 Q k st := by
  subst hA
  exact run_sound hd hF n k st hk ok
end
/-! ### the arithmetic -/
theorem wrap_i64 (n : Int) (h1 : -9223372036854775808 ≤ n) (h2 : n ≤ 9223372036854775807) : IntKind.i64.wrap n = n := by
  simp only [IntKind.wrap, IntKind.signed, IntKind.bits]
  simp
  split <;> omega
theorem wrap_u8 (n : Int) (h1 : 0 ≤ n) (h2 : n < 256) : IntKind.u8.wrap n = n := by
  simp only [IntKind.wrap, IntKind.signed, IntKind.bits]
  simp
  omega
theorem s_add (a b : Int) (h1 : -9223372036854775808 ≤ a + b) (h2 : a + b ≤ 9223372036854775807) : stdA.ib .add .i64 a b = a + b := wrap_i64 _ h1 h2
theorem s_sub (a b : Int) (h1 : -9223372036854775808 ≤ a - b) (h2 : a - b ≤ 9223372036854775807) : stdA.ib .sub .i64 a b = a - b := wrap_i64 _ h1 h2
theorem s_mul (a b : Int) (h1 : -9223372036854775808 ≤ a * b) (h2 : a * b ≤ 9223372036854775807) : stdA.ib .mul .i64 a b = a * b := wrap_i64 _ h1 h2
theorem s_eql (a b : Int) : stdA.ic .eql a b = decide (a = b) := by simp [stdA]; rfl
theorem s_neq (a b : Int) : stdA.ic .neq a b = decide (a ≠ b) := by
  simp only [stdA]; by_cases h : a = b <;> simp [h]
theorem s_lss (a b : Int) : stdA.ic .lss a b = decide (a < b) := rfl
theorem s_leq (a b : Int) : stdA.ic .leq a b = decide (a ≤ b) := rfl
theorem s_gtr (a b : Int) : stdA.ic .gtr a b = decide (b < a) := rfl
theorem s_geq (a b : Int) : stdA.ic .geq a b = decide (b ≤ a) := rfl
theorem s_le (a b : Nat) : (stdA.le a b = true) = (a ≤ b) := by simp [stdA]
theorem s_leB (a b : Nat) : stdA.le a b = decide (a ≤ b) := rfl
theorem s_inb (a : Int) (b : Nat) : (stdA.inb a b = true) = (0 ≤ a ∧ a < b) := by simp [stdA]
theorem s_slb (a b : Int) (n : Nat) : (stdA.slb a b n = true) = (0 ≤ a ∧ a ≤ b ∧ b ≤ n) := by simp [stdA]
theorem s_room (n b : Nat) : (stdA.room n b = true) = (n * b ≤ 140737488355328 ∧ n ≤ 9223372036854775807) := by simp [stdA]
theorem s_mks (b : Nat) (n m : Int) : (stdA.mks b n m = true) = (0 ≤ n ∧ n ≤ m ∧ m * b ≤ 281474976710656 ∧ m ≤ 9223372036854775807) := by simp [stdA]
theorem s_isz (n : Nat) : stdA.isz n = decide (n = 0) := by simp [stdA]; rfl
theorem s_bnot (b : Bool) : stdA.bnot b = !b := rfl
theorem s_beq (a b : Bool) : stdA.beq a b = (a == b) := rfl
theorem s_ne0 (a : Int) : (stdA.ne0 a = true) = (a ≠ 0) := by simp [stdA]
theorem s_nn (a : Int) : (stdA.nn a = true) = (0 ≤ a) := by simp [stdA]
theorem s_idx (o : Nat) (i : Int) (e : Nat) : stdA.idx o i e = o + i.toNat * e := rfl
theorem s_addN (a b : Nat) : stdA.add a b = a + b := rfl
theorem s_subN (a b : Nat) : stdA.sub a b = a - b := rfl
theorem s_mulN (a b : Nat) : stdA.mul a b = a * b := rfl
theorem s_tn (a : Int) : stdA.tn a = a.toNat := rfl
theorem s_ofn (a : Nat) : stdA.ofn a = (a : Int) := rfl
theorem s_nmin (a b : Nat) : stdA.nmin a b = min a b := rfl
theorem s_drp (n : Nat) (l : List EV) : stdA.drp n l = l.drop n := rfl
theorem s_tak (n : Nat) (l : List EV) : stdA.tak n l = l.take n := rfl
theorem s_app (l m : List EV) : stdA.app l m = l ++ m := rfl
theorem s_len (l : List EV) : stdA.len l = l.length := rfl
theorem s_setl (l : List EV) (o : Nat) (v : List EV) : stdA.setl l o v = l.take o ++ v ++ l.drop (o + v.length) := rfl
theorem s_rep (z : List EV) (n : Nat) : stdA.rep z n = (List.replicate n z).flatten := rfl
theorem s_wr64 (n : Int) (h1 : -9223372036854775808 ≤ n) (h2 : n ≤ 9223372036854775807) : stdA.wr .i64 n = n := wrap_i64 _ h1 h2
theorem s_wr8 (n : Int) (h1 : 0 ≤ n) (h2 : n < 256) : stdA.wr .u8 n = n := wrap_u8 _ h1 h2
/-! ### bytes -/
def byteV (n : Nat) : EV := .lit (.int .u8 (n : Int))
def bytesE (l : List Nat) : List EV := l.map byteV
def intV (n : Int) : EV := .lit (.int .i64 n)
def intsE (l : List Int) : List EV := l.map intV
theorem bytesE_fold (l : List Nat) : l.map byteV = bytesE l := rfl
theorem intsE_fold (l : List Int) : l.map intV = intsE l := rfl
theorem bytesE_length (l : List Nat) : (bytesE l).length = l.length := by simp [bytesE]
theorem intsE_length (l : List Int) : (intsE l).length = l.length := by simp [intsE]
theorem bytesE_drop (n : Nat) (l : List Nat) : (bytesE l).drop n = bytesE (l.drop n) := by simp [bytesE, List.map_drop]
theorem bytesE_take (n : Nat) (l : List Nat) : (bytesE l).take n = bytesE (l.take n) := by simp [bytesE, List.map_take]
theorem bytesE_app (l m : List Nat) : bytesE l ++ bytesE m = bytesE (l ++ m) := by simp [bytesE]
def mkT (n : Nat) (l : List (Nat × EV)) : List EV := l.foldl (fun t p => setT t p.1 p.2) (List.replicate n .top)
def msk (n : Nat) (l : List Nat) : List Bool := (List.range n).map fun i => l.contains i
end Go.Proofs.YtmckingimnhoaaaGreatDoor.Em
