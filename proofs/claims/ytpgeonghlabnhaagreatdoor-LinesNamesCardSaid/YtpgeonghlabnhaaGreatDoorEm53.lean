/- Em53: a call of which the kit's shelf tells what it gives, and that it leaves what was there as it was, as a contract. No conditions beyond those written. -/
import Derived.Test.YtpgeonghlabnhaaGreatDoorEm22
import Derived.Below
set_option linter.unusedVariables false
namespace Go.Proofs.YtpgeonghlabnhaaGreatDoor.Em
open Go
section
variable {P : Program} {G : List (List EV)} {I : Imm} {w w' : World} {ρ : Ren} {h : EH}
theorem Keep.belowW (hI : ∀ b, I b → b < w.heap.size) (b : RowKit.Below w.heap.size w w') : Keep I w w' :=
  ⟨b.os, b.tape, b.output, b.size, fun x hx => b.block x (hI x hx), fun x cs e fz hx => ⟨cs, fz, by rw [b.block x (Array.getElem?_eq_some_iff.1 hx).1]; exact hx, rfl⟩⟩
theorem HSim.belowW (hs : HSim I w ρ h) (hI : ∀ b, I b → b < w.heap.size) (b : RowKit.Below w.heap.size w w') : HSim I w' ρ h := by
  have k := Keep.belowW hI b
  refine ⟨hs.len, fun id => ?_, hs.inj⟩
  by_cases hd : getH h id = .dead
  · rw [hd]; trivial
  · obtain ⟨x, o, hr, _, hlt⟩ := (hs.live id).lt hd
    refine (hs.live id).stays k (fun i y hy => hy) fun b' o' hb => ?_
    rw [hr] at hb; cases hb
    exact b.block x hlt
/-- A call told by the shelf. -/
theorem Tri.shelf {f : FuncId} {args : List EV} {v : EV} (hc : ∀ (I : Imm) (ρ : Ren) (w : World) (cargs : Array Value), (∀ b, I b → b < w.heap.size) → RepL w I ρ args cargs.toList →
      ∃ cv, Calls P f cargs w (fun e w' => e = .returned cv ∧ RowKit.Below w.heap.size w w') ∧ ∀ w' I' ρ', Rep w' I' ρ' v cv) : Tri P G f args h fun v' h' => v' = v ∧ h' = h := by
  intro I ρ w cargs hI hs ha hg
  obtain ⟨cv, h1, h2⟩ := hc I ρ w cargs hI ha
  refine h1.mono fun e w' ⟨he, hb⟩ => ?_
  refine ⟨v, cv, h, I, [], he, ⟨rfl, rfl⟩, Imm.le.refl I, fun b hb' => Nat.lt_of_lt_of_le (hI b hb') hb.size, by rw [List.append_nil]; exact hs.belowW hI hb, h2 _ _ _, Keep.belowW hI hb⟩
theorem repL_lits : ∀ {vs cs : List Value}, RepL w I ρ (vs.map .lit) cs → cs = vs
  | [], [], _ => rfl
  | v :: vs, c :: cs, h => by
    have h1 : Rep w I ρ (.lit v) c := h.1
    cases h1
    rw [repL_lits (vs := vs) h.2]
  | [], _ :: _, h => by cases h
  | _ :: _, [], h => by cases h
/-- Of literal arguments, with a literal's answer. -/
theorem Tri.shelfL {f : FuncId} {vs : List Value} {cv : Value} (hc : ∀ w : World, Calls P f vs.toArray w (fun e w' => e = .returned cv ∧ RowKit.Below w.heap.size w w')) :
    Tri P G f (vs.map .lit) h fun v' h' => v' = .lit cv ∧ h' = h :=
  Tri.shelf fun I ρ w cargs hI ha => ⟨cv, by
    have e : cargs = vs.toArray := by
      have := repL_lits ha
      rw [← this]
    rw [e]; exact hc w, fun _ _ _ => .lit _ _⟩
/-- what is known of calls -/
def rowsOK (P : Program) (G : List (List EV)) (f : FuncId) : List (List EV × EV) → Prop
  | [] => True
  | (a, v) :: tb => (Tri P G f a [] fun v' h' => v' = v ∧ h' = []) ∧ rowsOK P G f tb
def orcOK (P : Program) (G : List (List EV)) : List (Nat × List (List EV × EV)) → Prop
  | [] => True
  | (f, tb) :: l => (goodF P f = true ∧ rowsOK P G f tb) ∧ orcOK P G l
theorem rowsOK_mem {f : FuncId} : ∀ {tb : List (List EV × EV)}, rowsOK P G f tb → ∀ args v, (args, v) ∈ tb → Tri P G f args [] fun v' h' => v' = v ∧ h' = []
  | [], _, _, _, h => by cases h
  | (a, v) :: tb, ht, args, u, h => by
    rcases List.mem_cons.1 h with h | h
    · cases h; exact ht.1
    · exact rowsOK_mem ht.2 _ _ h
theorem orc_ok : ∀ {l : List (Nat × List (List EV × EV))}, orcOK P G l → ∀ f tb, findF l f = some tb → goodF P f = true ∧ ∀ args v, (args, v) ∈ tb → Tri P G f args [] fun v' h' => v' = v ∧ h' = []
  | [], _, _, _, h => by cases h
  | (g, x) :: l, ht, f, tb, h => by
    simp only [findF] at h
    split at h
    · rename_i hb; cases h; rw [← Nat.eq_of_beq_eq_true hb]; exact ⟨ht.1.1, rowsOK_mem ht.1.2⟩
    · exact orc_ok ht.2 f tb h
/-- a table with more that is known -/
theorem Tab.with {T : Tab} (hT : T.OK P G) {l : List (Nat × List (List EV × EV))} (h : orcOK P G l) : Tab.OK P G { T with o := findF l } := ⟨hT.f, hT.d, hT.r, orc_ok h⟩
end
end Go.Proofs.YtpgeonghlabnhaaGreatDoor.Em
