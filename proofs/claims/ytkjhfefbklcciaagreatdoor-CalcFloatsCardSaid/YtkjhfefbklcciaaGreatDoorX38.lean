/- No conditions. -/
import Derived.Test.YtkjhfefbklcciaaGreatDoorX37
set_option linter.unusedVariables false
set_option linter.unusedSimpArgs false
namespace Go.Proofs.YtkjhfefbklcciaaGreatDoor.Em
open Go
section
variable {P:Program} {G:List (List EV)} {ro:Option Nat} {I0:Imm} {ρ0:Ren} {w0:World} {Q:Exit->Act->World->Prop}
theorem OKK.stopS(d:Option Nat){i:EI}{g:Option (Nat×Bool)}{l:List EOp}{e:EC}{k:List KI}{s:St}(h:OKs P G ro I0 ρ0 w0 Q (.c (.seq (.ops (⟨d,i,g⟩::l)) e)::k) s) :
  OKK P G ro I0 ρ0 w0 Q (.c (.seq (.ops (⟨d,i,g⟩::l)) e)::k) s:=h
theorem Tri.args{f:FuncId}{args args':List EV}{h:EH}{R:EV->EH->Prop}(t:Tri P G f args' h R)(hu:∀w I ρ vs,RepL w I ρ args vs->RepL w I ρ args' vs):Tri P G f args h R:=
 fun I ρ w cargs a b c d=>t I ρ w cargs a b (hu _ _ _ _ c) d
theorem UpL.nil:∀w I ρ vs,RepL w I ρ [] vs->RepL w I ρ [] vs:=fun _ _ _ _ h=>h
theorem UpL.cons{x y:EV}{l m:List EV}(h:Up x y)(k:∀w I ρ vs,RepL w I ρ l vs->RepL w I ρ m vs):∀w I ρ vs,RepL w I ρ (x::l) vs->RepL w I ρ (y::m) vs:=fun w I ρ vs hr=>by
 cases vs with
 |nil=>exact hr.elim
 |cons v vs=>exact⟨h _ _ _ _ hr.1,k _ _ _ _ hr.2⟩
end
end Go.Proofs.YtkjhfefbklcciaaGreatDoor.Em
