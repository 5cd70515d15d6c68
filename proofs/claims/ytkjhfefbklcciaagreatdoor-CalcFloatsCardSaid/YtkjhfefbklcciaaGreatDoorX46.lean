/- No conditions. -/
import Derived.Test.YtkjhfefbklcciaaGreatDoorX45
set_option linter.unusedVariables false
set_option linter.unusedSimpArgs false
namespace Go.Proofs.YtkjhfefbklcciaaGreatDoor.Em
open Go
section
variable {P:Program} {G:List (List EV)} {ro:Option Nat} {I0:Imm} {ρ0:Ren} {w0:World} {Q:Exit->Act->World->Prop}
theorem OKs.lpU{c:EC}{k:List KI}{s:St}(h:OKs P G ro I0 ρ0 w0 Q (.c c :: .lp c::k) s):OKs P G ro I0 ρ0 w0 Q (.lp c::k) s:=by
 intro Φ hΦ a w hsim
 cases hΦ with
 |lp hc hk=>
  rename_i c' Φ;rw[EN];exact Ik (h _ (KW.c hc (KW.lp hc hk)) a w hsim)
theorem OKs.loopU{c:EC}{k:List KI}{s:St}(h:OKs P G ro I0 ρ0 w0 Q (.c c :: .lp c::k) s):OKs P G ro I0 ρ0 w0 Q (.c (.loop c)::k) s:=
 oL_ (fun _ s'=>s'=s) (fun m s' e _=>by subst e;exact h) (n:=0) rfl
end
end Go.Proofs.YtkjhfefbklcciaaGreatDoor.Em
