/- No conditions. -/
import Derived.Test.YtehgpabfgjofhaaGreatDoorX44
set_option linter.unusedVariables false
namespace Go.Proofs.YtehgpabfgjofhaaGreatDoor.Em
open Go
section
variable {P:Program} {G:List (List EV)}
theorem Tri.nilC{f:FuncId}{n:Nat}{c l:List EV}{h:EH}{R:EV->EH->Prop}(t0:n=0->Tri P G f (.lit (.slice none 0 0)::l) h R)(t1:∀k,n<=k->Tri P G f (.isl n (some k) c::l) h R):Tri P G f (.isl n none c::l) h R:=
 fun I ρ w cargs a b hc d=>by
  match hcl:cargs.toList,hc with
  |v::vs,hc=>
   obtain⟨h1,h2⟩:=hc;cases h1 with
   |isl _ _ _ _ ad k us hk hs hf hr=>
    exact t1 k hk.1 I ρ w cargs a b (by rw[hcl];exact⟨.isl _ _ _ _ ad k us ⟨hk.1,fun m hm=>by cases hm;rfl⟩ hs hf hr,h2⟩) d
   |isln=>exact t0 rfl I ρ w cargs a b (by rw[hcl];exact⟨.lit _ _,h2⟩) d
end
end Go.Proofs.YtehgpabfgjofhaaGreatDoor.Em
