/- No conditions. -/
import Derived.Test.YtkjhfefbklcciaaGreatDoorX41
set_option linter.unusedVariables false
set_option linter.unusedSimpArgs false
namespace Go.Proofs.YtkjhfefbklcciaaGreatDoor.Em
open Go
theorem Up.pre(n:Nat)(cap:Option Nat)(c:List EV)(k:Nat):Up (.isl n cap c) (.isl n cap (c.take k)):=fun w I ρ cv h=>by
 have hsub:∀(j:Nat) (x:EV),(c.take k)[j]?=some x->c[j]?=some x:=fun j x hx=>by
  rw[List.getElem?_take]at hx;split at hx
  ·exact hx
  ·cases hx
 cases h with
 |isl _ _ _ _ a kk vs h1 h2 h3 h4=>exact .isl _ _ _ _ a kk vs h1 h2 (fun hk=>⟨(h3 hk).1,fun j x hx=>(h3 hk).2 j x (hsub j x hx)⟩) (fun hk j x hx=>h4 hk j x (hsub j x hx))
 |isln=>exact .isln _ _
section
variable {P:Program} {G:List (List EV)}
end
end Go.Proofs.YtkjhfefbklcciaaGreatDoor.Em
