/- No conditions. -/
import Derived.Test.YtkjhfefbklcciaaGreatDoorX39
set_option linter.unusedVariables false
set_option linter.unusedSimpArgs false
namespace Go.Proofs.YtkjhfefbklcciaaGreatDoor.Em
open Go
section
variable {P:Program} {G:List (List EV)}
theorem W7(ρ:Ren):BM ρ (List.range ρ.length)=ρ:=by
 apply List.ext_getElem?
 intro i
 simp only[BM,List.getElem?_map]
 by_cases h:i<ρ.length
 ·rw[List.getElem?_range h]
  simp[lG,lE h]
 ·rw[List.getElem?_eq_none (by simp;omega),List.getElem?_eq_none (by omega)];rfl
theorem Tri.freeze{f:FuncId}{args:List EV}{h:EH}{R:EV->EH->Prop}(n:Nat)(hn:n=Bd h)(fr:List Nat)(ok:Dh (List.range n) fr h)
  (t:Tri P G f (mvL (mvG (List.range n) fr) (mvZ fr h) args) (mvH (List.range n) fr h (List.range n)) R):Tri P G f args h R:=by
 intro I ρ w cargs hI hs ha hg
 obtain⟨J,j1,j2,_,j4,j5⟩:=Hl hs hI ok
 have hren:BM ρ (List.range n)=ρ:=by rw[hn,<-hs.len,W7]
 rw[hren]at j4 j5
 exact(t J ρ w cargs j2 j4 (Hr j5 ha) ⟨fun g c hg' ρ=>(hg.1 g c hg' ρ).imm j1.j,j1.P.trans hg.2⟩).mono fun e w' ⟨v,cv,h',I',ρ1,q1,q2,q3,q4,q5,q6,q7⟩=>
  ⟨v,cv,h',I',ρ1,q1,q2,j1.trans q3,q4,q5,q6,q7.mono j1.k⟩
end
end Go.Proofs.YtkjhfefbklcciaaGreatDoor.Em
