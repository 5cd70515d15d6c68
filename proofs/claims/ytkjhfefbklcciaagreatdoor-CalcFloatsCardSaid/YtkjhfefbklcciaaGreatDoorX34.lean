/- No conditions. -/
import Derived.Test.YtkjhfefbklcciaaGreatDoorX33
import Derived.Test.YtkjhfefbklcciaaGreatDoorX25
set_option linter.unusedVariables false
set_option linter.unusedSimpArgs false
namespace Go.Proofs.YtkjhfefbklcciaaGreatDoor.Em
open Go
section
variable {P:Program} {G:List (List EV)} {ro:Option Nat} {I0:Imm} {ρ0:Ren} {w0:World} {Q:Exit->Act->World->Prop}
theorem OKs.nil{s:St}(h:∀a w,SimX P G I0 ρ0 w0 s a w->Q .normal a w):OKs P G ro I0 ρ0 w0 Q [] s:=fun Φ hΦ a w hs=>by
 cases hΦ
 exact h a w hs
theorem OKs.rf{x:Operand}{ps:List Nat}{asg body:EC}{k:List KI}{t:List EV}{h:EH}{gf:FuncId}{av bv:List EV}{R:EV->EH->Prop}(hx:Bm G t x = .fn (.func gf) av bv)(hgood:BU P gf=true)
  (htri:Tri P G gf (av++(.yl (Bd h)::bv)) (Bx h (.lp t ps asg body 0 none)) R)
  (hR:∀v h',R v h'->∃t' ps' a' b' st pd,Bh h' (Bd h) = .lp t' ps' a' b' st pd/\st≠1/\
   match pd with
   |none=>OKs P G none I0 ρ0 w0 Q k ⟨t,Br h' (Bd h) .dead⟩
   |some none=>∀a w,SimX P G I0 ρ0 w0 ⟨t,Br h' (Bd h) .dead⟩ a w->Q .ret a w
   |some (some e)=>∃k',BQ e k=some k'/\OKs P G none I0 ρ0 w0 Q k' ⟨t,Br h' (Bd h) .dead⟩) :
  OKs P G none I0 ρ0 w0 Q (.c (.rf x ps asg body)::k) ⟨t,h⟩:=fun Φ hΦ a w hs=>by
 cases hΦ with
 |c hc hk=>
  rename_i c Φ;show c.wpIn (FR none) 0 P Φ a w;rcases Ev hc with ⟨h1,_⟩|⟨id,ops,draw,l,_,h1⟩|⟨a1,b1,x,y,_,h1,_⟩|⟨o,a1,b1,x,y,_,h1,_⟩|⟨id,a1,x,_,h1,_⟩|⟨a1,x,_,h1,_⟩|⟨id,_,h1⟩|⟨_,h1⟩|⟨x,ps,a1,b1,ea,eb,rfl,h1,ha,hb⟩|⟨_,_,_,_,h1,_⟩
  all_goals (try (cases h1;done))
  cases h1;refine P6 hs ha hb hx hgood htri fun v h' hv=>?_
  obtain⟨t',ps',a',b',st,pd,q1,q2,q3⟩:=hR v h' hv;refine⟨t',ps',a',b',st,pd,q1,q2,fun act w' hs'=>?_⟩
  rcases pd with _|_|e
  ·exact q3 Φ hk act w' hs'
  ·exact hk.ret (q3 act w' hs')
  ·obtain⟨k',hu,hk2⟩:=q3
   obtain⟨Φ',h1,h2⟩:=hk.exit hu;exact h2 act w' (hk2 Φ' h1 act w' hs')
end
end Go.Proofs.YtkjhfefbklcciaaGreatDoor.Em
