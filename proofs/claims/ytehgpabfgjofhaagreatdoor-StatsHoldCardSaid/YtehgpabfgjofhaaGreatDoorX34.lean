/- No conditions. -/
import Derived.Test.YtehgpabfgjofhaaGreatDoorX33
import Derived.Test.YtehgpabfgjofhaaGreatDoorX25
set_option linter.unusedVariables false
set_option linter.unusedSimpArgs false
namespace Go.Proofs.YtehgpabfgjofhaaGreatDoor.Em
open Go
section
variable {P:Program} {G:List (List EV)} {ro:Option Nat} {I0:Imm} {ρ0:Ren} {w0:World} {Q:Exit->Act->World->Prop}
theorem OKs.nil{s:St}(h:∀a w,SimX P G I0 ρ0 w0 s a w->Q .normal a w):OKs P G ro I0 ρ0 w0 Q [] s:=fun Φ hΦ a w hs=>by
 cases hΦ
 exact h a w hs
theorem OKs.retO{k:List KI}{s:St}(h:∀a w,SimX P G I0 ρ0 w0 s a w->Q .ret a w):OKs P G ro I0 ρ0 w0 Q (.c .ret::k) s:=fun Φ hΦ a w hs=>by
 cases hΦ with
 |c hc hk=>
  rename_i c Φ;show c.wpIn (FR ro) 0 P Φ a w;rcases Gv hc with ⟨h1,_⟩|⟨id,ops,draw,l,_,h1⟩|⟨a1,b1,x,y,_,h1,_⟩|⟨o,a1,b1,x,y,_,h1,_⟩|⟨id,a1,x,_,h1,_⟩|⟨a1,x,_,h1,_⟩|⟨id,_,h1⟩|⟨rfl,_⟩|⟨_,_,_,_,_,_,_,h1,_⟩|⟨_,_,_,_,h1,_⟩
  all_goals (try (cases h1;done))
  exact wpIn_ret (hk.ret (h a w hs))
theorem OKs.cut{ec:EC}{k:List KI}{s:St}(R:St->Prop)(h1:OKs P G ro I0 ρ0 w0 Q (.c ec :: .mark R::k) s)(h2:∀s',R s'->OKs P G ro I0 ρ0 w0 Q k s') :
  OKs P G ro I0 ρ0 w0 Q (.c ec::k) s:=fun Φ hΦ a w hs=>by
 cases hΦ with
 |c hc hk=>
  rename_i c Φ;show c.wpIn (FR ro) 0 P Φ a w;have:=h1 _ (KW.c hc (KW.mark hk)) a w hs;have this:c.wpIn (FR ro) 0 P (Exit.then (fun a w=>∃st,SimX P G I0 ρ0 w0 st a w/\R st) Φ) a w:=this
  refine Go.wpIn_mono this fun e a' w' hh=>?_
  cases e with
  |normal=>obtain⟨st,q1,q2⟩:=hh;exact h2 st q2 Φ hk a' w' q1
  |_=>exact hh
theorem OKs.rf{x:Operand}{ps:List Nat}{asg body:EC}{k:List KI}{t:List EV}{h:EH}{gf:FuncId}{av bv:List EV}{R:EV->EH->Prop}(hx:Bu G t x = .fn (.func gf) av bv)(hgood:CG P gf=true)
  (htri:Tri P G gf (av++(.yl (Bc h)::bv)) (B0 h (.lp t ps asg body 0 none)) R)
  (hR:∀v h',R v h'->∃t' ps' a' b' st pd,Bh h' (Bc h) = .lp t' ps' a' b' st pd/\st≠1/\
   match pd with
   |none=>OKs P G none I0 ρ0 w0 Q k ⟨t,BG h' (Bc h) .dead⟩
   |some none=>∀a w,SimX P G I0 ρ0 w0 ⟨t,BG h' (Bc h) .dead⟩ a w->Q .ret a w
   |some (some e)=>∃k',Cw e k=some k'/\OKs P G none I0 ρ0 w0 Q k' ⟨t,BG h' (Bc h) .dead⟩) :
  OKs P G none I0 ρ0 w0 Q (.c (.rf x ps asg body)::k) ⟨t,h⟩:=fun Φ hΦ a w hs=>by
 cases hΦ with
 |c hc hk=>
  rename_i c Φ;show c.wpIn (FR none) 0 P Φ a w;rcases Gv hc with ⟨h1,_⟩|⟨id,ops,draw,l,_,h1⟩|⟨a1,b1,x,y,_,h1,_⟩|⟨o,a1,b1,x,y,_,h1,_⟩|⟨id,a1,x,_,h1,_⟩|⟨a1,x,_,h1,_⟩|⟨id,_,h1⟩|⟨_,h1⟩|⟨x,ps,a1,b1,ea,eb,rfl,h1,ha,hb⟩|⟨_,_,_,_,h1,_⟩
  all_goals (try (cases h1;done))
  cases h1;refine T8 hs ha hb hx hgood htri fun v h' hv=>?_
  obtain⟨t',ps',a',b',st,pd,q1,q2,q3⟩:=hR v h' hv;refine⟨t',ps',a',b',st,pd,q1,q2,fun act w' hs'=>?_⟩
  rcases pd with _|_|e
  ·exact q3 Φ hk act w' hs'
  ·exact hk.ret (q3 act w' hs')
  ·obtain⟨k',hu,hk2⟩:=q3
   obtain⟨Φ',h1,h2⟩:=hk.exit hu;exact h2 act w' (hk2 Φ' h1 act w' hs')
end
end Go.Proofs.YtehgpabfgjofhaaGreatDoor.Em
