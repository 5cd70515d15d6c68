/- No conditions. -/
import Derived.Test.YtkjhfefbklcciaaGreatDoorX24
set_option linter.unusedVariables false
set_option linter.unusedSimpArgs false
namespace Go.Proofs.YtkjhfefbklcciaaGreatDoor.Em
open Go
def Up(v v':EV):Prop:=∀(w:World) (I:Imm) (ρ:Ren) (cv:Value),Rep w I ρ v cv->Rep w I ρ v' cv
theorem Up.refl(v:EV):Up v v:=fun _ _ _ _ h=>h
theorem Up.trans{a b c:EV}(h:Up a b)(k:Up b c):Up a c:=fun w I ρ cv x=>k w I ρ cv (h w I ρ cv x)
theorem Up.nil(c:List EV):Up (.lit (.slice none 0 0)) (.isl 0 none c):=fun w I ρ cv h=>by cases h;exact .isln _ _
theorem Up.cap(n:Nat)(cap:Option Nat)(c:List EV):Up (.isl n cap c) (.isl n none c):=fun w I ρ cv h=>by
 cases h with
 |isln=>exact .isln _ _
 |isl _ _ _ _ a k vs hc hs hf hr=>exact .isl _ n none c a k vs ⟨hc.1,fun m hm=>by cases hm⟩ hs hf hr
theorem Up.tup{l m:List EV}(h:l.length=m.length)(k:∀(j:Nat) (x y:EV),l[j]?=some x->m[j]?=some y->Up x y):Up (.tup l) (.tup m):=fun w I ρ cv hr=>by
 cases hr with
 |tup _ _ vs hl hc=>
  refine .tup _ m vs (h▸hl) fun j e v he hv=>?_
  have hj:j<l.length:=by rw[h];exact(List.getElem?_eq_some_iff.1 he).1
  exact k j l[j] e (lE hj) he w I ρ v (hc j l[j] v (lE hj) hv)
theorem Up.tup2{a b a' b':EV}(h:Up a a')(k:Up b b'):Up (.tup [a,b]) (.tup [a',b']):=Up.tup rfl fun j x y hx hy=>by
 match j,hx,hy with
 |0,hx,hy=>simp at hx hy;subst hx;subst hy;exact h
 |1,hx,hy=>simp at hx hy;subst hx;subst hy;exact k
 |j+2,hx,hy=>simp at hx
section
variable {P:Program} {G:List (List EV)} {ro:Option Nat} {I0:Imm} {ρ0:Ren} {w0:World} {Q:Exit->Act->World->Prop}
theorem Tri.up{f:FuncId}{args:List EV}{h:EH}{R R':EV->EH->Prop}(t:Tri P G f args h R)(k:∀v h',R v h'->∃v',R' v' h'/\Up v v'):Tri P G f args h R':=
 fun I ρ w cargs a b c d=>(t I ρ w cargs a b c d).mono fun e w' ⟨v,cv,h',I',ρ1,q1,q2,q3,q4,q5,q6,q7⟩=>by
  obtain⟨v',k1,k2⟩:=k v h' q2;exact⟨v',cv,h',I',ρ1,q1,k1,q3,q4,q5,k2 _ _ _ _ q6,q7⟩
theorem OKs.up{k:List KI}{s:St}(i:Nat)(v:EV)(hv:Up (Bo s.t i) v)(h:OKs P G ro I0 ρ0 w0 Q k ⟨Bs s.t i v,s.h⟩):OKs P G ro I0 ρ0 w0 Q k s:=
 fun Φ hk a w hs=>h Φ hk a w (by
  obtain⟨I,ρ1,h1,h2,h3,h4,h5,h6,h7⟩:=hs;refine⟨I,ρ1,h1,h2,h3,?_,h5,h6,h7⟩
  have key:∀{t:List EV} {us:List Value} (i:Nat),RepL w I (ρ0++ρ1) t us->Up (Bo t i) v->RepL w I (ρ0++ρ1) (Bs t i v) us:=by
   intro t
   induction t with
   |nil=>intro us i hr _;exact hr
   |cons x t ih=>
    intro us i hr hu;cases us with
    |nil=>exact hr.elim
    |cons u us=>
     cases i with
     |zero=>exact⟨hu _ _ _ _ hr.1,hr.2⟩
     |succ i=>exact⟨hr.1,ih i hr.2 hu⟩
  exact key i h4 hv)
def isB(l:List Nat):EV:=.isl l.length none (Bj l)
theorem Up.sb(b:Bool):Up (.lit (.bool b)) (.sb b):=fun w I ρ cv h=>by cases h;exact .sb _ _
end
end Go.Proofs.YtkjhfefbklcciaaGreatDoor.Em
