/- No conditions. -/
import Derived.Test.YtkjhfefbklcciaaGreatDoorX12
import Derived.OrdersIn
import Derived.TacticsIn
import Derived.RangeFuncCalls
import Derived.RangeFuncNested
set_option linter.unusedVariables false
set_option linter.unusedSimpArgs false
namespace Go.Proofs.YtkjhfefbklcciaaGreatDoor.Em
open Go
structure Imm.le (I I':Imm):Prop where
 k:∀b,I.k b->I'.k b
 j:∀b,I.j b->I'.j b
 new:∀b,I'.j b->I.j b\/¬I.k b
 P:I'.P=I.P
theorem Imm.le.refl(I:Imm):Imm.le I I:=⟨fun _ h=>h,fun _ h=>h,fun _ h=>.inl h,rfl⟩
theorem Imm.le.trans{I J K:Imm}(h:Imm.le I J)(g:Imm.le J K):Imm.le I K:=
 ⟨fun b x=>g.k b (h.k b x),fun b x=>g.j b (h.j b x),fun b x=>by
  rcases g.new b x with h1|h1
  ·exact h.new b h1
  ·exact .inr fun hk=>h1 (h.k b hk),g.P.trans h.P⟩
def GlobP(P:Program)(w:World)(I:Imm)(G:List (List EV)):Prop:=Glob w I G/\I.P=P
def FR(ro:Option Nat):Fence:={ Fence.wide with round:=ro }
theorem Nc{ro:Option Nat}{n:Nat}{P:Program}{f:FuncId}{args:Array Value}{w:World}{R:Ending->World->Prop}(h:Calls P f args w R):CallsIn (FR ro) n P f args w R:=
 (callsIn_wide (n:=n)).2 h
def Tri(P:Program)(G:List (List EV))(f:FuncId)(args:List EV)(h:EH)(R:EV->EH->Prop):Prop:=
 ∀(I:Imm) (ρ:Ren) (w:World) (cargs:Array Value),(∀b,I b->b<w.heap.size)->HSim I w ρ h->RepL w I ρ args cargs.toList->GlobP P w I G->
  Calls P f cargs w fun e w'=>∃v cv h' I' ρ1,e = .returned cv/\R v h'/\Imm.le I I'/\(∀b,I' b->b<w'.heap.size)/\HSim I' w' (ρ++ρ1) h'/\
   Rep w' I' (ρ++ρ1) v cv/\Keep I w w'
theorem Tri.mono{P:Program}{G:List (List EV)}{f:FuncId}{args:List EV}{h:EH}{R R':EV->EH->Prop}(t:Tri P G f args h R)(k:∀v h',R v h'->R' v h'):Tri P G f args h R':=
 fun I ρ w cargs a b c d=>(t I ρ w cargs a b c d).mono fun e w' ⟨v,cv,h',I',ρ1,q1,q2,q3⟩=>⟨v,cv,h',I',ρ1,q1,k v h' q2,q3⟩
def TriY(P:Program)(G:List (List EV))(id:Nat)(args:List EV)(h:EH)(R:EV->EH->Prop):Prop:=
 (∃t ps asg body st pd,Bh h id = .lp t ps asg body st pd)/\
 ∀(I:Imm) (ρ:Ren) (w:World) (cargs:Array Value),(∀b,I b->b<w.heap.size)->HSim I w ρ h->RepL w I ρ args cargs.toList->GlobP P w I G->
  ∀(ro:Option Nat) (l:Nat) (r:Loop),ρ[id]?=some (l,0)->w.heap[l]?=some (.loop r)->cargs.size=r.params.size/\
   RoundIn (FR ro) 0 P l r.fn ((r.params.zip cargs).foldl (fun tmps (t,a)=>tmps.setIfInBounds t a) r.tmps) r.assign r.body w
    fun e w'=>∃v cv h' I' ρ1,e = .returned cv/\R v h'/\Imm.le I I'/\(∀b,I' b->b<w'.heap.size)/\HSim I' w' (ρ++ρ1) h'/\Rep w' I' (ρ++ρ1) v cv/\Keep I w w'
theorem TriY.mono{P:Program}{G:List (List EV)}{id:Nat}{args:List EV}{h:EH}{R R':EV->EH->Prop}(t:TriY P G id args h R)(k:∀v h',R v h'->R' v h'):TriY P G id args h R':=
 ⟨t.1,fun I ρ w cargs a b c d ro l r e f=>⟨(t.2 I ρ w cargs a b c d ro l r e f).1,(t.2 I ρ w cargs a b c d ro l r e f).2.mono fun e w' ⟨v,cv,h',I',ρ1,q1,q2,q3⟩=>⟨v,cv,h',I',ρ1,q1,k v h' q2,q3⟩⟩⟩
theorem TriY.loop{P:Program}{G:List (List EV)}{id:Nat}{args:List EV}{h:EH}{R:EV->EH->Prop}{I:Imm}{w:World}{ρ:Ren}{l:Nat}(t:TriY P G id args h R)(hs:HSim I w ρ h)(hl:ρ[id]?=some (l,0)) :
  ∃r,w.heap[l]?=some (.loop r):=by
 obtain⟨⟨t,ps,asg,body,st,pd,hg⟩,_⟩:=t
 have:=hs.live id
 rw[hg]at this
 obtain⟨b,r,h1,_,h3,_⟩:=this
 rw[hl]at h1;cases h1
 exact⟨r,h3⟩
def CallOK(P:Program)(G:List (List EV))(f:FuncId)(args:List EV)(h:EH)(R:EV->EH->Prop):Prop:=
 (BU P f=true/\Tri P G f args h R)\/∃id as,f=Cj/\args = .yl id::as/\TriY P G id as h R
theorem CallOK.mono{P:Program}{G:List (List EV)}{f:FuncId}{args:List EV}{h:EH}{R R':EV->EH->Prop}(t:CallOK P G f args h R)(k:∀v h',R v h'->R' v h'):CallOK P G f args h R':=
 t.imp (fun x=>⟨x.1,x.2.mono k⟩) fun⟨id,as,h1,h2,h3⟩=>⟨id,as,h1,h2,h3.mono k⟩
def Marks(I0 I:Imm)(w:World):List Deferred->Prop
 |[]=>True
 |d::l=>(∃b,d.target = .collected b/\I.k b/\¬I.j b/\¬I0.k b/\w.heap[b]?=some (.deferred (some []))/\∀d'∈l,d'.target≠ .collected b)/\Marks I0 I w l
theorem Marks.keep{I0 I I':Imm}{w w':World}(hk:Keep I w w')(hle:Imm.le I I'):∀{l:List Deferred},Marks I0 I w l->Marks I0 I' w' l
 |[],_=>trivial
 |d::l,⟨⟨b,h1,h2,h3,h4,h5,h6⟩,h7⟩=>⟨⟨b,h1,hle.k b h2,fun hj=>by
   rcases hle.new b hj with hj|hj
   ·exact h3 hj
   ·exact hj h2,h4,by rw[hk.same b h2];exact h5,h6⟩,Marks.keep hk hle h7⟩
theorem Marks.mem{I0 I:Imm}{w:World}:∀{l:List Deferred},Marks I0 I w l->∀d∈l,∃b,d.target = .collected b/\I.k b/\¬I.j b/\¬I0.k b/\w.heap[b]?=some (.deferred (some []))
 |[],_,d,hd=>by cases hd
 |x::l,⟨⟨b,h1,h2,h3,h4,h5,_⟩,h7⟩,d,hd=>by
  rcases List.mem_cons.1 hd with rfl|hd
  ·exact⟨b,h1,h2,h3,h4,h5⟩
  ·exact Marks.mem h7 d hd
theorem Marks.base{I0 I:Imm}{w:World}{l:List Deferred}(hm:Marks I0 I w l)(hle:Imm.le I0 I) :
  ∃J:Imm,Imm.le I0 J/\Imm.le J I/\Marks J I w l/\(∀b,I.k b->¬J.k b->w.heap[b]?=some (.deferred (some [])))/\(∀b,I.j b->J.j b)/\(∀b,J.k b->∀d∈l,d.target≠ .collected b)/\J.D=I0.D:=by
 have hmem:=hm.mem
 let J:Imm:=⟨fun b=>I.k b/\∀d∈l,d.target≠ .collected b,I.j,fun b hb=>⟨I.sub b hb,fun d hd e=>by
  obtain⟨b',h1,_,h3,_⟩:=hmem d hd;rw[h1]at e;cases e;exact h3 hb⟩,I.P,I0.D⟩
 refine⟨J,⟨fun b hb=>⟨hle.k b hb,fun d hd e=>?_⟩,hle.j,hle.new,hle.P⟩,⟨fun b hb=>hb.1,fun b hb=>hb,fun b hb=>.inl hb,rfl⟩,?_,fun b hb hn=>?_,fun b hb=>hb,fun b hb=>hb.2,rfl⟩
 ·obtain⟨b',h1,_,_,h4,_⟩:=hmem d hd
  rw[h1]at e;cases e;exact h4 hb
 ·have key:∀l':List Deferred,(∀d∈l',d∈l)->Marks I0 I w l'->Marks J I w l':=by
   intro l'
   induction l' with
   |nil=>intro _ _;trivial
   |cons d l' ih=>
    rintro hs ⟨⟨b,h1,h2,h3,h4,h5,h6⟩,h7⟩;exact⟨⟨b,h1,h2,h3,fun hj=>hj.2 d (hs d (by simp)) h1,h5,h6⟩,ih (fun x hx=>hs x (by simp[hx])) h7⟩
  exact key l (fun _ h=>h) hm
 ·have:∃d∈l,d.target = .collected b:=Classical.byContradiction fun hx=>hn ⟨hb,fun d hd e=>hx ⟨d,hd,e⟩⟩
  obtain⟨d,hd,e⟩:=this;obtain⟨b',h1,_,_,_,h5⟩:=hmem d hd;rw[h1]at e;cases e;exact h5
theorem Marks.sub{I0 J I:Imm}{w:World}(h:∀b,I0.k b->J.k b):∀{l:List Deferred},Marks J I w l->Marks I0 I w l
 |[],_=>trivial
 |d::l,⟨⟨b,h1,h2,h3,h4,h5,h6⟩,h7⟩=>⟨⟨b,h1,h2,h3,fun hk=>h4 (h b hk),h5,h6⟩,Marks.sub h h7⟩
def MarksD(I0 I:Imm)(w:World)(l:List Deferred):Prop:=∃ms,l=ms++I0.D/\Marks I0 I w ms
theorem MarksD.keep{I0 I I':Imm}{w w':World}{l:List Deferred}(h:MarksD I0 I w l)(hk:Keep I w w')(hle:Imm.le I I'):MarksD I0 I' w' l:=
 let ⟨ms,h1,h2⟩:=h;⟨ms,h1,h2.keep hk hle⟩
theorem GlobP.keep{P:Program}{G:List (List EV)}{I I':Imm}{w w':World}(h:GlobP P w I G)(k:Keep I w w')(hle:Imm.le I I'):GlobP P w' I' G:=
 ⟨fun g c hg ρ=>((h.1 g c hg ρ).keep k).imm hle.j,hle.P.trans h.2⟩
def SimX(P:Program)(G:List (List EV))(I0:Imm)(ρ0:Ren)(w0:World)(st:St)(a:Act)(w:World):Prop:=
 ∃I ρ1,Imm.le I0 I/\(∀b,I b->b<w.heap.size)/\HSim I w (ρ0++ρ1) st.h/\RepL w I (ρ0++ρ1) st.t a.tmps.toList/\MarksD I0 I w a.defers/\Keep I0 w0 w/\GlobP P w I G
def Imm.bare(I:Imm):Imm:=⟨I.k,I.j,I.sub,I.P,[]⟩
theorem Imm.le.bare(I:Imm):Imm.le I.bare I:=⟨fun _ h=>h,fun _ h=>h,fun _ h=>.inl h,rfl⟩
theorem Imm.le.unbare{I I':Imm}(h:Imm.le I.bare I'):Imm.le I I':=⟨h.k,h.j,h.new,h.P⟩
theorem Keep.unbare{I:Imm}{w w':World}(h:Keep I.bare w w'):Keep I w w':=⟨h.os,h.tape,h.output,h.size,h.same,h.shp⟩
theorem JH{w:World}{I:Imm}{ρ:Ren}{e:EV}{v:Value}(hr:Rep w I ρ e v):∀{t:List EV} {us:List Value} (d:Nat),RepL w I ρ t us->RepL w I ρ (Bs t d e) (us.set d v)
 |[],[],_,_=>trivial
 |_::_,_::_,0,h=>⟨hr,h.2⟩
 |_::_,_::_,d+1,h=>⟨h.1,JH hr d h.2⟩
theorem GK{w:World}{I:Imm}{ρ:Ren}{e:EV}{v:Value}{t:List EV}{a:Act}(dst:Option Nat)(hr:Rep w I ρ e v)(ht:RepL w I ρ t a.tmps.toList) :
  RepL w I ρ (Bl t dst e) (a.put dst v).tmps.toList:=by
 cases dst with
 |none=>exact ht
 |some d=>simpa[Bl,Act.put]using JH hr d ht
theorem G4(a:Act)(dst:Option Nat)(v:Value):(a.put dst v).defers=a.defers:=by cases dst<;>rfl
theorem HO:∀(t:List EV) (g:Nat) (e:EV),Bo t g≠Bt\/g<t.length->Bo (Bs t g e) g=e
 |[],g,e,h=>by simp[Bo]at h
 |_::_,0,e,_=>rfl
 |x::t,g+1,e,h=>HO t g e (by simpa[Bo]using h)
section
variable (P:Program) (G:List (List EV))
def SeqOK : List EOp → St → (St → Prop) → Prop
  | [], st, K => K st
  | o :: l, st, K =>
    let go (t : List EV) : Prop := SROK (fun v h' => SeqOK l ⟨Bl t o.dst v, h'⟩ K) (fun f args => CallOK P G f args st.h fun v h' => SeqOK l ⟨Bl t o.dst v, h'⟩ K) (Bp stdA G t st.h o.i)
    let skip (t : List EV) : Prop := SeqOK l ⟨Bl t o.dst Bt, st.h⟩ K
    match o.guard with
    | none => go st.t
    | some (g, want) => match Bo st.t g with
      | .lit (.bool b) => if b == want then go st.t else skip st.t
      | .lit (.tuple _) => skip st.t
      | .sb b => (b = true → if true == want then go (Bs st.t g (.lit (.bool true))) else skip (Bs st.t g (.lit (.bool true)))) ∧
                 (b = false → if false == want then go (Bs st.t g (.lit (.bool false))) else skip (Bs st.t g (.lit (.bool false))))
      | _ => False
end
section
variable {P:Program} {G:List (List EV)} {I0:Imm} {ρ0:Ren} {w0:World} {ro:Option Nat}
theorem SROK.mono{post post':EV->EH->Prop}{pc pc':FuncId->List EV->Prop}(h1:∀v h,post v h->post' v h)(h2:∀f l,pc f l->pc' f l):∀{r:SR},SROK post pc r->SROK post' pc' r
 | .stuck,h=>h
 | .ret _ _,h=>h1 _ _ h
 | .need _ r,h=>⟨h.1,SROK.mono h1 h2 h.2⟩
 | .look ..,⟨cs,v,q1,q2,q3,q4⟩=>⟨cs,v,q1,q2,q3,h1 _ _ q4⟩
 | .br ..,h=>⟨fun hb=>h1 _ _ (h.1 hb),fun hb=>h1 _ _ (h.2 hb)⟩
 | .opt ..,h=>⟨fun hn=>h1 _ _ (h.1 hn),fun x hx=>h1 _ _ (h.2 x hx)⟩
 | .call _ _,h=>h2 _ _ h
 | .same ..,h=>⟨h.1,h1 _ _ h.2⟩
 | .lookS ..,h=>⟨h.1,h1 _ _ h.2⟩
theorem SeqOK.mono{K K':St->Prop}(hK:∀s,K s->K' s):∀(l:List EOp) (st:St),SeqOK P G l st K->SeqOK P G l st K'
 |[],st,h=>hK st h
 |o::l,st,h=>by
  have ih:=SeqOK.mono hK l
  have go:∀t,SROK (fun v h'=>SeqOK P G l ⟨Bl t o.dst v,h'⟩ K) (fun f args=>CallOK P G f args st.h fun v h'=>SeqOK P G l ⟨Bl t o.dst v,h'⟩ K) (Bp stdA G t st.h o.i)->
    SROK (fun v h'=>SeqOK P G l ⟨Bl t o.dst v,h'⟩ K') (fun f args=>CallOK P G f args st.h fun v h'=>SeqOK P G l ⟨Bl t o.dst v,h'⟩ K') (Bp stdA G t st.h o.i):=
   fun t ht=>ht.mono (fun v h' hh=>ih _ hh) (fun f args hh=>hh.mono fun v h' hx=>ih _ hx)
  have both:∀(t:List EV) (b want:Bool),
    (if b==want then SROK (fun v h'=>SeqOK P G l ⟨Bl t o.dst v,h'⟩ K) (fun f args=>CallOK P G f args st.h fun v h'=>SeqOK P G l ⟨Bl t o.dst v,h'⟩ K) (Bp stdA G t st.h o.i)
     else SeqOK P G l ⟨Bl t o.dst Bt,st.h⟩ K)->
    (if b==want then SROK (fun v h'=>SeqOK P G l ⟨Bl t o.dst v,h'⟩ K') (fun f args=>CallOK P G f args st.h fun v h'=>SeqOK P G l ⟨Bl t o.dst v,h'⟩ K') (Bp stdA G t st.h o.i)
     else SeqOK P G l ⟨Bl t o.dst Bt,st.h⟩ K'):=by
   intro t b want hh
   by_cases hb:(b==want)=true
   ·rw[if_pos hb]at hh ⊢;exact go t hh
   ·rw[if_neg hb]at hh ⊢;exact ih _ hh
  cases hg:o.guard with
  |none=>simp only[SeqOK,hg]at h ⊢;exact go _ h
  |some p=>
   obtain⟨g,want⟩:=p;simp only[SeqOK,hg]at h ⊢;generalize Bo st.t g=e at h ⊢;split at h
   ·exact both _ _ want h
   ·exact ih _ h
   ·exact⟨fun hbt=>both _ true want (h.1 hbt),fun hbf=>both _ false want (h.2 hbf)⟩
   ·exact h.elim
theorem SimX.drew{st:St}{a:Act}{w:World}(h:SimX P G I0 ρ0 w0 st a w):SimX P G I0 ρ0 w0 st a { w with drawn:=w.drawn+1 }:=by
 obtain⟨I,ρ1,h1,h2,h3,h4,h5,h6,h7⟩:=h
 have hk:=Keep.drew I w
 exact⟨I,ρ1,h1,h2,h3.drew,h4.map fun _ _ r=>r.keep hk,h5.keep hk (Imm.le.refl I),h6.trans (hk.mono h1.k),h7.keep hk (Imm.le.refl I)⟩
theorem Jm{o:Oper}{ei:EI}{t:List EV}{h:EH}{a:Act}{w:World}{next:Act->World->Prop}{Q:Exit->Act->World->Prop}(hc:CT P o.op=some ei\/ei = .bad)
  (hs:SimX P G I0 ρ0 w0 ⟨t,h⟩ a w) {post:EV->EH->Prop} {pc:EV->EH->Prop}
  (ok:SROK post (fun f args=>CallOK P G f args h pc) (Bp stdA G t h ei))
  (hpost:∀v h',post v h'->∀a' w',SimX P G I0 ρ0 w0 ⟨Bl t o.dst v,h'⟩ a' w'->next a' w') (hpc:∀v h',pc v h'->∀a' w',SimX P G I0 ρ0 w0 ⟨Bl t o.dst v,h'⟩ a' w'->next a' w') :
  o.wpIn (FR ro) 0 P a w next Q:=by
 obtain⟨I,ρ1,h1,h2,h3,h4,h5,h6,h7⟩:=hs
 rcases hc with hc|hc
 rotate_left
 ·subst hc;exact ok.elim
 have hres:=U6 (P:=P) (o:=o) (a:=a) hc h7.1 h4 h3 h2 (fun f args hh=>hh.imp (fun x=>x.1) fun⟨id,as,e,_⟩=>e) ok
 have hsem:o.semAt ro a.eval=execOp a.eval o:=Oper.semAt_eq ro a.eval o (fun c h=>by rw[h]at hc;simp[CT]at hc)
 refine⟨fun _ _=>trivial,?_⟩
 show o.uponIn (FR ro) 0 P a next Q ((o.semAt ro a.eval).run P w)
 rw[hsem]
 rcases hres with ⟨v,v',h',w',ρ',hx,hp,hk,hsim,hrep⟩|⟨f,args,args',hx,hnr,hcall,hra⟩|⟨id,as,u,us,hyl,hra,hcall,hx⟩
 ·have hnext:next (a.put o.dst v') w':=by
   refine hpost v h' hp _ _ ⟨I,ρ1++ρ',h1,fun b hb=>Nat.lt_of_lt_of_le (h2 b hb) hk.size,?_,?_,by rw[G4];exact h5.keep hk (Imm.le.refl I),h6.trans (hk.mono h1.k),h7.keep hk (Imm.le.refl I)⟩
   ·rw[<-lA];exact hsim
   ·rw[<-lA]
    exact GK _ hrep (h4.map fun _ _ r=>(r.keep hk).ext ρ')
  rcases hx with hx|⟨hx,hu⟩
  ·rw[hx];exact hnext
  ·rw[hx]
   rw[hu]at hnext;exact hnext
 ·obtain⟨hg,htri⟩:=hcall.resolve_right fun⟨_,_,e,_⟩=>hnr e
  rw[hx];refine⟨fun h=>by simp[FR,Fence.wide]at h,Nc (Calls.mono (htri I _ w args' h2 h3 hra h7) fun e w' ⟨v,cv,h',I',ρ2,e1,hR,q1,q2,q3,q4,q5⟩=>?_)⟩
  subst e1;refine hpc v h' hR _ _ ⟨I',ρ1++ρ2,h1.trans q1,q2,?_,?_,by rw[G4];exact h5.keep q5 q1,h6.trans (q5.mono h1.k),h7.keep q5 q1⟩
  ·rw[<-lA];exact q3
  ·rw[<-lA]
   exact GK _ q4 (h4.map fun _ _ r=>((r.keep q5).imm q1.j).ext ρ2)
 ·obtain⟨id',as',_,e1,htri⟩:=hcall.resolve_left fun⟨hg,_⟩=>by rw[Ke]at hg;cases hg
  cases e1;cases hyl with
  |yl _ _ l hl=>
   obtain⟨r,hr⟩:=htri.loop h3 hl;obtain⟨hsz,hround⟩:=htri.2 I _ w us h2 h3 hra h7 ro l r hl hr;rw[hx l r rfl hr hsz];refine⟨fun h=>by simp[FR,Fence.wide]at h,hround.mono fun e w' ⟨v,cv,h',I',ρ2,e1,hR,q1,q2,q3,q4,q5⟩=>?_⟩
   subst e1;refine hpc v h' hR _ _ ⟨I',ρ1++ρ2,h1.trans q1,q2,?_,?_,by rw[G4];exact h5.keep q5 q1,h6.trans (q5.mono h1.k),h7.keep q5 q1⟩
   ·rw[<-lA];exact q3
   ·rw[<-lA]
    exact GK _ q4 (h4.map fun _ _ r=>((r.keep q5).imm q1.j).ext ρ2)
theorem JJ{t:List EV}{h:EH}{a:Act}{w:World}(dst:Option Nat)(hs:SimX P G I0 ρ0 w0 ⟨t,h⟩ a w):SimX P G I0 ρ0 w0 ⟨Bl t dst Bt,h⟩ (a.put dst undef) w:=by
 obtain⟨I,ρ1,h1,h2,h3,h4,h5,h6,h7⟩:=hs
 exact⟨I,ρ1,h1,h2,h3,GK _ (.lit _ _) h4,by rw[G4];exact h5,h6,h7⟩
theorem SimX.lit{t:List EV}{h:EH}{a:Act}{w:World}{g:Nat}{b:Bool}(hs:SimX P G I0 ρ0 w0 ⟨t,h⟩ a w)(hg:Bo t g = .sb b):SimX P G I0 ρ0 w0 ⟨Bs t g (.lit (.bool b)),h⟩ a w:=by
 obtain⟨I,ρ1,h1,h2,h3,h4,h5,h6,h7⟩:=hs
 refine⟨I,ρ1,h1,h2,h3,?_,h5,h6,h7⟩
 have:∀{t:List EV} {us:List Value} (g:Nat),RepL w I (ρ0++ρ1) t us->Bo t g = .sb b->RepL w I (ρ0++ρ1) (Bs t g (.lit (.bool b))) us:=by
  intro t
  induction t with
  |nil=>intro us g hr hg;simp[Bo,Bt]at hg
  |cons x t ih=>
   intro us g hr hg;cases us with
   |nil=>exact hr.elim
   |cons u us=>
    cases g with
    |zero=>
     simp[Bo]at hg;subst hg
     have key:∀u,Rep w I (ρ0++ρ1) (.sb b) u->Rep w I (ρ0++ρ1) (.lit (.bool b)) u:=by
      intro u hu;cases hu;exact .lit _ _
     exact⟨key u hr.1,hr.2⟩
    |succ g=>exact⟨hr.1,ih g hr.2 hg⟩
 exact this g h4 hg
theorem Ep{all:Array Oper}{o:Oper}{eo:EOp}{t:List EV}{h:EH}{a:Act}{w:World}(hc:DD P all o=some eo)(hs:SimX P G I0 ρ0 w0 ⟨t,h⟩ a w) :
  (CT P o.op=some eo.i\/eo.i = .bad)/\eo.dst=o.dst/\
   (eo.guard=none->Region.wanted o (yielded all a.tmps)=true)/\
   (∀g want c,eo.guard=some (g,want)->gdE (Bo t g)=some c->Region.wanted o (yielded all a.tmps)=(c==some want)):=by
 have hi:CT P o.op=some ((CT P o.op).getD .bad)\/(CT P o.op).getD .bad = .bad:=by cases CT P o.op<;>simp
 unfold DD at hc
 split at hc
 ·rename_i hg;cases hc
  exact⟨hi,rfl,fun _=>by simp[Region.wanted,hg],fun g want b hh=>by cases hh⟩
 ·rename_i j want hg
  split at hc
  ·rename_i g hd;cases hc
   refine⟨hi,rfl,fun hh=>(by cases hh),fun g' want' c hh hb=>?_⟩
   cases hh;obtain⟨I,ρ1,h1,h2,h3,h4,h5,h6,h7⟩:=hs;have hrep:=Hn h4 g
   have hy:yielded all a.tmps j=c:=by
    generalize Bo t g=e at hrep hb
    have hv:∃v,a.tmps.toList.getD g undef=v/\((∃b,c=some b/\v = .bool b)\/(c=none/\∃vs,v = .tuple vs)):=by
     refine⟨_,rfl,?_⟩;generalize a.tmps.toList.getD g undef=x at hrep;unfold gdE at hb;split at hb
     ·cases hb;cases hrep;exact .inl ⟨_,rfl,rfl⟩
     ·cases hb;cases hrep;exact .inr ⟨rfl,_,rfl⟩
     ·cases hb
    obtain⟨v,hv,hc⟩:=hv;simp only[lG,Array.getElem?_toList]at hv;cases hx:a.tmps[g]? with
    |none=>
     rw[hx]at hv;rcases hc with ⟨b,_,rfl⟩|⟨rfl,vs,_⟩
     ·simp[undef]at hv
     ·simp[yielded,hd,hx]
    |some x=>
     rw[hx]at hv;simp at hv;subst hv;rcases hc with ⟨b,rfl,rfl⟩|⟨rfl,vs,rfl⟩<;>simp[yielded,hd,hx]
   simp[Region.wanted,hg,hy]
  ·cases hc
theorem HL {all : Array Oper} {Φ : Exit → Act → World → Prop} {tl : List Oper} : ∀ (src : List Oper) (l : List EOp) (st : St) (a : Act) (w : World), Cb P all src = some l →
    SimX P G I0 ρ0 w0 st a w → SeqOK P G l st (fun st' => ∀ a' w', SimX P G I0 ρ0 w0 st' a' w' → wpListIn (FR ro) 0 P all Φ tl a' w') → wpListIn (FR ro) 0 P all Φ (src ++ tl) a w
  | [], l, st, a, w, hc, hs, ok => by
    simp [Cb] at hc; subst hc;exact ok a w hs
  | o :: src, l, st, a, w, hc, hs, ok => by
    simp only [Cb] at hc;cases ho : DD P all o with
    | none => simp [ho] at hc
    | some eo =>
      cases hl : Cb P all src with
      | none => simp [ho, hl] at hc
      | some l' =>
        simp [ho, hl] at hc; subst hc;obtain ⟨t, h⟩ := st
        have key : ∀ (t' : List EV), SimX P G I0 ρ0 w0 ⟨t', h⟩ a w → ∀ b : Bool, Region.wanted o (yielded all a.tmps) = b →
            (if b then SROK (fun v h' => SeqOK P G l' ⟨Bl t' eo.dst v, h'⟩ (fun st' => ∀ a' w', SimX P G I0 ρ0 w0 st' a' w' → wpListIn (FR ro) 0 P all Φ tl a' w'))
              (fun f args => CallOK P G f args h fun v h' => SeqOK P G l' ⟨Bl t' eo.dst v, h'⟩ (fun st' => ∀ a' w', SimX P G I0 ρ0 w0 st' a' w' → wpListIn (FR ro) 0 P all Φ tl a' w')) (Bp stdA G t' h eo.i)
             else SeqOK P G l' ⟨Bl t' eo.dst Bt, h⟩ (fun st' => ∀ a' w', SimX P G I0 ρ0 w0 st' a' w' → wpListIn (FR ro) 0 P all Φ tl a' w')) → wpListIn (FR ro) 0 P all Φ (o :: (src ++ tl)) a w := by
          intro t' hs' b hb hok;obtain ⟨c1, c2, _, _⟩ := Ep ho hs';unfold wpListIn;rw [hb];cases b with
          | true =>
            simp only [if_true] at hok ⊢;rw [c2] at hok;exact (Jm c1 hs' hok (fun v h' hp a' w' hx => HL src l' _ a' w' hl hx hp) (fun v h' hp a' w' hx => HL src l' _ a' w' hl hx hp))
          | false =>
            simp only [bF, if_false] at hok ⊢;rw [c2] at hok;exact ⟨fun _ _ => trivial, HL src l' _ _ w hl (JJ _ hs') hok⟩
        simp only [SeqOK] at ok;obtain ⟨c1, c2, c3, c4⟩ := Ep ho hs;split at ok
        · rename_i hg
          exact key t hs true (c3 hg) (by simpa using ok)
        · rename_i g want hg
          split at ok
          · rename_i b hb
            exact key t hs (b == want) (by rw [c4 g want (some b) hg (by rw [hb]; rfl)]; cases b <;> cases want <;> rfl) (by
              by_cases hbw : (b == want) = true
              · rw [if_pos hbw]; rw [if_pos hbw] at ok; exact ok
              · rw [if_neg hbw]; rw [if_neg hbw] at ok; exact ok)
          · rename_i vs hb
            exact key t hs false (c4 g want none hg (by rw [hb]; rfl)) ok
          · rename_i b hb
            cases b with
            | true =>
              have hs2 := hs.lit hb;obtain ⟨_, _, _, d4⟩ := Ep ho hs2;have hb2 : Bo (Bs t g (.lit (.bool true))) g = .lit (.bool true) := HO t g _ (.inl (by rw [hb]; simp [Bt]))
              refine key _ hs2 (true == want) (by rw [d4 g want (some true) hg (by rw [hb2]; rfl)]; cases want <;> rfl) ?_
              have := ok.1 rfl
              by_cases hbw : (true == want) = true
              · rw [if_pos hbw]; rw [if_pos hbw] at this; exact this
              · rw [if_neg hbw]; rw [if_neg hbw] at this; exact this
            | false =>
              have hs2 := hs.lit hb;obtain ⟨_, _, _, d4⟩ := Ep ho hs2;have hb2 : Bo (Bs t g (.lit (.bool false))) g = .lit (.bool false) := HO t g _ (.inl (by rw [hb]; simp [Bt]))
              refine key _ hs2 (false == want) (by rw [d4 g want (some false) hg (by rw [hb2]; rfl)]; cases want <;> rfl) ?_
              have := ok.2 rfl
              by_cases hbw : (false == want) = true
              · rw [if_pos hbw]; rw [if_pos hbw] at this; exact this
              · rw [if_neg hbw]; rw [if_neg hbw] at this; exact this
          · exact ok.elim
theorem RE{all:Array Oper}{Φ:Exit->Act->World->Prop}(src:List Oper)(l:List EOp)(st:St)(a:Act)(w:World)(hc:Cb P all src=some l)
  (hs:SimX P G I0 ρ0 w0 st a w) (ok:SeqOK P G l st (fun st'=>∀a' w',SimX P G I0 ρ0 w0 st' a' w'->Φ .normal a' w')):wpListIn (FR ro) 0 P all Φ src a w:=by
 have:=HL (ro:=ro) (tl:=[]) (Φ:=Φ) src l st a w hc hs ok
 rwa [List.append_nil]at this
end
set_option linter.defProp false
def tM:=@Tri.mono
end Go.Proofs.YtkjhfefbklcciaaGreatDoor.Em
