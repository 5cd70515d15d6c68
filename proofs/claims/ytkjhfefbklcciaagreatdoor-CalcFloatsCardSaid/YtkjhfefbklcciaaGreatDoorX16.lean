/- No conditions. -/
import Derived.Test.YtkjhfefbklcciaaGreatDoorX14
import Derived.Test.YtkjhfefbklcciaaGreatDoorX15
set_option linter.unusedVariables false
set_option linter.unusedSimpArgs false
namespace Go.Proofs.YtkjhfefbklcciaaGreatDoor.Em
open Go
def CN(G:List (List EV))(o:EOp)(t:List EV)(h:EH)(n:Nat)(V:EV):Prop:=
 SROK (fun v h'=>VE n o.dst v V/\h'=h) (fun _ _=>False) (Bp stdA G t h o.i)
def EvalTo(G:List (List EV))(o:EOp)(t:List EV)(h:EH)(n:Nat)(V:EV):Prop:=
 match o.guard with
 |none=>CN G o t h n V
 |some (g,want)=>∃c:Option Bool,gdE (Bo t g)=some c/\if c==some want then CN G o t h n V else VE n o.dst Bt V
def EvQ(G:List (List EV))(o:EOp)(t:List EV)(h:EH)(n:Nat)(V:EV):Prop:=∃ti,TE ti t/\EvalTo G o ti h n V
section
variable {G:List (List EV)}
theorem NJ{o:EOp}{t t':List EV}(hl:∀d,B4 d o=true->Bo t d=Bo t' d):∀x∈Hf o.i,Bm G t x=Bm G t' x:=by
 intro x hx
 refine Ul fun d hd=>hl d ?_
 subst hd
 simp only[B4,Bool.or_eq_true,List.any_eq_true]
 exact .inl ⟨_,hx,by simp⟩
theorem EvalTo.congr{o:EOp}{t t':List EV}{h:EH}{n:Nat}{V:EV}(hl:∀d,B4 d o=true->Bo t d=Bo t' d)(he:EvalTo G o t h n V):EvalTo G o t' h n V:=by
 have hs:Bp stdA G t h o.i=Bp stdA G t' h o.i:=NS (NJ hl)
 unfold EvalTo CN at *
 rw[hs]at he
 cases hg:o.guard with
 |none=>simpa[hg]using he
 |some p=>
  obtain⟨g,want⟩:=p;simp only[hg]at he ⊢;obtain⟨c,h1,h2⟩:=he;exact⟨c,by rw[<-hl g (by simp[B4,hg])];exact h1,h2⟩
theorem Iu{x o:EOp}(ht:BE x o=false)(t:List EV)(e:EV)(d:Nat)(hd:B4 d o=true):Bo (Bl t x.dst e) d=Bo t d:=by
 unfold BE at ht
 cases hx:x.dst with
 |none=>rfl
 |some k=>
  simp only[hx]at ht;refine K0 t k d e fun hkd=>?_
  subst hkd;rw[ht]at hd;cases hd
theorem EvQ.put{x o:EOp}{t:List EV}{h:EH}{n:Nat}{V:EV}(he:EvQ G o t h n V)(ht:BE x o=false)(e:EV):EvQ G o (Bl t x.dst e) h n V:=by
 obtain⟨ti,h1,h2⟩:=he
 exact⟨Bl ti x.dst e,h1.put (VE.refl _ _ _),h2.congr fun d hd=>(Iu ht ti e d hd).symm⟩
def GQ(t' t:List EV)(dst:Option Nat):List EV:=
 match dst with
 |some d=>Bs t' d (Bo t d)
 |none=>t'
theorem Rk{t' t:List EV}{dst:Option Nat}{e:EV}(h:TE t' (Bl t dst e)):TE (GQ t' t dst) t:=by
 cases dst with
 |none=>exact h
 |some d=>
  unfold TE at *;simp only[GQ,Bl]at *;rw[G8,h,G8,Rh,It,I6]
theorem PO{x o:EOp}(ht:BE x o=false)(t' t:List EV)(d:Nat)(hd:B4 d o=true):Bo (GQ t' t x.dst) d=Bo t' d:=by
 have:=Iu ht t' (match x.dst with|some k=>Bo t k|none=>Bt) d hd
 cases hx:x.dst with
 |none=>rfl
 |some k=>simpa[hx,GQ,Bl]using this
theorem EvQ.unput{x o:EOp}{t:List EV}{h:EH}{n:Nat}{V e:EV}(he:EvQ G o (Bl t x.dst e) h n V)(ht:BE x o=false):EvQ G o t h n V:=by
 obtain⟨ti,h1,h2⟩:=he
 exact⟨GQ ti t x.dst,Rk h1,h2.congr fun d hd=>(PO ht ti t d hd).symm⟩
theorem Iv{x y:EOp}(h:BT x y=false)(t:List EV)(v u:EV):Bl (Bl t x.dst v) y.dst u=Bl (Bl t y.dst u) x.dst v:=by
 unfold BT at h
 cases hx:x.dst with
 |none=>cases hy:y.dst<;>rfl
 |some d=>cases hy:y.dst with
  |none=>rfl
  |some e=>simp only[hx,hy]at h;exact Ph t d e v u (by simpa using h)
theorem KG{x y:EOp}(h:BT x y=false):BT y x=false:=by
 unfold BT at *
 cases hx:x.dst<;>cases hy:y.dst<;>simp_all
 exact fun he=>h he.symm
variable (G) (es:List EOp) (n:Nat)
def Bz:List EV->List (Nat×EV)->List EV
 |t,[]=>t
 |t,(i,V)::l=>Bz (Bl t (Bg es i).dst V) l
def PendOK:List EV->EH->List (Nat×EV)->Prop
 |_,_,[]=>True
 |t,h,(i,V)::l=>EvQ G (Bg es i) t h n V/\PendOK (Bl t (Bg es i).dst V) h l
variable {G es n}
theorem LD:∀{l:List (Nat×EV)} {t t':List EV},TE t t'->TE (Bz es t l) (Bz es t' l)
 |[],_,_,h=>h
 |(i,V)::l,_,_,h=>LD (l:=l) (h.put (VE.refl _ _ _))
theorem GD:∀(l m:List (Nat×EV)) (t:List EV),Bz es t (l++m)=Bz es (Bz es t l) m
 |[],_,_=>rfl
 |(i,V)::l,m,t=>by simp[Bz,GD l m]
theorem Kv:∀(l:List (Nat×EV)) (t:List EV),(Bz es t l).length=t.length
 |[],_=>rfl
 |(i,V)::l,t=>by simp[Bz,Kv l,HB]
theorem Et{x:EOp}{e:EV}:∀{l:List (Nat×EV)} {t:List EV},(∀p∈l,BT x (Bg es p.1)=false)->Bz es (Bl t x.dst e) l=Bl (Bz es t l) x.dst e
 |[],_,_=>rfl
 |(i,V)::l,t,h=>by
  simp only[Bz];rw[Iv (h (i,V) (by simp)),Et fun p hp=>h p (by simp[hp])]
theorem PendOK.put{x:EOp}{e:EV}{h:EH}:∀{l:List (Nat×EV)} {t:List EV},(∀p∈l,BT x (Bg es p.1)=false/\BE x (Bg es p.1)=false)->PendOK G es n t h l->
  PendOK G es n (Bl t x.dst e) h l
 |[],_,_,_=>trivial
 |(i,V)::l,t,hl,hp=>by
  obtain⟨h1,h2⟩:=hl (i,V) (by simp)
  refine⟨hp.1.put h2 e,?_⟩;rw[Iv h1];exact PendOK.put (fun p hp=>hl p (by simp[hp])) hp.2
theorem PendOK.take{j:Nat}{V:EV}{l2:List (Nat×EV)}{h:EH}:∀{l1:List (Nat×EV)} {t:List EV},
  (∀p∈l1,BT (Bg es j) (Bg es p.1)=false/\BE (Bg es j) (Bg es p.1)=false/\BE (Bg es p.1) (Bg es j)=false)->PendOK G es n t h (l1++(j,V)::l2)->
  EvQ G (Bg es j) t h n V/\PendOK G es n (Bl t (Bg es j).dst V) h (l1++l2)/\Bz es t (l1++(j,V)::l2)=Bz es (Bl t (Bg es j).dst V) (l1++l2)
 |[],_,_,hp=>⟨hp.1,hp.2,rfl⟩
 |(i,U)::l1,t,hl,hp=>by
  obtain⟨h1,h2,h3⟩:=hl (i,U) (by simp)
  obtain⟨q1,q2,q3⟩:=PendOK.take (l1:=l1) (fun p hp=>hl p (by simp[hp])) hp.2
  refine⟨q1.unput h3,⟨hp.1.put h2 V,?_⟩,?_⟩
  ·rw[Iv h1];exact q2
  ·simp only[lC,Bz]
   rw[Iv h1];exact q3
theorem PendOK.app{h:EH}:∀{l m:List (Nat×EV)} {t:List EV},PendOK G es n t h l->PendOK G es n (Bz es t l) h m->PendOK G es n t h (l++m)
 |[],_,_,_,hm=>hm
 |(i,V)::l,m,t,hl,hm=>⟨hl.1,PendOK.app hl.2 hm⟩
theorem Nv{post:EV->EH->Prop}{post':EV->EH->Prop}{pc:FuncId->List EV->Prop}{h':EH}(hp:∀v h,post v h->post' v h'):∀{r:SR},SROK post pc r->(∀f l,¬pc f l)->SROK post' pc (r.onto h')
 | .stuck,h,_=>h
 | .ret _ _,h,_=>hp _ _ h
 | .need _ r,h,hc=>⟨h.1,Nv hp h.2 hc⟩
 | .look ..,⟨cs,v,q1,q2,q3,q4⟩,_=>⟨cs,v,q1,q2,q3,hp _ _ q4⟩
 | .br ..,h,_=>⟨fun hb=>hp _ _ (h.1 hb),fun hb=>hp _ _ (h.2 hb)⟩
 | .opt ..,h,_=>⟨fun hn=>hp _ _ (h.1 hn),fun x hx=>hp _ _ (h.2 x hx)⟩
 | .call _ _,h,hc=>(hc _ _ h).elim
 | .same ..,h,_=>⟨h.1,hp _ _ h.2⟩
 | .lookS ..,h,_=>⟨h.1,hp _ _ h.2⟩
theorem EvalTo.heap{o:EOp}{t:List EV}{h h':EH}{V:EV}(hx:isX o.i=false)(hr:CM o.i=false)(he:EvalTo G o t h n V) :
  EvalTo G o t h' n V:=by
 have hgo:CN G o t h n V->CN G o t h' n V:=fun hg=>by
  unfold CN at *;rw[Se (h:=h) (h':=h') hx hr];exact Nv (fun v h hh=>⟨hh.1,rfl⟩) hg (fun _ _ hh=>hh)
 unfold EvalTo at *
 split
 ·rename_i hg;simp only[hg]at he;exact hgo he
 ·rename_i g want hg
  simp only[hg]at he;obtain⟨c,h1,h2⟩:=he;refine⟨c,h1,?_⟩;split
  ·rename_i hc;rw[if_pos hc]at h2;exact hgo h2
  ·rename_i hc;rw[if_neg hc]at h2;exact h2
theorem PendOK.heap{h h':EH}:∀{l:List (Nat×EV)} {t:List EV},(∀p∈l,isX (Bg es p.1).i=false)->
  (∀l1 r V l2,l=l1++(r,V)::l2->CM (Bg es r).i=true->EvQ G (Bg es r) (Bz es t l1) h n V->EvQ G (Bg es r) (Bz es t l1) h' n V)->PendOK G es n t h l->PendOK G es n t h' l
 |[],_,_,_,_=>trivial
 |(i,V)::l,t,hq,hr,hp=>by
  refine⟨?_,PendOK.heap (fun p hp=>hq p (by simp[hp])) (fun l1 r U l2 hl hrd he=>hr ((i,V)::l1) r U l2 (by simp[hl]) hrd he) hp.2⟩
  cases hc:CM (Bg es i).i with
  |true=>exact hr [] i V l rfl hc hp.1
  |false=>
   obtain⟨ti,h1,h2⟩:=hp.1;exact⟨ti,h1,h2.heap (hq (i,V) (by simp)) hc⟩
theorem Pq{post:EV->EH->Prop}{pc:FuncId->List EV->Prop}{h:EH}:∀{r:SR},SROK post pc r->r.onto h=r->∃V,post V h/\SROK (fun v h'=>v=V/\h'=h) (fun _ _=>False) r
 | .stuck,hh,_=>hh.elim
 | .ret v h1,hh,ho=>by
  simp only[SR.onto,SR.ret.injEq]at ho;obtain⟨_,rfl⟩:=ho;exact⟨v,hh,rfl,rfl⟩
 | .need b r,hh,ho=>by
  simp only[SR.onto,SR.need.injEq]at ho;obtain⟨V,h1,h2⟩:=Pq hh.2 ho.2;exact⟨V,h1,hh.1,h2⟩
 | .look c off n agg h1,⟨cs,v,q1,q2,q3,q4⟩,ho=>by
  simp only[SR.onto,SR.look.injEq]at ho;obtain⟨_,_,_,_,rfl⟩:=ho;exact⟨v,q4,cs,v,q1,q2,q3,rfl,rfl⟩
 | .br b v1 h1 v2 h2,hh,ho=>by
  simp only[SR.onto,SR.br.injEq]at ho;obtain⟨_,_,rfl,_,rfl⟩:=ho;cases b with
  |true=>exact⟨v1,hh.1 rfl,fun _=>⟨rfl,rfl⟩,fun hb=>by cases hb⟩
  |false=>exact⟨v2,hh.2 rfl,fun hb=>(by cases hb),fun _=>⟨rfl,rfl⟩⟩
 | .opt o ok z h1,hh,ho=>by
  simp only[SR.onto,SR.opt.injEq]at ho;obtain⟨_,_,_,rfl⟩:=ho;cases o with
  |none=>exact⟨_,hh.1 rfl,fun _=>⟨rfl,rfl⟩,fun x hx=>by cases hx⟩
  |some x=>exact⟨_,hh.2 x rfl,fun hn=>(by cases hn),fun y hy=>(by cases hy;exact⟨rfl,rfl⟩)⟩
 | .call _ _,_,ho=>by simp[SR.onto]at ho
 | .same v w h1,hh,ho=>by
  simp only[SR.onto,SR.same.injEq]at ho;obtain⟨_,_,rfl⟩:=ho;exact⟨_,hh.2,hh.1,rfl,rfl⟩
 | .lookS c off n agg w h1,hh,ho=>by
  simp only[SR.onto,SR.lookS.injEq]at ho;obtain⟨_,_,_,_,_,rfl⟩:=ho;exact⟨_,hh.2,hh.1,rfl,rfl⟩
variable {P:Program}
theorem SeqOK.head{o:EOp}{l:List EOp}{t:List EV}{h:EH}{K:St->Prop}(hs:SeqOK P G (o::l) ⟨t,h⟩ K) :
  ∃t',TE t' t/\((o.guard=none/\SROK (fun v h'=>SeqOK P G l ⟨Bl t' o.dst v,h'⟩ K) (fun f args=>CallOK P G f args h fun v h'=>SeqOK P G l ⟨Bl t' o.dst v,h'⟩ K) (Bp stdA G t' h o.i))\/
   ∃g want c,o.guard=some (g,want)/\gdE (Bo t' g)=some c/\
    if c==some want then SROK (fun v h'=>SeqOK P G l ⟨Bl t' o.dst v,h'⟩ K) (fun f args=>CallOK P G f args h fun v h'=>SeqOK P G l ⟨Bl t' o.dst v,h'⟩ K) (Bp stdA G t' h o.i)
    else SeqOK P G l ⟨Bl t' o.dst Bt,h⟩ K):=by
 simp only[SeqOK]at hs
 split at hs
 ·rename_i hg;exact⟨t,.refl t,.inl ⟨hg,hs⟩⟩
 ·rename_i g want hg
  split at hs
  ·rename_i b hb
   refine⟨t,.refl t,.inr ⟨g,want,some b,hg,by rw[hb];rfl,?_⟩⟩
   cases b<;>cases want<;>exact hs
  ·rename_i vs hb
   exact⟨t,.refl t,.inr ⟨g,want,none,hg,by rw[hb];rfl,hs⟩⟩
  ·rename_i b hb
   have hte:∀c,b=c->TE (Bs t g (.lit (.bool c))) t:=fun c hc=>by
    have:TE (Bs t g (.lit (.bool c))) (Bs t g (Bo t g)):=(TE.refl t).set g (by rw[hb,hc];rfl)
    rwa [I6]at this
   have hget:∀c,Bo (Bs t g (.lit (.bool c))) g = .lit (.bool c):=fun c=>HO t g _ (.inl (by rw[hb];simp[Bt]))
   cases b with
   |true=>exact⟨_,hte true rfl,.inr ⟨g,want,some true,hg,by rw[hget true];rfl,by have:=hs.1 rfl;cases want<;>exact this⟩⟩
   |false=>exact⟨_,hte false rfl,.inr ⟨g,want,some false,hg,by rw[hget false];rfl,by have:=hs.2 rfl;cases want<;>exact this⟩⟩
  ·exact hs.elim
theorem SeqOK.quiet{o:EOp}{l:List EOp}{t:List EV}{h:EH}{K:St->Prop}(hx:isX o.i=false)(hs:SeqOK P G (o::l) ⟨t,h⟩ K)(n:Nat) :
  ∃t' V,TE t' t/\EvalTo G o t' h n V/\SeqOK P G l ⟨Bl t' o.dst V,h⟩ K:=by
 obtain⟨t',h1,h2⟩:=hs.head
 have go:SROK (fun v h'=>SeqOK P G l ⟨Bl t' o.dst v,h'⟩ K) (fun f args=>CallOK P G f args h fun v h'=>SeqOK P G l ⟨Bl t' o.dst v,h'⟩ K) (Bp stdA G t' h o.i)->
   ∃V,CN G o t' h n V/\SeqOK P G l ⟨Bl t' o.dst V,h⟩ K:=fun hh=>by
  obtain⟨V,k1,k2⟩:=Pq hh (Th hx);exact⟨V,SROK.mono (fun v h' hv=>⟨hv.1▸VE.refl _ _ _,hv.2⟩) (fun _ _ hf=>hf) k2,k1⟩
 rcases h2 with ⟨hg,hh⟩|⟨g,want,c,hg,hc,hh⟩
 ·obtain⟨V,k1,k2⟩:=go hh
  exact⟨t',V,h1,by simpa[EvalTo,hg]using k1,k2⟩
 ·by_cases hw:(c==some want)=true
  ·rw[if_pos hw]at hh
   obtain⟨V,k1,k2⟩:=go hh;exact⟨t',V,h1,by simp only[EvalTo,hg];exact⟨c,hc,by rw[if_pos hw];exact k1⟩,k2⟩
  ·rw[if_neg hw]at hh
   exact⟨t',Bt,h1,by simp only[EvalTo,hg];exact⟨c,hc,by rw[if_neg hw];exact VE.refl _ _ _⟩,hh⟩
end
end Go.Proofs.YtkjhfefbklcciaaGreatDoor.Em
