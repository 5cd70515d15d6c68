/- No conditions. -/
import Derived.Test.YtehgpabfgjofhaaGreatDoorX14
import Derived.Test.YtehgpabfgjofhaaGreatDoorX15
set_option linter.unusedVariables false
set_option linter.unusedSimpArgs false
namespace Go.Proofs.YtehgpabfgjofhaaGreatDoor.Em
open Go
def DS(G:List (List EV))(o:EOp)(t:List EV)(h:EH)(n:Nat)(V:EV):Prop:=
 SROK (fun v h'=>VE n o.dst v V/\h'=h) (fun _ _=>False) (BD stdA G t h o.i)
def EvalTo(G:List (List EV))(o:EOp)(t:List EV)(h:EH)(n:Nat)(V:EV):Prop:=
 match o.guard with
 |none=>DS G o t h n V
 |some (g,want)=>∃c:Option Bool,gdE (BC t g)=some c/\if c==some want then DS G o t h n V else VE n o.dst BO V
def EvQ(G:List (List EV))(o:EOp)(t:List EV)(h:EH)(n:Nat)(V:EV):Prop:=∃ti,TE ti t/\EvalTo G o ti h n V
section
variable {G:List (List EV)}
theorem Tf{o:EOp}{t t':List EV}(hl:∀d,CR d o=true->BC t d=BC t' d):∀x∈JA o.i,Bu G t x=Bu G t' x:=by
 intro x hx
 refine zB6 fun d hd=>hl d ?_
 subst hd
 simp only[CR,Bool.or_eq_true,List.any_eq_true]
 exact .inl ⟨_,hx,by simp⟩
theorem EvalTo.congr{o:EOp}{t t':List EV}{h:EH}{n:Nat}{V:EV}(hl:∀d,CR d o=true->BC t d=BC t' d)(he:EvalTo G o t h n V):EvalTo G o t' h n V:=by
 have hs:BD stdA G t h o.i=BD stdA G t' h o.i:=V6 (Tf hl)
 unfold EvalTo DS at *
 rw[hs]at he
 cases hg:o.guard with
 |none=>simpa[hg]using he
 |some p=>
  obtain⟨g,want⟩:=p;simp only[hg]at he ⊢;obtain⟨c,h1,h2⟩:=he;exact⟨c,by rw[<-hl g (by simp[CR,hg])];exact h1,h2⟩
theorem KV{x o:EOp}(ht:Ca x o=false)(t:List EV)(e:EV)(d:Nat)(hd:CR d o=true):BC (Bq t x.dst e) d=BC t d:=by
 unfold Ca at ht
 cases hx:x.dst with
 |none=>rfl
 |some k=>
  simp only[hx]at ht;refine R2 t k d e fun hkd=>?_
  subst hkd;rw[ht]at hd;cases hd
theorem EvQ.put{x o:EOp}{t:List EV}{h:EH}{n:Nat}{V:EV}(he:EvQ G o t h n V)(ht:Ca x o=false)(e:EV):EvQ G o (Bq t x.dst e) h n V:=by
 obtain⟨ti,h1,h2⟩:=he
 exact⟨Bq ti x.dst e,h1.put (VE.refl _ _ _),h2.congr fun d hd=>(KV ht ti e d hd).symm⟩
def Is(t' t:List EV)(dst:Option Nat):List EV:=
 match dst with
 |some d=>BN t' d (BC t d)
 |none=>t'
theorem UE{t' t:List EV}{dst:Option Nat}{e:EV}(h:TE t' (Bq t dst e)):TE (Is t' t dst) t:=by
 cases dst with
 |none=>exact h
 |some d=>
  unfold TE at *;simp only[Is,Bq]at *;rw[Ko,h,Ko,UQ,Kt,LR]
theorem Uq{x o:EOp}(ht:Ca x o=false)(t' t:List EV)(d:Nat)(hd:CR d o=true):BC (Is t' t x.dst) d=BC t' d:=by
 have:=KV ht t' (match x.dst with|some k=>BC t k|none=>BO) d hd
 cases hx:x.dst with
 |none=>rfl
 |some k=>simpa[hx,Is,Bq]using this
theorem EvQ.unput{x o:EOp}{t:List EV}{h:EH}{n:Nat}{V e:EV}(he:EvQ G o (Bq t x.dst e) h n V)(ht:Ca x o=false):EvQ G o t h n V:=by
 obtain⟨ti,h1,h2⟩:=he
 exact⟨Is ti t x.dst,UE h1,h2.congr fun d hd=>(Uq ht ti t d hd).symm⟩
theorem KH{x y:EOp}(h:CC x y=false)(t:List EV)(v u:EV):Bq (Bq t x.dst v) y.dst u=Bq (Bq t y.dst u) x.dst v:=by
 unfold CC at h
 cases hx:x.dst with
 |none=>cases hy:y.dst<;>rfl
 |some d=>cases hy:y.dst with
  |none=>rfl
  |some e=>simp only[hx,hy]at h;exact SK t d e v u (by simpa using h)
theorem N8{x y:EOp}(h:CC x y=false):CC y x=false:=by
 unfold CC at *
 cases hx:x.dst<;>cases hy:y.dst<;>simp_all
 exact fun he=>h he.symm
variable (G) (es:List EOp) (n:Nat)
def B4:List EV->List (Nat×EV)->List EV
 |t,[]=>t
 |t,(i,V)::l=>B4 (Bq t (Bg es i).dst V) l
def PendOK:List EV->EH->List (Nat×EV)->Prop
 |_,_,[]=>True
 |t,h,(i,V)::l=>EvQ G (Bg es i) t h n V/\PendOK (Bq t (Bg es i).dst V) h l
variable {G es n}
theorem T1:∀{l:List (Nat×EV)} {t t':List EV},TE t t'->TE (B4 es t l) (B4 es t' l)
 |[],_,_,h=>h
 |(i,V)::l,_,_,h=>T1 (l:=l) (h.put (VE.refl _ _ _))
theorem Iq:∀(l m:List (Nat×EV)) (t:List EV),B4 es t (l++m)=B4 es (B4 es t l) m
 |[],_,_=>rfl
 |(i,V)::l,m,t=>by simp[B4,Iq l m]
theorem NQ:∀(l:List (Nat×EV)) (t:List EV),(B4 es t l).length=t.length
 |[],_=>rfl
 |(i,V)::l,t=>by simp[B4,NQ l,J8]
theorem HC{x:EOp}{e:EV}:∀{l:List (Nat×EV)} {t:List EV},(∀p∈l,CC x (Bg es p.1)=false)->B4 es (Bq t x.dst e) l=Bq (B4 es t l) x.dst e
 |[],_,_=>rfl
 |(i,V)::l,t,h=>by
  simp only[B4];rw[KH (h (i,V) (by simp)),HC fun p hp=>h p (by simp[hp])]
theorem PendOK.put{x:EOp}{e:EV}{h:EH}:∀{l:List (Nat×EV)} {t:List EV},(∀p∈l,CC x (Bg es p.1)=false/\Ca x (Bg es p.1)=false)->PendOK G es n t h l->
  PendOK G es n (Bq t x.dst e) h l
 |[],_,_,_=>trivial
 |(i,V)::l,t,hl,hp=>by
  obtain⟨h1,h2⟩:=hl (i,V) (by simp)
  refine⟨hp.1.put h2 e,?_⟩;rw[KH h1];exact PendOK.put (fun p hp=>hl p (by simp[hp])) hp.2
theorem PendOK.take{j:Nat}{V:EV}{l2:List (Nat×EV)}{h:EH}:∀{l1:List (Nat×EV)} {t:List EV},
  (∀p∈l1,CC (Bg es j) (Bg es p.1)=false/\Ca (Bg es j) (Bg es p.1)=false/\Ca (Bg es p.1) (Bg es j)=false)->PendOK G es n t h (l1++(j,V)::l2)->
  EvQ G (Bg es j) t h n V/\PendOK G es n (Bq t (Bg es j).dst V) h (l1++l2)/\B4 es t (l1++(j,V)::l2)=B4 es (Bq t (Bg es j).dst V) (l1++l2)
 |[],_,_,hp=>⟨hp.1,hp.2,rfl⟩
 |(i,U)::l1,t,hl,hp=>by
  obtain⟨h1,h2,h3⟩:=hl (i,U) (by simp)
  obtain⟨q1,q2,q3⟩:=PendOK.take (l1:=l1) (fun p hp=>hl p (by simp[hp])) hp.2
  refine⟨q1.unput h3,⟨hp.1.put h2 V,?_⟩,?_⟩
  ·rw[KH h1];exact q2
  ·simp only[lC,B4]
   rw[KH h1];exact q3
theorem PendOK.app{h:EH}:∀{l m:List (Nat×EV)} {t:List EV},PendOK G es n t h l->PendOK G es n (B4 es t l) h m->PendOK G es n t h (l++m)
 |[],_,_,_,hm=>hm
 |(i,V)::l,m,t,hl,hm=>⟨hl.1,PendOK.app hl.2 hm⟩
theorem SH{post:EV->EH->Prop}{post':EV->EH->Prop}{pc:FuncId->List EV->Prop}{h':EH}(hp:∀v h,post v h->post' v h'):∀{r:SR},SROK post pc r->(∀f l,¬pc f l)->SROK post' pc (r.onto h')
 | .stuck,h,_=>h
 | .ret _ _,h,_=>hp _ _ h
 | .need _ r,h,hc=>⟨h.1,SH hp h.2 hc⟩
 | .look ..,⟨cs,v,q1,q2,q3,q4⟩,_=>⟨cs,v,q1,q2,q3,hp _ _ q4⟩
 | .br ..,h,_=>⟨fun hb=>hp _ _ (h.1 hb),fun hb=>hp _ _ (h.2 hb)⟩
 | .opt ..,h,_=>⟨fun hn=>hp _ _ (h.1 hn),fun x hx=>hp _ _ (h.2 x hx)⟩
 | .call _ _,h,hc=>(hc _ _ h).elim
 | .same ..,h,_=>⟨h.1,hp _ _ h.2⟩
 | .lookS ..,h,_=>⟨h.1,hp _ _ h.2⟩
theorem EvalTo.heap{o:EOp}{t:List EV}{h h':EH}{V:EV}(hx:isX o.i=false)(hr:DR o.i=false)(he:EvalTo G o t h n V) :
  EvalTo G o t h' n V:=by
 have hgo:DS G o t h n V->DS G o t h' n V:=fun hg=>by
  unfold DS at *;rw[zCB (h:=h) (h':=h') hx hr];exact SH (fun v h hh=>⟨hh.1,rfl⟩) hg (fun _ _ hh=>hh)
 unfold EvalTo at *
 split
 ·rename_i hg;simp only[hg]at he;exact hgo he
 ·rename_i g want hg
  simp only[hg]at he;obtain⟨c,h1,h2⟩:=he;refine⟨c,h1,?_⟩;split
  ·rename_i hc;rw[if_pos hc]at h2;exact hgo h2
  ·rename_i hc;rw[if_neg hc]at h2;exact h2
theorem PendOK.heap{h h':EH}:∀{l:List (Nat×EV)} {t:List EV},(∀p∈l,isX (Bg es p.1).i=false)->
  (∀l1 r V l2,l=l1++(r,V)::l2->DR (Bg es r).i=true->EvQ G (Bg es r) (B4 es t l1) h n V->EvQ G (Bg es r) (B4 es t l1) h' n V)->PendOK G es n t h l->PendOK G es n t h' l
 |[],_,_,_,_=>trivial
 |(i,V)::l,t,hq,hr,hp=>by
  refine⟨?_,PendOK.heap (fun p hp=>hq p (by simp[hp])) (fun l1 r U l2 hl hrd he=>hr ((i,V)::l1) r U l2 (by simp[hl]) hrd he) hp.2⟩
  cases hc:DR (Bg es i).i with
  |true=>exact hr [] i V l rfl hc hp.1
  |false=>
   obtain⟨ti,h1,h2⟩:=hp.1;exact⟨ti,h1,h2.heap (hq (i,V) (by simp)) hc⟩
theorem SO{post:EV->EH->Prop}{pc:FuncId->List EV->Prop}{h:EH}:∀{r:SR},SROK post pc r->r.onto h=r->∃V,post V h/\SROK (fun v h'=>v=V/\h'=h) (fun _ _=>False) r
 | .stuck,hh,_=>hh.elim
 | .ret v h1,hh,ho=>by
  simp only[SR.onto,SR.ret.injEq]at ho;obtain⟨_,rfl⟩:=ho;exact⟨v,hh,rfl,rfl⟩
 | .need b r,hh,ho=>by
  simp only[SR.onto,SR.need.injEq]at ho;obtain⟨V,h1,h2⟩:=SO hh.2 ho.2;exact⟨V,h1,hh.1,h2⟩
 | .look c off n agg h1,⟨cs,v,q1,q2,q3,q4⟩,ho=>by
  simp only[SR.onto,SR.look.injEq]at ho;obtain⟨_,_,_,_,rfl⟩:=ho;exact⟨v,q4,cs,v,q1,q2,q3,rfl,rfl⟩
 | .br b v1 h1 v2 h2,hh,ho=>by
  simp only[SR.onto,SR.br.injEq]at ho;obtain⟨_,_,rfl,_,rfl⟩:=ho;cases b with
  |true=>exact⟨v1,hh.1 rfl,fun _=>⟨rfl,rfl⟩,fun hb=>by cases hb⟩
  |false=>exact⟨v2,hh.2 rfl,fun hb=>(by cases hb),fun _=>⟨rfl,rfl⟩⟩
 | .opt o ok z h1,hh,ho=>by
  simp only[SR.onto,SR.opt.injEq]at ho;obtain⟨_,_,_,rfl⟩:=ho;cases o with
  |none=>exact⟨_,hh.1 rfl,fun _=>⟨rfl,rfl⟩,fun x hx=>by cases hx⟩
  |some x=>exact⟨_,hh.2 x rfl,fun hn=>(by cases hn),fun y hy=>(by cases hy;exact⟨rfl,rfl⟩)⟩
 | .call _ _,_,ho=>by simp[SR.onto]at ho
 | .same v w h1,hh,ho=>by
  simp only[SR.onto,SR.same.injEq]at ho;obtain⟨_,_,rfl⟩:=ho;exact⟨_,hh.2,hh.1,rfl,rfl⟩
 | .lookS c off n agg w h1,hh,ho=>by
  simp only[SR.onto,SR.lookS.injEq]at ho;obtain⟨_,_,_,_,_,rfl⟩:=ho;exact⟨_,hh.2,hh.1,rfl,rfl⟩
variable {P:Program}
theorem SeqOK.head{o:EOp}{l:List EOp}{t:List EV}{h:EH}{K:St->Prop}(hs:SeqOK P G (o::l) ⟨t,h⟩ K) :
  ∃t',TE t' t/\((o.guard=none/\SROK (fun v h'=>SeqOK P G l ⟨Bq t' o.dst v,h'⟩ K) (fun f args=>CallOK P G f args h fun v h'=>SeqOK P G l ⟨Bq t' o.dst v,h'⟩ K) (BD stdA G t' h o.i))\/
   ∃g want c,o.guard=some (g,want)/\gdE (BC t' g)=some c/\
    if c==some want then SROK (fun v h'=>SeqOK P G l ⟨Bq t' o.dst v,h'⟩ K) (fun f args=>CallOK P G f args h fun v h'=>SeqOK P G l ⟨Bq t' o.dst v,h'⟩ K) (BD stdA G t' h o.i)
    else SeqOK P G l ⟨Bq t' o.dst BO,h⟩ K):=by
 simp only[SeqOK]at hs
 split at hs
 ·rename_i hg;exact⟨t,.refl t,.inl ⟨hg,hs⟩⟩
 ·rename_i g want hg
  split at hs
  ·rename_i b hb
   refine⟨t,.refl t,.inr ⟨g,want,some b,hg,by rw[hb];rfl,?_⟩⟩
   cases b<;>cases want<;>exact hs
  ·rename_i vs hb
   exact⟨t,.refl t,.inr ⟨g,want,none,hg,by rw[hb];rfl,hs⟩⟩
  ·rename_i b hb
   have hte:∀c,b=c->TE (BN t g (.lit (.bool c))) t:=fun c hc=>by
    have:TE (BN t g (.lit (.bool c))) (BN t g (BC t g)):=(TE.refl t).set g (by rw[hb,hc];rfl)
    rwa [LR]at this
   have hget:∀c,BC (BN t g (.lit (.bool c))) g = .lit (.bool c):=fun c=>Jj t g _ (.inl (by rw[hb];simp[BO]))
   cases b with
   |true=>exact⟨_,hte true rfl,.inr ⟨g,want,some true,hg,by rw[hget true];rfl,by have:=hs.1 rfl;cases want<;>exact this⟩⟩
   |false=>exact⟨_,hte false rfl,.inr ⟨g,want,some false,hg,by rw[hget false];rfl,by have:=hs.2 rfl;cases want<;>exact this⟩⟩
  ·exact hs.elim
theorem SeqOK.quiet{o:EOp}{l:List EOp}{t:List EV}{h:EH}{K:St->Prop}(hx:isX o.i=false)(hs:SeqOK P G (o::l) ⟨t,h⟩ K)(n:Nat) :
  ∃t' V,TE t' t/\EvalTo G o t' h n V/\SeqOK P G l ⟨Bq t' o.dst V,h⟩ K:=by
 obtain⟨t',h1,h2⟩:=hs.head
 have go:SROK (fun v h'=>SeqOK P G l ⟨Bq t' o.dst v,h'⟩ K) (fun f args=>CallOK P G f args h fun v h'=>SeqOK P G l ⟨Bq t' o.dst v,h'⟩ K) (BD stdA G t' h o.i)->
   ∃V,DS G o t' h n V/\SeqOK P G l ⟨Bq t' o.dst V,h⟩ K:=fun hh=>by
  obtain⟨V,k1,k2⟩:=SO hh (Y0 hx);exact⟨V,SROK.mono (fun v h' hv=>⟨hv.1▸VE.refl _ _ _,hv.2⟩) (fun _ _ hf=>hf) k2,k1⟩
 rcases h2 with ⟨hg,hh⟩|⟨g,want,c,hg,hc,hh⟩
 ·obtain⟨V,k1,k2⟩:=go hh
  exact⟨t',V,h1,by simpa[EvalTo,hg]using k1,k2⟩
 ·by_cases hw:(c==some want)=true
  ·rw[if_pos hw]at hh
   obtain⟨V,k1,k2⟩:=go hh;exact⟨t',V,h1,by simp only[EvalTo,hg];exact⟨c,hc,by rw[if_pos hw];exact k1⟩,k2⟩
  ·rw[if_neg hw]at hh
   exact⟨t',BO,h1,by simp only[EvalTo,hg];exact⟨c,hc,by rw[if_neg hw];exact VE.refl _ _ _⟩,hh⟩
end
end Go.Proofs.YtehgpabfgjofhaaGreatDoor.Em
