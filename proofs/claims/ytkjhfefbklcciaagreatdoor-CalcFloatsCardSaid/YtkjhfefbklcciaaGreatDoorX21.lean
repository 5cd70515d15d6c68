/- No conditions. -/
import Derived.Test.YtkjhfefbklcciaaGreatDoorX20
import Derived.RangeFuncLeaves
import Derived.RangeFuncRecord
set_option linter.unusedVariables false
set_option linter.unusedSimpArgs false
namespace Go.Proofs.YtkjhfefbklcciaaGreatDoor.Em
open Go
inductive ER where
 |tmp (t:Nat)
 |cell (a:Nat) (agg:Bool) (n:Nat)
structure FC where
 ntmps:Nat
 rs:List ER
 body:EC
def CL(P:Program):List ResultVar->Option (List ER)
 |[]=>some []
 | .tmp t::l=>match CL P l with|some r=>some (.tmp t::r)|none=>none
 | .cell a t::l=>match Cr P t,szP P t,CL P l with
  |some true,some n,some r=>some (.cell a true n::r)
  |some false,_,some r=>some (.cell a false 1::r)
  |_,_,_=>none
def Bc(P:Program)(f:FuncId):Option FC:=
 match P.funcs[f]? with
 |none=>none
 |some fn=>match fn.body with
  |none=>none
  |some c=>if fn.name != "runtime.NumGoroutine" && !Nat.beq f Cj then match BC P c,CL P fn.results.toList with
   |some ec,some rs=>some ⟨fn.ntmps,rs,ec⟩
   |_,_=>none
   else none
def Di(t:List EV)(h:EH):List ER->Option (List EV)
 |[]=>some []
 | .tmp i::l=>match Di t h l with
  |some r=>some (Bo t i::r)
  |none=>none
 | .cell a agg n::l=>match Bo t a with
  | .ptr id off=>match Bh h id with
   | .blk c=>match rd c off n with
    |some cs=>match mkV agg cs,Di t h l with
     |some v,some r=>some (v::r)
     |_,_=>none
    |none=>none
   |_=>none
  |_=>none
def BP(rs:List ER)(t:List EV)(h:EH):Option EV:=
 match Di t h rs with
 |some [v]=>some v
 |some l=>some (.tup l)
 |none=>none
def IP:Nat->List EV
 |0=>[]
 |n+1=>Bt::IP n
def BK:List EV->Nat->List EV
 |[],n=>IP n
 |x::l,n=>x::BK l (Nat.pred n)
theorem Np:∀n:Nat,IP n=List.replicate n Bt
 |0=>rfl
 |n+1=>by simp[IP,Np n,List.replicate_succ]
theorem Jk:∀(l:List EV) (n:Nat),BK l n=l++List.replicate (n-l.length) Bt
 |[],n=>by simp[BK,Np]
 |x::l,n=>by
  simp only[BK,Jk l,lC,List.length_cons,Nat.pred_eq_sub_one];rw[show n-1-l.length=n-(l.length+1) by omega]
def FinR(rs:List ER)(R:EV->EH->Prop)(s:St):Prop:=∃v,BP rs s.t s.h=some v/\R v s.h
theorem FinR.intro{rs:List ER}{R:EV->EH->Prop}{s:St}{v:EV}(h1:BP rs s.t s.h=some v)(h2:R v s.h):FinR rs R s:=⟨v,h1,h2⟩
section
variable {P:Program} {G:List (List EV)}
theorem Bi{f:FuncId}{fc:FC}(hc:Bc P f=some fc):BU P f=true:=by
 unfold Bc at hc
 unfold BU
 split at hc
 ·cases hc
 ·rename_i fn hf
  rw[hf];split at hc
  ·cases hc
  ·rename_i c hb
   split at hc
   ·rename_i hn;simp only[Bool.and_eq_true]at hn;simp[hb,hn.1];simpa using hn.2
   ·cases hc
def Ex(tmps:Array Value):ResultVar->Sem Value
 | .tmp t=>pure (tmps.getD t undef)
 | .cell a t=>do loadVar t (<-asAddr (tmps.getD a undef))
theorem Yi(fn:Func)(tmps:Array Value):results fn tmps=(do let vs <-fn.results.mapM (Ex tmps);pure (if h:vs.size=1 then vs[0]else .tuple vs)):=by
 have:(fun x:ResultVar=>(match x with
   | .tmp t=>pure (tmps.getD t undef)
   | .cell a t=>(do loadVar t (<-asAddr (tmps.getD a undef))):Sem Value))=Ex tmps:=by
  funext x;cases x<;>rfl
 rw[<-this];rfl
theorem Kk{I:Imm}{w:World}{ρ:Ren}{t:List EV}{h:EH}{tmps:Array Value}(hs:HSim I w ρ h)(ht:RepL w I ρ t tmps.toList) :
  ∀(src:List ResultVar) (rs:List ER) (r:List EV),CL P src=some rs->Di t h rs=some r->∃vs:List Value,
   (src.mapM (Ex tmps)).run P w = .ok vs w/\RepL w I ρ r vs
 |[],rs,r,hc,hr=>by
  simp[CL]at hc;subst hc;simp[Di]at hr;subst hr;exact⟨[],by simp,trivial⟩
 | .tmp i::l,rs,r,hc,hr=>by
  simp only[CL]at hc;cases hl:CL P l with
  |none=>simp[hl]at hc
  |some rs'=>
   simp[hl]at hc;subst hc;simp only[Di]at hr;cases hr':Di t h rs' with
   |none=>simp[hr']at hr
   |some r'=>
    simp[hr']at hr;subst hr;obtain⟨vs,h1,h2⟩:=Kk hs ht l rs' r' hl hr';refine⟨tmps.getD i undef::vs,?_,?_,h2⟩
    ·simp only[List.mapM_cons,Sem.run_bind]
     simp[h1,Ex,Result.andThen,Sem.run_bind]
    ·have:=Hn ht i
     simpa[Array.getD_eq_getD_getElem?,lG]using this
 | .cell a ty::l,rs,r,hc,hr=>by
  simp only[CL]at hc
  have key:∀agg n rs',Cr P ty=some agg->(agg=true->szP P ty=some n)->CL P l=some rs'->rs = .cell a agg n::rs'->∃vs:List Value,
    ((.cell a ty::l).mapM (Ex tmps)).run P w = .ok vs w/\RepL w I ρ r vs:=by
   intro agg n rs' ha hsz hl he;subst he;simp only[Di]at hr;cases hg:Bo t a with
   |ptr id off=>
    simp only[hg]at hr;cases hb:Bh h id with
    |blk c=>
     simp only[hb]at hr;cases hrd:rd c off n with
     |none=>simp[hrd]at hr
     |some cs=>
      simp only[hrd]at hr;cases hmk:mkV agg cs with
      |none=>simp[hmk]at hr
      |some e=>
       cases hr':Di t h rs' with
       |none=>simp[hmk,hr']at hr
       |some r'=>
        simp[hmk,hr']at hr;subst hr;obtain⟨vs,h1,h2⟩:=Kk hs ht l rs' r' hl hr';have hrep:=Hn ht a;rw[hg]at hrep
        have hv:∃b o,tmps.toList.getD a undef = .pointer (some ⟨b,o+off,none⟩)/\ρ[id]?=some (b,o):=by
         generalize tmps.toList.getD a undef=u at hrep;cases hrep with
         |ptr _ _ _ b o hx=>exact⟨b,o,rfl,hx⟩
        obtain⟨b,o,hv,hρ⟩:=hv
        have hv':tmps.getD a undef = .pointer (some ⟨b,o+off,none⟩):=by
         simpa[Array.getD_eq_getD_getElem?,lG]using hv
        obtain⟨b',o',hr1,hcell⟩:=E8 hs hb;rw[hρ]at hr1;cases hr1;obtain⟨hlen,htk⟩:=Hc c off n cs hrd
        obtain⟨u,hu,hrep2⟩:=HS (P:=P) (b:=b) (o:=o+off) ha hsz hlen hmk (fun j y hy=>by
         obtain⟨u,hu,_,hrp⟩:=hcell (off+j) y (HC htk hy);exact⟨u,by rw[Nat.add_assoc];exact hu,hrp⟩)
        refine⟨u::vs,?_,hrep2,h2⟩
        have hx:(Ex tmps (.cell a ty)).run P w = .ok u w:=by
         simp[Ex,hv',asAddr,hu]
        simp only[List.mapM_cons,Sem.run_bind,hx];simp[h1,Result.andThen,Sem.run_bind]
    |dead=>simp[hb]at hr
    |emap es=>simp[hb]at hr
    |lp _ _ _ _ _ _=>simp[hb]at hr
   |_=>simp[hg]at hr
  split at hc
  ·rename_i n r' h1 h2 h3;cases hc;exact key true n r' h1 (fun _=>h2) h3 rfl
  ·rename_i r' h1 h2;cases hc;exact key false 1 r' h1 (fun hf=>by cases hf) h2 rfl
  ·cases hc
theorem Jl{I:Imm}{w:World}{ρ:Ren}{t:List EV}{h:EH}{tmps:Array Value}{fn:Func}{rs:List ER}{v:EV}(hs:HSim I w ρ h)(ht:RepL w I ρ t tmps.toList)
  (hc:CL P fn.results.toList=some rs) (hr:BP rs t h=some v):∃cv,(results fn tmps).run P w = .ok cv w/\Rep w I ρ v cv:=by
 unfold BP at hr
 cases hre:Di t h rs with
 |none=>simp[hre]at hr
 |some r=>
  obtain⟨vs,h1,h2⟩:=Kk (P:=P) hs ht _ _ _ hc hre
  have hrun:(results fn tmps).run P w = .ok (if h:vs.toArray.size=1 then vs.toArray[0]else .tuple vs.toArray) w:=by
   rw[Yi,Array.mapM_eq_mapM_toList];simp only[map_eq_pure_bind,bind_assoc,pure_bind];rw[Sem.run_bind,h1];simp[Result.andThen]
  refine⟨_,hrun,?_⟩;clear hrun h1;rw[hre]at hr
  match r,vs,h2,hr with
  |[],[],h2,hr=>simp at hr;subst hr;exact He (by simpa using h2)
  |[x],[u],h2,hr=>simp at hr;subst hr;exact h2.1
  |x::y::r,u::u'::vs,h2,hr=>
   simp at hr;subst hr;rw[dif_neg (by simp)]
   exact He (by simpa using h2)
def Off(w w':World)(l:List Deferred):Prop:=
 w'.os=w.os/\w'.tape=w.tape/\w'.output=w.output/\w'.heap.size=w.heap.size/\∀b,(∀d∈l,d.target≠ .collected b)->w'.heap[b]?=w.heap[b]?
theorem Off.keep{I0 I' I:Imm}{w w':World}{l:List Deferred}(h:Off w w' l)(hm:Marks I0 I' w l)(hI:∀b,I.k b->∀d∈l,d.target≠ .collected b):Keep I w w':=
 ⟨h.1,h.2.1,h.2.2.1,by rw[h.2.2.2.1];exact Nat.le_refl _,fun b hb=>h.2.2.2.2 b (hI b hb),fun b cs e fz hb=>⟨cs,fz,(h.2.2.2.2 b (fun d hd he=>by
   obtain⟨b',m1,_,_,_,m5⟩:=hm.mem d hd;rw[m1]at he;cases he;rw[hb]at m5;cases m5)).trans hb,rfl⟩⟩
theorem JZ{F:Fence}{n:Nat}{fn:Func}{tmps:Array Value}{R:Ending->World->Prop}{I0 I:Imm}:∀{l:List Deferred} {w:World},Marks I0 I w l->
  (∀w',Off w w' l->∃v,(results fn tmps).run P w' = .ok v w'/\R (.returned v) w')->LeavesInM F n P fn tmps R l .returning w
 |[],w,_,h=>h w ⟨rfl,rfl,rfl,rfl,fun _ _=>rfl⟩
 |d::l,w,⟨⟨b,h1,h2,h3,h4,h5,h6⟩,h7⟩,h=>by
  have hne:∀c,c≠b->(w.putObj b (.deferred none)).heap[c]?=w.heap[c]?:=fun c hc=>World.putObj_heap_other hc
  have hm:∀{l':List Deferred},(∀d'∈l',d'.target≠ .collected b)->Marks I0 I w l'->Marks I0 I (w.putObj b (.deferred none)) l':=by
   intro l'
   induction l' with
   |nil=>intro _ _;trivial
   |cons x l' ih=>
    rintro hx ⟨⟨c,k1,k2,k3,k4,k5,k6⟩,k7⟩;exact⟨⟨c,k1,k2,k3,k4,by rw[hne c fun e=>hx x (by simp) (by rw[k1,e])];exact k5,k6⟩,ih (fun y hy=>hx y (by simp[hy])) k7⟩
  refine⟨by simp,.inl ⟨b,_,h1,run_takeDeferred h5,JZ (hm h6 h7) fun w' ho=>h w' ⟨ho.1,ho.2.1,ho.2.2.1,by rw[ho.2.2.2.1];simp,fun c hc=>?_⟩⟩⟩
  rw[ho.2.2.2.2 c fun x hx=>hc x (by simp[hx]),hne c fun e=>hc d (by simp) (by rw[h1,e])]
theorem Bk{f:FuncId}{fc:FC}{args:List EV}{h:EH}{R:EV->EH->Prop}(hc:Bc P f=some fc)
  (hrun:∀(I0:Imm) (ρ0:Ren) (w0:World) (Q:Exit->Act->World->Prop),ρ0.length=Bd h->EndsQ P G I0 ρ0 w0 Q (FinR fc.rs R)->OKs P G none I0 ρ0 w0 Q [.c fc.body] ⟨BK args fc.ntmps,h⟩) :
  Tri P G f args h R:=by
 intro I ρ w cargs hI hs ha hg
 unfold Bc at hc
 split at hc
 ·cases hc
 ·rename_i fn hf
  split at hc
  ·cases hc
  ·rename_i c hb
   split at hc
   ·split at hc
    ·rename_i ec rs hec hrs
     cases hc;refine(callsIn_wide (n:=0)).1 (show CallsIn (FR none) 0 P f _ w _ from callsIn_of_wp_marks hf hb trivial ?_ rfl)
     have hQ:EndsQ P G I.bare ρ w (bodyPostM (FR none) 0 P fn fun e w'=>∃v cv h' I' ρ1,e = .returned cv/\R v h'/\Imm.le I I'/\(∀b,I' b->b<w'.heap.size)/\HSim I' w' (ρ++ρ1) h'/\Rep w' I' (ρ++ρ1) v cv/\Keep I w w') (FinR rs R):=by
      intro st ⟨v,hv,hR⟩ a w' hx;obtain⟨I',ρ1,q1,q2,q3,q4,⟨ms,hms,q5⟩,q6,q7⟩:=hx;have hms:a.defers=ms:=by rw[hms];exact List.append_nil ms
      have key:=JZ (F:=FR none) (n:=0) (P:=P) (fn:=fn) (tmps:=a.tmps) (R:=fun e w'=>∃v cv h' I' ρ1,e = .returned cv/\R v h'/\Imm.le I I'/\(∀b,I' b->b<w'.heap.size)/\HSim I' w' (ρ++ρ1) h'/\Rep w' I' (ρ++ρ1) v cv/\Keep I w w') q5 fun w2 ho=>by
       obtain⟨J,j1,j2,j3,j4,j5,j6,_⟩:=q5.base q1;have hk:=ho.keep (I:=J) q5 j6
       have hsJ:HSim J w' (ρ++ρ1) st.h:=q3.reI j5 (fun k b o hd hr=>by
        obtain⟨b2,o2,k1,k2,_⟩:=OS.lt (q3.live k) hd;rw[hr]at k1;cases k1;exact fun hj=>k2 (j2.k _ hj)) j2.P.symm
       have hs2:HSim J w2 (ρ++ρ1) st.h:=hsJ.keep hk fun k b o hd hr=>by
        obtain⟨b2,o2,k1,k2,_⟩:=OS.lt (q3.live k) hd;rw[hr]at k1;cases k1
        exact ho.2.2.2.2 b fun d hd2 e=>by
         obtain⟨b',m1,m2,_⟩:=q5.mem d hd2;rw[m1]at e;cases e;exact k2 m2
       obtain⟨cv,hcv,hrep⟩:=Jl (P:=P) (fn:=fn) hs2 (q4.map fun _ _ x=>(x.imm j5).keep hk) hrs hv
       exact⟨cv,hcv,v,cv,st.h,J,ρ1,rfl,hR,j1.unbare,fun b hb=>by rw[ho.2.2.2.1];exact q2 b (j2.k b hb),hs2,hrep,q6.unbare.trans (hk.mono j1.k)⟩
      rw[<-hms]at key;exact⟨key,key⟩
     have:=hrun I.bare ρ w _ hs.len hQ;refine(this _ (KW.c hec KW.nil) _ w ⟨I,[],Imm.le.bare I,hI,by simpa using hs,?_,⟨[],rfl,trivial⟩,Keep.refl I.bare w,hg⟩)
     simp only[List.append_nil];rw[Jk];have hl:args.length=cargs.size:=by simpa using ha.length
     have:(cargs++Array.replicate (fn.ntmps-cargs.size) undef).toList=cargs.toList++List.replicate (fn.ntmps-cargs.size) undef:=by simp
     rw[this,hl];refine ha.app (RepL.mk (by simp) fun j x v hx hv=>?_)
     simp only[List.getElem?_replicate]at hx hv;split at hx
     ·rename_i hlt
      rw[if_pos hlt]at hv;cases hx;cases hv;exact .lit _ _
     ·cases hx
    ·cases hc
   ·cases hc
theorem Tri.mv{f:FuncId}{args:List EV}{h:EH}{R R':EV->EH->Prop}(t:Tri P G f args h R)
  (k:∀v h',R v h'->∃σ fr,σ.take (Bd h)=List.range (Bd h)/\Dh σ fr h'/\R' (mvE (mvG σ fr) (mvZ fr h') v) (mvH σ fr h' σ)):Tri P G f args h R':=
 fun I ρ w cargs a b c d=>(t I ρ w cargs a b c d).mono fun e w' ⟨v,cv,h',I',ρ1,q1,q2,q3,q4,q5,q6,q7⟩=>by
  obtain⟨σ,fr,k1,k2,k3⟩:=k v h' q2;obtain⟨J,j1,j2,j3,j4,j5⟩:=Hl q5 q4 k2;have hl:ρ.length=Bd h:=b.len
  have hren:BM (ρ++ρ1) σ=ρ++BM (ρ++ρ1) (σ.drop ρ.length):=by
   have:σ=List.range ρ.length++σ.drop ρ.length:=by rw[hl,<-k1];exact(List.take_append_drop _ _).symm
   conv=>lhs;rw[this]
   simp only[BM,List.map_append];congr 1;apply List.ext_getElem?;intro i
   by_cases hi:i<ρ.length
   ·simp[hi,List.getElem?_append_left hi]
   ·simp[hi]
  exact⟨_,cv,_,J,_,q1,k3,q3.trans j1,j2,by rw[<-hren];exact j4,by rw[<-hren];exact j5 _ _ q6,q7⟩
theorem Ji{w:World}{J I:Imm}{ρ ρ':Ren}{g z}:∀{t:List EV} {us:List Value},(∀e v,e∈t->Rep w I ρ e v->Rep w J ρ' (mvE g z e) v)->RepL w I ρ t us->RepL w J ρ' (mvL g z t) us
 |[],[],_,_=>by simp[mvL,RepL]
 |_::_,_::_,h,hr=>by simp only[mvL];exact⟨h _ _ (by simp) hr.1,Ji (fun e v he=>h e v (by simp[he])) hr.2⟩
def CX(g:Nat->Option Nat)(h:EH):EH->EH
 |[]=>h
 |o::l=>CX g (Bx h (mvO g (fun _=>none) o)) l
theorem Kg(g):∀(l:EH) (h:EH),Bd (CX g h l)=Bd h+Bd l
 |[],h=>by simp[CX,Bd]
 |o::l,h=>by simp[CX,Kg g l,D8,Bd];omega
theorem G9(g):∀(l:EH) (h:EH) (i:Nat),Bh (CX g h l) i=if i<Bd h then Bh h i else mvO g (fun _=>none) (Bh l (i-Bd h))
 |[],h,i=>by
  simp only[CX,Bh,mvO];split
  ·rfl
  ·exact HD h i (by omega)
 |o::l,h,i=>by
  rw[CX,G9 g l,D8];rcases Nat.lt_trichotomy i (Bd h)with hlt|heq|hgt
  ·rw[if_pos (by omega),if_pos hlt,CZ h _ i hlt]
  ·subst heq;rw[if_pos (by omega),if_neg (by omega),ES];simp[Bh]
  ·rw[if_neg (by omega),if_neg (by omega)]
   obtain⟨k,hk⟩:∃k,i-Bd h=k+1:=⟨i-Bd h-1,by omega⟩
   rw[hk,show i-(Bd h+1)=k by omega];rfl
def niO:EO->Bool
 | .dead=>true
 | .blk c=>niL c
 | .emap es=>es.all fun p=>niE p.1&&niE p.2
 | .lp t _ _ _ _ _=>niL t
def niH:EH->Bool
 |[]=>true
 |o::l=>niO o&&niH l
theorem EJ:∀{h:EH},niH h=true->∀id,niO (Bh h id)=true
 |[],_,_=>rfl
 |o::l,h,0=>by simp[niH]at h;exact h.1
 |o::l,h,id+1=>by simp[niH]at h;exact EJ h.2 id
def shG(n:Nat)(i:Nat):Option Nat:=some (n+i)
theorem Tri.frame{f:FuncId}{args:List EV}{h:EH}{R:EV->EH->Prop}(fr:List Nat)(hfr:∀id∈fr,∃c,Bh h id = .blk c/\clL c=true)
  (t:Tri P G f (mvL (mvG [] fr) (mvZ fr h) args) [] R) (hni:fr=[]\/∀v h',R v h'->niE v=true/\niH h'=true) :
  Tri P G f args h fun v h'=>∃v0 h0,R v0 h0/\v=mvE (shG (Bd h)) (fun _=>none) v0/\h'=CX (shG (Bd h)) h h0:=by
 intro I ρ w cargs hI hs ha hg
 obtain⟨J,j1,j2,j3,j4,j5⟩:=Hl (σ:=[]) hs hI ⟨by simp,by simp,hfr⟩
 let L:Nat->Prop:=fun b=>∃id o,ρ[id]?=some (b,o)/\Bh h id≠ .dead
 have hL:∀b,L b->¬I b/\b<w.heap.size:=fun b ⟨id,o,hr,hd⟩=>by
  obtain⟨b',o',h1,h2,h3⟩:=OS.lt (hs.live id) hd;rw[hr]at h1;cases h1;exact⟨h2,h3⟩
 let I1:Imm:=⟨fun b=>I b\/L b,J.j,fun b hb=>by
  rcases j3 b (J.sub b hb)with h1|⟨id,_,o,hr,hd⟩
  ·exact .inl h1
  ·exact .inr ⟨id,o,hr,hd⟩,I.P,I.D⟩
 have hI1:∀b,I1 b->b<w.heap.size:=fun b hb=>hb.elim (hI b) fun hl=>(hL b hl).2
 have hs1:HSim I1 w [] []:=⟨rfl,fun id=>trivial,fun i j b o o' hi=>absurd rfl hi⟩
 have ha1:RepL w I1 [] (mvL (mvG [] fr) (mvZ fr h) args) cargs.toList:=Hr (J:=I1) (ρ':=[]) (fun e v hr=>Rep.imm (I:=J) (J:=I1) (j5 e v hr) fun _ hb=>hb) ha
 refine(t I1 [] w cargs hI1 hs1 ha1 ⟨fun g c hg' ρ=>(hg.1 g c hg' ρ).imm j1.j,hg.2⟩).mono fun e w' ⟨v,cv,h',I',ρ1,q1,q2,q3,q4,q5,q6,q7⟩=>?_
 simp only[lN]at q5 q6
 have hkeep:Keep I w w':=q7.mono fun b hb=>.inl hb
 have fin:∀I2:Imm,Imm.le I I2->(∀b,I2 b->b<w'.heap.size)->(∀b,¬I' b->¬I2 b)->(∀b,L b->¬I2 b)->
   (∀e v,((∃id,∃c,(Bh h' id = .blk c\/∃ps asg body st pd,Bh h' id = .lp c ps asg body st pd)/\e∈c)\/(∃id es,Bh h' id = .emap es/\∃p∈es,e=p.1\/e=p.2)\/R e h')->Rep w' I' ρ1 e v->Rep w' I2 ρ1 e v)->
   ∃v cv h' I' ρ1,e = .returned cv/\(∃v0 h0,R v0 h0/\v=mvE (shG (Bd h)) (fun _=>none) v0/\h'=CX (shG (Bd h)) h h0)/\Imm.le I I'/\(∀b,I' b->b<w'.heap.size)/\HSim I' w' (ρ++ρ1) h'/\
    Rep w' I' (ρ++ρ1) v cv/\Keep I w w':=by
  intro I2 hle hsz h2 h3 h4
  have back:∀e v,Rep w' I2 ρ1 e v->Rep w' I2 (ρ++ρ1) (mvE (shG (Bd h)) (fun _=>none) e) v:=fun e v hr=>
   Ku (fun b hb=>hb) (fun id i x hg hx=>by
    cases hg;rw[List.getElem?_append_right (by rw[hs.len];omega),hs.len,Nat.add_sub_cancel_left];exact hx) (fun id c b o hgn=>by cases hgn) hr
  refine⟨_,cv,_,I2,ρ1,q1,⟨v,h',q2,rfl,rfl⟩,hle,hsz,⟨?_,fun id=>?_,fun i j b o o' hi hj h1 h2'=>?_⟩,back _ _ (h4 _ _ (.inr (.inr q2)) q6),hkeep⟩
  ·simp[Kg,hs.len,q5.len]
  ·rw[G9]
   split
   ·rename_i hlt
    have hos:=hs.live id;cases hk:Bh h id with
    |dead=>trivial
    |blk c=>
     rw[hk]at hos;obtain⟨b,o,cs,e,fz,k1,k2,k3,k4,k5,k6⟩:=hos;have hLb:L b:=⟨id,o,k1,by rw[hk];simp⟩
     refine⟨b,o,cs,e,fz,getElem?_app k1,h3 b hLb,by rw[q7.same b (.inr hLb)];exact k3,k4,k5,fun j x hx=>?_⟩
     obtain⟨u,p1,p2,p3⟩:=k6 j x hx;exact⟨u,p1,p2,((p3.keep hkeep).imm hle.j).ext ρ1⟩
    |emap es=>
     rw[hk]at hos;obtain⟨b,o,ents,cl,k1,k2,k3,k4,k5⟩:=hos;have hLb:L b:=⟨id,o,k1,by rw[hk];simp⟩
     refine⟨b,o,ents,cl,getElem?_app k1,h3 b hLb,by rw[q7.same b (.inr hLb)];exact k3,k4,fun j x hx=>?_⟩
     obtain⟨u,p1,p2,p3⟩:=k5 j x hx;exact⟨u,p1,((p2.keep hkeep).imm hle.j).ext ρ1,((p3.keep hkeep).imm hle.j).ext ρ1⟩
    |lp t ps asg body st pd=>
     rw[hk]at hos;obtain⟨b,r,k1,k2,k3,k4,k5,k6,k7,k8⟩:=hos;have hLb:L b:=⟨id,0,k1,by rw[hk];simp⟩
     exact⟨b,r,getElem?_app k1,h3 b hLb,by rw[q7.same b (.inr hLb)];exact k3,k4.map fun _ _ x=>((x.keep hkeep).imm hle.j).ext ρ1,k5,by rw[hle.P];exact k6,by rw[hle.P];exact k7,k8⟩
   ·rename_i hge
    have hos:=q5.live (id-Bd h)
    have hr:∀x,ρ1[id-Bd h]?=some x->(ρ++ρ1)[id]?=some x:=fun x hx=>by
     rw[List.getElem?_append_right (by rw[hs.len];omega),hs.len];exact hx
    cases hk:Bh h' (id-Bd h)with
    |dead=>trivial
    |blk c=>
     rw[hk]at hos;obtain⟨b,o,cs,e,fz,k1,k2,k3,k4,k5,k6⟩:=hos;refine⟨b,o,cs,e,fz,hr _ k1,h2 b k2,k3,k4,by rw[Ee];exact k5,fun j x hx=>?_⟩
     rw[DS]at hx;obtain⟨x0,hx0,rfl⟩:=Option.map_eq_some_iff.1 hx;obtain⟨u,p1,p2,p3⟩:=k6 j x0 hx0;exact⟨u,p1,p2,back _ _ (h4 _ _ (.inl ⟨_,c,.inl hk,List.mem_of_getElem? hx0⟩) p3)⟩
    |emap es=>
     rw[hk]at hos;obtain⟨b,o,ents,cl,k1,k2,k3,k4,k5⟩:=hos;refine⟨b,o,ents,cl,hr _ k1,h2 b k2,k3,by rw[IW];exact k4,fun j x hx=>?_⟩
     rw[Ib]at hx;obtain⟨x0,hx0,rfl⟩:=Option.map_eq_some_iff.1 hx;obtain⟨u,p1,p2,p3⟩:=k5 j x0 hx0;exact⟨u,p1,back _ _ (h4 _ _ (.inr (.inl ⟨_,es,hk,x0,List.mem_of_getElem? hx0,.inl rfl⟩)) p2),back _ _ (h4 _ _ (.inr (.inl ⟨_,es,hk,x0,List.mem_of_getElem? hx0,.inr rfl⟩)) p3)⟩
    |lp t ps asg body st pd=>
     rw[hk]at hos;obtain⟨b,r,k1,k2,k3,k4,k5,k6,k7,k8⟩:=hos;have hPP:I2.P=I'.P:=by rw[hle.P,q3.P]
     exact⟨b,r,hr _ k1,h2 b k2,k3,Ji (fun e u he x=>back _ _ (h4 e u (.inl ⟨_,t,.inr ⟨_,_,_,_,_,hk⟩,he⟩) x)) k4,k5,by rw[hPP];exact k6,by rw[hPP];exact k7,k8⟩
  ·
   have old:∀k b o,k<Bd h->Bh (CX (shG (Bd h)) h h') k≠ .dead->(ρ++ρ1)[k]?=some (b,o)->ρ[k]?=some (b,o)/\Bh h k≠ .dead:=fun k b o hk hd hr=>by
    rw[G9,if_pos hk]at hd;rw[List.getElem?_append_left (by rw[hs.len];exact hk)]at hr
    exact⟨hr,hd⟩
   have new:∀k b o,¬k<Bd h->Bh (CX (shG (Bd h)) h h') k≠ .dead->(ρ++ρ1)[k]?=some (b,o)->ρ1[k-Bd h]?=some (b,o)/\Bh h' (k-Bd h)≠ .dead/\¬L b:=fun k b o hk hd hr=>by
    rw[G9,if_neg hk]at hd;rw[List.getElem?_append_right (by rw[hs.len];omega),hs.len]at hr
    have hd':Bh h' (k-Bd h)≠ .dead:=fun he=>by rw[he]at hd;exact hd rfl
    obtain⟨b',o',p1,p2,_⟩:=OS.lt (q5.live _) hd';rw[hr]at p1;cases p1;exact⟨hr,hd',fun hl=>p2 (q3.k b (.inr hl))⟩
   by_cases hil:i<Bd h<;>by_cases hjl:j<Bd h
   ·obtain⟨a1,a2⟩:=old i b o hil hi h1
    obtain⟨b1,b2⟩:=old j b o' hjl hj h2';exact hs.inj i j b o o' a2 b2 a1 b1
   ·obtain⟨a1,a2⟩:=old i b o hil hi h1
    obtain⟨b1,b2,b3⟩:=new j b o' hjl hj h2';exact absurd ⟨i,o,a1,a2⟩ b3
   ·obtain⟨a1,a2,a3⟩:=new i b o hil hi h1
    obtain⟨b1,b2⟩:=old j b o' hjl hj h2';exact absurd ⟨j,o',b1,b2⟩ a3
   ·obtain⟨a1,a2,_⟩:=new i b o hil hi h1
    obtain⟨b1,b2,_⟩:=new j b o' hjl hj h2';have:=q5.inj _ _ b o o' a2 b2 a1 b1;omega
 have hJ:∀b,J.j b->fr=[]->I.j b:=fun b hb he=>by
  rcases j1.new b hb with h1|h1
  ·exact h1
  ·rcases j3 b (J.sub b hb)with h2|⟨id,hid,_⟩
   ·exact absurd h2 h1
   ·rw[he]at hid;cases hid
 rcases hni with hfr0|hni
 ·
  have hjnew:∀b,I'.j b->I.j b\/¬I1.k b:=fun b hb=>(q3.new b hb).imp (fun h1=>hJ b h1 hfr0) id
  let I2:Imm:=⟨fun b=>I b\/(I' b/\¬L b),I'.j,fun b hb=>by
   rcases hjnew b hb with h1|h1
   ·exact .inl (I.sub b h1)
   ·exact .inr ⟨I'.sub b hb,fun hl=>h1 (.inr hl)⟩,I.P,I.D⟩
  refine fin I2 ⟨fun b hb=>.inl hb,fun b hb=>q3.j b (j1.j b hb),fun b hb=>?_,rfl⟩ (fun b hb=>?_) (fun b hb hb2=>?_) (fun b hb hb2=>?_) (fun e v _ hr=>hr.imm fun b hb=>hb)
  ·rcases hjnew b hb with h1|h1
   ·exact .inl h1
   ·exact .inr fun hk=>h1 (.inl hk)
  ·rcases hb with hb|hb
   ·exact Nat.lt_of_lt_of_le (hI b hb) hkeep.size
   ·exact q4 b hb.1
  ·rcases hb2 with hb2|hb2
   ·exact hb (q3.k b (.inl hb2))
   ·exact hb hb2.1
  ·rcases hb2 with hb2|hb2
   ·exact(hL b hb).1 hb2
   ·exact hb2.2 hb
 ·obtain⟨n1,n2⟩:=hni v h' q2
  refine fin I (Imm.le.refl I) (fun b hb=>Nat.lt_of_lt_of_le (hI b hb) hkeep.size) (fun b hb hb2=>hb (q3.k b (.inl hb2))) (fun b hb=>(hL b hb).1) (fun e u he hr=>RG I hr ?_)
  rcases he with ⟨id,c,hk|⟨ps,asg,body,st,pd,hk⟩,hm⟩|⟨id,es,hk,p,hp,he⟩|he
  ·have:=EJ n2 id
   rw[hk]at this;obtain⟨j,hj⟩:=List.getElem?_of_mem hm;exact Dx this j e hj
  ·have:=EJ n2 id
   rw[hk]at this;obtain⟨j,hj⟩:=List.getElem?_of_mem hm;exact Dx this j e hj
  ·have:=EJ n2 id
   rw[hk]at this;simp only[niO,List.all_eq_true,Bool.and_eq_true]at this;rcases he with rfl|rfl
   ·exact(this p hp).1
   ·exact(this p hp).2
  ·exact(hni e h' he).1
end
set_option linter.defProp false
def fI_:=@FinR.intro
end Go.Proofs.YtkjhfefbklcciaaGreatDoor.Em
