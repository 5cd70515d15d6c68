/- No conditions. -/
import Derived.Test.YtkjhfefbklcciaaGreatDoorX35
set_option linter.unusedVariables false
set_option linter.unusedSimpArgs false
namespace Go.Proofs.YtkjhfefbklcciaaGreatDoor.Em
open Go
def bkG(σ:List Nat)(n i:Nat):Option Nat:=match σ[i]? with|some id=>some id|none=>some (n+(i-σ.length))
def EA(σ:List Nat)(g:Nat->Option Nat)(h0:EH):EH->Nat->EH
 |[],_=>[]
 |o::l,id=>(match ixL σ id 0 with|some i=>mvO g (fun _=>none) (Bh h0 i)|none=>o)::EA σ g h0 l (id+1)
def Dn:Nat->EH->EH
 |0,h=>h
 |_+1,[]=>[]
 |n+1,_::h=>Dn n h
def D0(σ:List Nat)(h h0:EH):EH:=CX (bkG σ (Bd h)) (EA σ (bkG σ (Bd h)) h0 h 0) (Dn σ.length h0)
theorem Kt(σ g h0):∀(l:EH) (k:Nat),Bd (EA σ g h0 l k)=Bd l
 |[],_=>rfl
 |o::l,k=>by simp[EA,Bd,Kt σ g h0 l]
theorem Lq(σ g h0):∀(l:EH) (k i:Nat),i<Bd l->Bh (EA σ g h0 l k) i=match ixL σ (k+i) 0 with|some j=>mvO g (fun _=>none) (Bh h0 j)|none=>Bh l i
 |[],k,i,h=>by simp[Bd]at h
 |o::l,k,0,_=>by simp only[EA,Bh,Nat.add_zero]
 |o::l,k,i+1,h=>by
  simp only[EA,Bh];rw[Lq σ g h0 l (k+1) i (by simpa[Bd]using h),show k+1+i=k+(i+1) by omega]
theorem RI:∀(n:Nat) (h:EH) (i:Nat),Bh (Dn n h) i=Bh h (n+i)
 |0,h,i=>by simp[Dn]
 |n+1,[],i=>by simp[Dn,Bh]
 |n+1,o::h,i=>by rw[Dn,RI n h i,show n+1+i=(n+i)+1 by omega];rfl
theorem Pg:∀(n:Nat) (h:EH),Bd (Dn n h)=Bd h-n
 |0,h=>by simp[Dn]
 |n+1,[]=>by simp[Dn,Bd]
 |n+1,o::h=>by simp[Dn,Bd,Pg n h]
theorem PX:∀{l:List Nat} {id k:Nat},ixL l id k=none->id∉l
 |[],_,_,_=>by simp
 |x::l,id,k,h=>by
  simp only[ixL]at h;split at h
  ·cases h
  ·rename_i hx
   have:=PX h;simp only[List.mem_cons,not_or];exact⟨fun e=>hx (by simp[e]),this⟩
section
variable {P:Program} {G:List (List EV)}
theorem Ez(σ:List Nat)(h h0:EH):Bd (D0 σ h h0)=Bd h+(Bd h0-σ.length):=by
 simp[D0,Kg,Kt,Pg]
theorem HF(σ:List Nat)(h h0:EH)(k:Nat) :
  (k<Bd h/\k∉σ/\Bh (D0 σ h h0) k=Bh h k)\/
  (∃i,bkG σ (Bd h) i=some k/\(k<Bd h->i<σ.length)/\(¬k<Bd h->i=σ.length+(k-Bd h))/\Bh (D0 σ h h0) k=mvO (bkG σ (Bd h)) (fun _=>none) (Bh h0 i)):=by
 unfold D0
 rw[G9,Kt]
 by_cases hk:k<Bd h
 ·rw[if_pos hk,Lq _ _ _ _ _ _ hk,Nat.zero_add]
  cases hi:ixL σ k 0 with
  |none=>exact .inl ⟨hk,PX hi,rfl⟩
  |some i=>
   have:=(KX hi).2;simp at this;exact .inr ⟨i,by simp[bkG,this],fun _=>(List.getElem?_eq_some_iff.1 this).1,fun h=>absurd hk h,rfl⟩
 ·rw[if_neg hk,RI]
  refine .inr ⟨σ.length+(k-Bd h),?_,fun h=>absurd h hk,fun _=>rfl,rfl⟩
  have:σ[σ.length+(k-Bd h)]?=none:=List.getElem?_eq_none (by omega)
  simp only[bkG,this];congr 1;omega
theorem Tri.sub{f:FuncId}{args:List EV}{h:EH}{R:EV->EH->Prop}(σ fr:List Nat)(ok:Dh σ fr h)(hdis:∀id∈σ,id∉fr)
  (t:Tri P G f (mvL (mvG σ fr) (mvZ fr h) args) (mvH σ fr h σ) R) (hni:fr=[]\/∀v h',R v h'->niE v=true/\niH h'=true) :
  Tri P G f args h fun v h'=>∃v0 h0,R v0 h0/\v=mvE (bkG σ (Bd h)) (fun _=>none) v0/\h'=D0 σ h h0:=by
 intro I ρ w cargs hI hs ha hg
 obtain⟨J,j1,j2,j3,j4,j5⟩:=Hl hs hI ok
 obtain⟨ok1,ok2,ok3⟩:=ok
 let L:Nat->Prop:=fun b=>∃id o,id∉σ/\ρ[id]?=some (b,o)/\Bh h id≠ .dead
 have hL:∀b,L b->¬I b/\b<w.heap.size:=fun b ⟨id,o,_,hr,hd⟩=>by
  obtain⟨b',o',h1,h2,h3⟩:=OS.lt (hs.live id) hd;rw[hr]at h1;cases h1;exact⟨h2,h3⟩
 have hsl:∀id∈σ,id<ρ.length:=fun id hid=>by rw[hs.len];exact ok2 id hid
 let I1:Imm:=⟨fun b=>I b\/L b,J.j,fun b hb=>by
  rcases j3 b (J.sub b hb)with h1|⟨id,hid,o,hr,hd⟩
  ·exact .inl h1
  ·exact .inr ⟨id,o,fun hm=>hdis id hm hid,hr,hd⟩,I.P,I.D⟩
 have hI1:∀b,I1 b->b<w.heap.size:=fun b hb=>hb.elim (hI b) fun hl=>(hL b hl).2
 have notL:∀i b o,Bh (mvH σ fr h σ) i≠ .dead->(BM ρ σ)[i]?=some (b,o)->¬L b:=fun i b o hd hr ⟨id,o',hn,hr',hd'⟩=>by
  obtain⟨id0,e1,e2⟩:=Uq hsl hr
  have hd0:Bh h id0≠ .dead:=fun he=>by
   rw[Kc,e1]at hd;simp only[he,mvO,ite_self,ne_eq,not_true_eq_false]at hd
  have:=hs.inj id0 id b o o' hd0 hd' e2 hr';subst this;exact hn (List.mem_of_getElem? e1)
 have hs1:HSim I1 w (BM ρ σ) (mvH σ fr h σ):=j4.reI (fun b hb=>hb) (fun i b o hd hr hb=>by
  obtain⟨b',o',h1,h2,h3⟩:=OS.lt (j4.live i) hd;rw[hr]at h1;cases h1;rcases hb with hb|hb
  ·exact h2 (j1.k b hb)
  ·exact notL i b o hd hr hb) j1.P.symm
 have ha1:RepL w I1 (BM ρ σ) (mvL (mvG σ fr) (mvZ fr h) args) cargs.toList:=Hr (J:=I1) (ρ':=BM ρ σ) (fun e v hr=>Rep.imm (I:=J) (J:=I1) (j5 e v hr) fun _ hb=>hb) ha
 have hrl:(BM ρ σ).length=σ.length:=by simp[BM]
 refine(t I1 (BM ρ σ) w cargs hI1 hs1 ha1 ⟨fun g c hg' ρ=>(hg.1 g c hg' ρ).imm j1.j,hg.2⟩).mono fun e w' ⟨v,cv,h',I',ρ1,q1,q2,q3,q4,q5,q6,q7⟩=>?_
 have hkeep:Keep I w w':=q7.mono fun b hb=>.inl hb
 have hszc:(BM ρ σ++ρ1).length=Bd h':=q5.len
 have hle':σ.length<=Bd h':=by rw[<-hszc,List.length_append,hrl];omega
 have hl1:ρ1.length=Bd h'-σ.length:=by rw[List.length_append,hrl]at hszc;omega
 have hback:∀(i id:Nat) (x:Nat×Nat),bkG σ (Bd h) i=some id->(BM ρ σ++ρ1)[i]?=some x->(ρ++ρ1)[id]?=some x:=fun i id x hg hx=>by
  unfold bkG at hg;cases hi:σ[i]? with
  |some id0=>
   rw[hi]at hg;cases hg;rw[List.getElem?_append_left (by rw[hrl];exact(List.getElem?_eq_some_iff.1 hi).1),DM hsl hi]at hx
   exact getElem?_app hx
  |none=>
   rw[hi]at hg;cases hg;have hge:=List.getElem?_eq_none_iff.1 hi;rw[List.getElem?_append_right (by rw[hrl];exact hge),hrl]at hx
   rw[List.getElem?_append_right (by rw[hs.len];omega),hs.len,Nat.add_sub_cancel_left]
   exact hx
 have fin:∀I2:Imm,Imm.le I I2->(∀b,I2 b->b<w'.heap.size)->(∀b,¬I' b->¬I2 b)->(∀b,L b->¬I2 b)->
   (∀e v,((∃id,∃c,(Bh h' id = .blk c\/∃ps asg body st pd,Bh h' id = .lp c ps asg body st pd)/\e∈c)\/(∃id es,Bh h' id = .emap es/\∃p∈es,e=p.1\/e=p.2)\/R e h')->Rep w' I' (BM ρ σ++ρ1) e v->Rep w' I2 (BM ρ σ++ρ1) e v)->
   ∃v cv h' I' ρ1,e = .returned cv/\(∃v0 h0,R v0 h0/\v=mvE (bkG σ (Bd h)) (fun _=>none) v0/\h'=D0 σ h h0)/\Imm.le I I'/\(∀b,I' b->b<w'.heap.size)/\HSim I' w' (ρ++ρ1) h'/\
    Rep w' I' (ρ++ρ1) v cv/\Keep I w w':=by
  intro I2 hle hsz h2 h3 h4
  have back:∀e v,Rep w' I2 (BM ρ σ++ρ1) e v->Rep w' I2 (ρ++ρ1) (mvE (bkG σ (Bd h)) (fun _=>none) e) v:=fun e v hr=>
   Ku (fun b hb=>hb) hback (fun id c b o _ hz _=>by cases hz) hr
  refine⟨_,cv,_,I2,ρ1,q1,⟨v,h',q2,rfl,rfl⟩,hle,hsz,⟨?_,fun id=>?_,fun i j b o o' hi hj h1 h2'=>?_⟩,back _ _ (h4 _ _ (.inr (.inr q2)) q6),hkeep⟩
  ·rw[Ez,List.length_append,hs.len,hl1]
  ·rcases HF σ h h' id with ⟨hlt,hns,heq⟩|⟨i,hbk,_,_,heq⟩
   ·rw[heq]
    have hos:=hs.live id;cases hk:Bh h id with
    |dead=>trivial
    |blk c=>
     rw[hk]at hos;obtain⟨b,o,cs,e,fz,k1,k2,k3,k4,k5,k6⟩:=hos;have hLb:L b:=⟨id,o,hns,k1,by rw[hk];simp⟩
     refine⟨b,o,cs,e,fz,getElem?_app k1,h3 b hLb,by rw[q7.same b (.inr hLb)];exact k3,k4,k5,fun j x hx=>?_⟩
     obtain⟨u,p1,p2,p3⟩:=k6 j x hx;exact⟨u,p1,p2,((p3.keep hkeep).imm hle.j).ext ρ1⟩
    |emap es=>
     rw[hk]at hos;obtain⟨b,o,ents,cl,k1,k2,k3,k4,k5⟩:=hos;have hLb:L b:=⟨id,o,hns,k1,by rw[hk];simp⟩
     refine⟨b,o,ents,cl,getElem?_app k1,h3 b hLb,by rw[q7.same b (.inr hLb)];exact k3,k4,fun j x hx=>?_⟩
     obtain⟨u,p1,p2,p3⟩:=k5 j x hx;exact⟨u,p1,((p2.keep hkeep).imm hle.j).ext ρ1,((p3.keep hkeep).imm hle.j).ext ρ1⟩
    |lp t ps asg body st pd=>
     rw[hk]at hos;obtain⟨b,r,k1,k2,k3,k4,k5,k6,k7,k8⟩:=hos;have hLb:L b:=⟨id,0,hns,k1,by rw[hk];simp⟩
     exact⟨b,r,getElem?_app k1,h3 b hLb,by rw[q7.same b (.inr hLb)];exact k3,k4.map fun _ _ x=>((x.keep hkeep).imm hle.j).ext ρ1,k5,by rw[hle.P];exact k6,by rw[hle.P];exact k7,k8⟩
   ·rw[heq]
    have hos:=q5.live i;cases hk:Bh h' i with
    |dead=>trivial
    |blk c=>
     rw[hk]at hos;obtain⟨b,o,cs,e,fz,k1,k2,k3,k4,k5,k6⟩:=hos;refine⟨b,o,cs,e,fz,hback _ _ _ hbk k1,h2 b k2,k3,k4,by rw[Ee];exact k5,fun j x hx=>?_⟩
     rw[DS]at hx;obtain⟨x0,hx0,rfl⟩:=Option.map_eq_some_iff.1 hx;obtain⟨u,p1,p2,p3⟩:=k6 j x0 hx0;exact⟨u,p1,p2,back _ _ (h4 _ _ (.inl ⟨_,c,.inl hk,List.mem_of_getElem? hx0⟩) p3)⟩
    |emap es=>
     rw[hk]at hos;obtain⟨b,o,ents,cl,k1,k2,k3,k4,k5⟩:=hos;refine⟨b,o,ents,cl,hback _ _ _ hbk k1,h2 b k2,k3,by rw[IW];exact k4,fun j x hx=>?_⟩
     rw[Ib]at hx;obtain⟨x0,hx0,rfl⟩:=Option.map_eq_some_iff.1 hx;obtain⟨u,p1,p2,p3⟩:=k5 j x0 hx0;exact⟨u,p1,back _ _ (h4 _ _ (.inr (.inl ⟨_,es,hk,x0,List.mem_of_getElem? hx0,.inl rfl⟩)) p2),back _ _ (h4 _ _ (.inr (.inl ⟨_,es,hk,x0,List.mem_of_getElem? hx0,.inr rfl⟩)) p3)⟩
    |lp t ps asg body st pd=>
     rw[hk]at hos;obtain⟨b,r,k1,k2,k3,k4,k5,k6,k7,k8⟩:=hos;have hPP:I2.P=I'.P:=by rw[hle.P,q3.P]
     exact⟨b,r,hback _ _ _ hbk k1,h2 b k2,k3,Ji (fun e u he x=>back _ _ (h4 e u (.inl ⟨_,t,.inr ⟨_,_,_,_,_,hk⟩,he⟩) x)) k4,k5,by rw[hPP];exact k6,by rw[hPP];exact k7,k8⟩
  ·
   have cls:∀k b o,Bh (D0 σ h h') k≠ .dead->(ρ++ρ1)[k]?=some (b,o)->(k∉σ/\ρ[k]?=some (b,o)/\Bh h k≠ .dead/\L b)\/
     ∃i,bkG σ (Bd h) i=some k/\(BM ρ σ++ρ1)[i]?=some (b,o)/\Bh h' i≠ .dead/\¬L b:=fun k b o hd hr=>by
    rcases HF σ h h' k with ⟨hlt,hns,heq⟩|⟨i,hbk,hi1,hi2,heq⟩
    ·rw[heq]at hd
     rw[List.getElem?_append_left (by rw[hs.len];exact hlt)]at hr
     exact .inl ⟨hns,hr,hd,k,o,hns,hr,hd⟩
    ·rw[heq]at hd
     have hd':Bh h' i≠ .dead:=fun he=>by rw[he]at hd;exact hd rfl
     obtain⟨b',o',p1,p2,_⟩:=OS.lt (q5.live i) hd';have:=hback _ _ _ hbk p1;rw[hr]at this;cases this;exact .inr ⟨i,hbk,p1,hd',fun hl=>p2 (q3.k b (.inr hl))⟩
   rcases cls i b o hi h1 with ⟨a1,a2,a3,a4⟩|⟨i',a1,a2,a3,a4⟩<;>rcases cls j b o' hj h2' with ⟨b1,b2,b3,b4⟩|⟨j',b1,b2,b3,b4⟩
   ·exact hs.inj i j b o o' a3 b3 a2 b2
   ·exact absurd a4 b4
   ·exact absurd b4 a4
   ·have:=q5.inj i' j' b o o' a3 b3 a2 b2
    subst this;rw[a1]at b1;cases b1;rfl
 have hJ:∀b,J.j b->fr=[]->I.j b:=fun b hb he=>by
  rcases j1.new b hb with h1|h1
  ·exact h1
  ·rcases j3 b (J.sub b hb)with h2|⟨id,hid,_⟩
   ·exact absurd h2 h1
   ·rw[he]at hid;cases hid
 rcases hni with hfr0|hni
 ·have hjnew:∀b,I'.j b->I.j b\/¬I1.k b:=fun b hb=>(q3.new b hb).imp (fun h1=>hJ b h1 hfr0) id
  let I2:Imm:=⟨fun b=>I b\/(I' b/\¬L b),I'.j,fun b hb=>by
   rcases hjnew b hb with h1|h1
   ·exact .inl (I.sub b h1)
   ·exact .inr ⟨I'.sub b hb,fun hl=>h1 (.inr hl)⟩,I.P,I.D⟩
  refine fin I2 ⟨fun b hb=>.inl hb,fun b hb=>q3.j b (j1.j b hb),fun b hb=>?_,rfl⟩ (fun b hb=>?_) (fun b hb hb2=>?_) (fun b hb hb2=>?_) (fun e v _ hr=>hr.imm fun b hb=>hb)
  ·rcases hjnew b hb with h1|h1
   ·exact .inl h1
   ·exact .inr fun hk=>h1 (.inl hk)
  ·rcases hb with hb|hb
   ·exact Nat.lt_of_lt_of_le (hI b hb) hkeep.size
   ·exact q4 b hb.1
  ·rcases hb2 with hb2|hb2
   ·exact hb (q3.k b (.inl hb2))
   ·exact hb hb2.1
  ·rcases hb2 with hb2|hb2
   ·exact(hL b hb).1 hb2
   ·exact hb2.2 hb
 ·obtain⟨n1,n2⟩:=hni v h' q2
  refine fin I (Imm.le.refl I) (fun b hb=>Nat.lt_of_lt_of_le (hI b hb) hkeep.size) (fun b hb hb2=>hb (q3.k b (.inl hb2))) (fun b hb=>(hL b hb).1) (fun e u he hr=>RG I hr ?_)
  rcases he with ⟨id,c,hk|⟨ps,asg,body,st,pd,hk⟩,hm⟩|⟨id,es,hk,p,hp,he⟩|he
  ·have:=EJ n2 id
   rw[hk]at this;obtain⟨j,hj⟩:=List.getElem?_of_mem hm;exact Dx this j e hj
  ·have:=EJ n2 id
   rw[hk]at this;obtain⟨j,hj⟩:=List.getElem?_of_mem hm;exact Dx this j e hj
  ·have:=EJ n2 id
   rw[hk]at this;simp only[niO,List.all_eq_true,Bool.and_eq_true]at this;rcases he with rfl|rfl
   ·exact(this p hp).1
   ·exact(this p hp).2
  ·exact(hni e h' he).1
end
section
variable {P:Program} {G:List (List EV)} {ro:Option Nat} {I0:Imm} {ρ0:Ren} {w0:World} {Q:Exit->Act->World->Prop}
theorem OKK.loop{c:EC}{k:List KI}{s:St}(h:OKs P G ro I0 ρ0 w0 Q (.c (.loop c)::k) s):OKK P G ro I0 ρ0 w0 Q (.c (.loop c)::k) s:=h
theorem OKK.again{c:EC}{k:List KI}{s:St}(h:OKs P G ro I0 ρ0 w0 Q (.lp c::k) s):OKK P G ro I0 ρ0 w0 Q (.lp c::k) s:=h
theorem OKs.loopN{c:EC}{k:List KI}(Inv:Nat->St->Prop)
  (step:∀n s,Inv n s->(∀m s',Inv m s'->m<n->OKs P G ro I0 ρ0 w0 Q (.lp c::k) s')->OKs P G ro I0 ρ0 w0 Q (.c c :: .lp c::k) s) {n:Nat} {s:St} (h0:Inv n s) :
  OKs P G ro I0 ρ0 w0 Q (.c (.loop c)::k) s:=by
 classical
 have least:∀s:St,(∃n,Inv n s)->∃n,Inv n s/\∀m,Inv m s->n<=m:=fun s ⟨n,hn⟩=>by
  induction n using Nat.strongRecOn with
  |_ n ih=>
   by_cases hx:∃m,m<n/\Inv m s
   ·obtain⟨m,h1,h2⟩:=hx;exact ih m h1 h2
   ·exact⟨n,hn,fun m hm=>Classical.byContradiction fun hlt=>hx ⟨m,by omega,hm⟩⟩
 let μ:St->Nat:=fun s=>if h:∃n,Inv n s then Classical.choose (least s h)else 0
 have hμ:∀s (h:∃n,Inv n s),Inv (μ s) s/\∀m,Inv m s->μ s<=m:=fun s h=>by
  have:μ s=Classical.choose (least s h):=dif_pos h;rw[this];exact Classical.choose_spec (least s h)
 refine OKs.loop (fun s=>∃n,Inv n s) μ (fun s hs ih=>?_) ⟨n,h0⟩
 exact step (μ s) s (hμ s hs).1 fun m s' hm hlt=>ih s' ⟨m,hm⟩ (Nat.lt_of_le_of_lt ((hμ s' ⟨m,hm⟩).2 m hm) hlt)
theorem FinR.self{rs:List ER}{R:EV->EH->Prop}{s:St}(h:FinR rs R s):FinR rs R s:=h
theorem FinR.bl{rs:List ER}{s:St}{b:Bool}{p:Prop}(hv:BP rs s.t s.h=some (.lit (.bool b)))(hb:b=true↔p):FinR rs (fun v _=>∃b:Bool,(v = .lit (.bool b)\/v = .sb b)/\(b=true↔p)) s:=⟨_,hv,b,.inl rfl,hb⟩
theorem FinR.bs{rs:List ER}{s:St}{b:Bool}{p:Prop}(hv:BP rs s.t s.h=some (.sb b))(hb:b=true↔p):FinR rs (fun v _=>∃b:Bool,(v = .lit (.bool b)\/v = .sb b)/\(b=true↔p)) s:=⟨_,hv,b,.inr rfl,hb⟩
theorem T0(s:ByteArray):stdA.bsz s=s.size:=rfl
theorem Ps(a b:ByteArray):stdA.ss .eql a b=decide (a=b):=by
 show (a.toList==b.toList)=decide (a=b)
 by_cases h:a=b
 ·subst h;simp
 ·have:a.toList≠b.toList:=fun e=>h (by
   have h1:a.data.toList=b.data.toList:=by simpa[ByteArray.toList_eq]using e
   exact ByteArray.ext (Array.toList_inj.1 h1))
  simp[h,this]
theorem YL(a b:ByteArray):stdA.ss .neq a b=decide (a≠b):=by
 have:=Ps a b
 show (!(stdA.ss .eql a b))=_
 rw[this];simp
end
set_option linter.defProp false
def oL_:=@OKs.loopN
end Go.Proofs.YtkjhfefbklcciaaGreatDoor.Em
