/- No conditions. -/
import Derived.Test.YtkjhfefbklcciaaGreatDoorX22
set_option linter.unusedVariables false
set_option linter.unusedSimpArgs false
namespace Go.Proofs.YtkjhfefbklcciaaGreatDoor.Em
open Go
section
variable {β:Type}
noncomputable def Gl:List EV->Nat->(EV->Option β)->Option β:=
 @List.rec EV (fun _=>Nat->(EV->Option β)->Option β) (fun _ k=>k Bt) (fun x _ ih n k=>@Nat.rec (fun _=>Option β) (k x) (fun m _=>ih m k) n)
theorem H6:∀(l:List EV) (n:Nat) (k:EV->Option β),Gl l n k=k (Bo l n)
 |[],_,_=>by simp only[Bo];rfl
 |x::l,0,k=>rfl
 |x::l,n+1,k=>H6 l n k
noncomputable def I9:List EV->Nat->(EV->Option β)->Option β:=
 @List.rec EV (fun _=>Nat->(EV->Option β)->Option β) (fun _ k=>none) (fun x _ ih n k=>@Nat.rec (fun _=>Option β) (k x) (fun m _=>ih m k) n)
theorem Km:∀(l:List EV) (n:Nat) (k:EV->Option β),I9 l n k=match Cf l n with|some v=>k v|none=>none
 |[],_,_=>by simp only[Cf];rfl
 |x::l,0,k=>rfl
 |x::l,n+1,k=>Km l n k
noncomputable def GE:List EV->Nat->EV->(List EV->Option β)->Option β:=
 @List.rec EV (fun _=>Nat->EV->(List EV->Option β)->Option β) (fun _ _ k=>k [])
  (fun x l ih n v k=>@Nat.rec (fun _=>Option β) (k (v::l)) (fun m _=>ih m v (fun l=>k (x::l))) n)
theorem Gv:∀(l:List EV) (n:Nat) (v:EV) (k:List EV->Option β),GE l n v k=k (Bs l n v)
 |[],_,_,_=>by simp only[Bs];rfl
 |x::l,0,v,k=>rfl
 |x::l,n+1,v,k=>Gv l n v (fun l=>k (x::l))
noncomputable def Gs(t:List EV)(d:Option Nat)(v:EV)(k:List EV->Option β):Option β:=
 @Option.rec Nat (fun _=>Option β) (k t) (fun d=>GE t d v k) d
theorem Hu(t:List EV)(d:Option Nat)(v:EV)(k:List EV->Option β):Gs t d v k=k (Bl t d v):=by
 cases d with
 |none=>rfl
 |some d=>exact Gv t d v k
noncomputable def PN:EH->Nat->(EO->Option β)->Option β:=
 @List.rec EO (fun _=>Nat->(EO->Option β)->Option β) (fun _ k=>k .dead) (fun x _ ih n k=>@Nat.rec (fun _=>Option β) (k x) (fun m _=>ih m k) n)
theorem Rs:∀(l:EH) (n:Nat) (k:EO->Option β),PN l n k=k (Bh l n)
 |[],_,_=>by simp only[Bh];rfl
 |x::l,0,k=>rfl
 |x::l,n+1,k=>Rs l n k
noncomputable def Ec:EH->Nat->EO->(EH->Option β)->Option β:=
 @List.rec EO (fun _=>Nat->EO->(EH->Option β)->Option β) (fun _ _ k=>k [])
  (fun x l ih n v k=>@Nat.rec (fun _=>Option β) (k (v::l)) (fun m _=>ih m v (fun l=>k (x::l))) n)
theorem Jr:∀(l:EH) (n:Nat) (v:EO) (k:EH->Option β),Ec l n v k=k (Br l n v)
 |[],_,_,_=>by simp only[Br];rfl
 |x::l,0,v,k=>rfl
 |x::l,n+1,v,k=>Jr l n v (fun l=>k (x::l))
noncomputable def fS:List EV->(List EV->Option β)->Option β:=
 @List.rec EV (fun _=>(List EV->Option β)->Option β) (fun k=>k []) (fun x _ ih k=>ih (fun l=>k (x::l)))
theorem Gk:∀(l:List EV) (k:List EV->Option β),fS l k=k l
 |[],k=>rfl
 |x::l,k=>Gk l (fun l=>k (x::l))
/-! values written out -/
noncomputable def gE:EV->(EV->Option β)->Option β:=
 @EV.rec (fun _=>(EV->Option β)->Option β) (fun _=>(List EV->Option β)->Option β)
  (fun v k=>fV v fun v=>k (.lit v))
  (fun b k=>fB b fun b=>k (.sb b))
  (fun i o k=>fN i fun i=>fN o fun o=>k (.ptr i o))
  (fun i o k=>fN i fun i=>fN o fun o=>k (.eptr i o))
  (fun es i o n c k=>fN es fun es=>fN i fun i=>fN o fun o=>fN n fun n=>fC c fun c=>k (.sl es i o n c))
  (fun i k=>fN i fun i=>k (.mp i))
  (fun c o _ k=>fN o fun o=>k (.iptr c o))
  (fun n cap c _ k=>fN n fun n=>fC cap fun cap=>k (.isl n cap c))
  (fun f _ _ ia ib k=>ia fun a=>ib fun b=>k (.fn f a b))
  (fun t _ ih k=>ih fun e=>k (.iface t e))
  (fun _ ih k=>ih fun c=>k (.agg c))
  (fun _ ih k=>ih fun c=>k (.tup c))
  (fun k=>k .top)
  (fun i k=>fN i fun i=>k (.yl i))
  (fun k=>k [])
  (fun _ _ ix il k=>ix fun x=>il fun l=>k (x::l))
noncomputable def gL:List EV->(List EV->Option β)->Option β:=
 @List.rec EV (fun _=>(List EV->Option β)->Option β) (fun k=>k []) (fun x _ ih k=>gE x fun x=>ih (fun l=>k (x::l)))
theorem G5:∀(l:List EV),(∀x∈l,∀k:EV->Option β,gE x k=k x)->∀k:EV->Option β,gE (.agg l) k=k (.agg l)
 |[],_,k=>rfl
 |x::l,h,k=>by
  have e:gE (.agg (x::l)) k=gE x fun y=>gE (.agg l) fun e=>match e with | .agg c=>k (.agg (y::c))|_=>none:=rfl
  rw[e,h x (by simp),G5 l (fun y hy=>h y (by simp[hy]))]
theorem Gh:∀(e:EV) (k:EV->Option β),gE e k=k e:=by
 intro e
 induction e using EV.rec (motive_2:=fun l=>∀x∈l,∀k:EV->Option β,gE x k=k x)with
 |lit v=>intro k;have e:gE (.lit v) k=fV v fun v=>k (.lit v):=rfl;rw[e,RM]
 |sb b=>intro k;have e:gE (.sb b) k=fB b fun v=>k (.sb v):=rfl;rw[e,Jo]
 |ptr i o=>intro k;have e:gE (.ptr i o) k=fN i fun i=>fN o fun o=>k (.ptr i o):=rfl;rw[e,BN,BN]
 |eptr i o=>intro k;have e:gE (.eptr i o) k=fN i fun i=>fN o fun o=>k (.eptr i o):=rfl;rw[e,BN,BN]
 |sl a i o n c=>intro k;have e:gE (.sl a i o n c) k=fN a fun es=>fN i fun i=>fN o fun o=>fN n fun n=>fC c fun c=>k (.sl es i o n c):=rfl;rw[e,BN,BN,BN,BN,H9]
 |mp i=>intro k;have e:gE (.mp i) k=fN i fun i=>k (.mp i):=rfl;rw[e,BN]
 |iptr c o=>intro k;have e:gE (.iptr c o) k=fN o fun o=>k (.iptr c o):=rfl;rw[e,BN]
 |isl n cap c=>intro k;have e:gE (.isl n cap c) k=fN n fun n=>fC cap fun cap=>k (.isl n cap c):=rfl;rw[e,BN,H9]
 |fn f a b ha hb=>
  intro k;have e:gE (.fn f a b) k=gE (.agg a) fun ea=>match ea with | .agg a=>gE (.agg b) (fun eb=>match eb with | .agg b=>k (.fn f a b)|_=>none)|_=>none:=rfl
  rw[e,G5 a ha];exact G5 b hb _
 |iface t e ih=>intro k;exact ih (fun e=>k (.iface t e))
 |agg c h=>intro k;exact G5 c h k
 |tup c h=>
  intro k;have e:gE (.tup c) k=gE (.agg c) fun ea=>match ea with | .agg a=>k (.tup a)|_=>none:=rfl
  rw[e,G5 c h]
 |top=>intro k;rfl
 |yl i=>intro k;have e:gE (.yl i) k=fN i fun i=>k (.yl i):=rfl;rw[e,BN]
 |nil=>rename_i h _;cases h
 |cons x l hx hl=>
  rename_i y hy k;rcases List.mem_cons.1 hy with rfl|hy
  ·exact hx k
  ·exact hl y hy k
theorem IX:∀(l:List EV) (k:List EV->Option β),gL l k=k l
 |[],k=>rfl
 |x::l,k=>by
   have e:gL (x::l) k=gE x fun x=>gL l (fun l=>k (x::l)):=rfl
   rw[e,Gh x];exact IX l _
noncomputable def gO(o:EO)(k:EO->Option β):Option β:=
 @EO.rec (fun _=>(EO->Option β)->Option β) (fun k=>k .dead) (fun c k=>gL c fun c=>k (.blk c)) (fun es k=>fM es fun es=>k (.emap es))
  (fun t ps a b st pd k=>fS t fun t=>fN st fun st=>fD pd fun pd=>k (.lp t ps a b st pd)) o k
theorem Iq(o:EO)(k:EO->Option β):gO o k=k o:=by
 cases o with
 |dead=>rfl
 |blk c=>exact IX c _
 |emap es=>exact Ks es _
 |lp t ps a b st pd=>
  have e:gO (.lp t ps a b st pd) k=fS t fun t=>fN st fun st=>fD pd fun pd=>k (.lp t ps a b st pd):=rfl
  rw[e,Gk,BN,Ri]
/-! operands, handed on -/
noncomputable def Bv:Operand->List (List EV)->List EV->(EV->Option β)->Option β:=
 @Operand.rec (fun _=>List (List EV)->List EV->(EV->Option β)->Option β)
  (fun i _ t k=>Gl t i k)
  (fun v _ _ k=>match v with | .agg cs=>gE (.agg (BB cs.toList)) k|v=>k (.lit v))
  (fun g G t k=>match G[g]? with|some c=>k (.iptr c 0)|none=>k (.lit (.pointer (some ⟨g,0,none⟩))))
  (fun f _ _ k=>k (.fn (.func f) [] []))
theorem BD(x:Operand)(G:List (List EV))(t:List EV)(k:EV->Option β):Bv x G t k=k (Bm G t x):=by
 cases x with
 |tmp i=>exact H6 t i k
 |const v=>
  cases v with
  |agg cs=>exact Gh (.agg (BB cs.toList)) k
  |_=>rfl
 |global g=>
  show (match G[g]? with|some c=>k (.iptr c 0)|none=>k (.lit (.pointer (some ⟨g,0,none⟩))))=_
  simp only[Bm];cases G[g]?<;>rfl
 |func f=>rfl
noncomputable def Gb:List Operand->List (List EV)->List EV->(List EV->Option β)->Option β:=
 @List.rec Operand (fun _=>List (List EV)->List EV->(List EV->Option β)->Option β) (fun _ _ k=>k [])
  (fun x _ ih G t k=>Bv x G t fun v=>ih G t fun l=>k (v::l))
theorem Gn:∀(l:List Operand) (G:List (List EV)) (t:List EV) (k:List EV->Option β),Gb l G t k=k (BX G t l)
 |[],_,_,_=>rfl
 |x::l,G,t,k=>by
  show Bv x G t _=_;rw[BD];exact Gn l G t _
noncomputable def JO:List (Nat×Nat×Operand)->List (List EV)->List EV->List EV->(List EV->Option β)->Option β:=
 @List.rec (Nat×Nat×Operand) (fun _=>List (List EV)->List EV->List EV->(List EV->Option β)->Option β) (fun _ _ cs k=>k cs)
  (fun p _ ih G t cs k=>Bv p.2.2 G t fun v=>
   match Dt (BH v)==p.2.1 with
   |true=>match Ce (BH v)with
    |true=>match wrt cs p.1 (BH v)with
     |some r=>ih G t r k
     |none=>none
    |false=>none
   |false=>none)
theorem JB(G:List (List EV))(t:List EV):∀(l:List (Nat×Nat×Operand)) (cs:List EV) (k:List EV->Option β),JO l G t cs k=match Cx G t cs l with|some c=>k c|none=>none
 |[],cs,k=>by simp only[Cx];rfl
 |(off,n,x)::l,cs,k=>by
  show Bv x G t _=_;rw[BD];simp only[Cx];cases h1:Dt (BH (Bm G t x))==n with
  |false=>simp
  |true=>
   cases h2:Ce (BH (Bm G t x))with
   |false=>simp
   |true=>
    simp only[if_true];cases h3:wrt cs off (BH (Bm G t x))with
    |none=>rfl
    |some r=>exact JB G t l r k
/-! outcomes -/
noncomputable def rSR:SR->(EV->EH->Option β)->(FuncId->List EV->Option β)->Option β:=
 @SR.rec (fun _=>(EV->EH->Option β)->(FuncId->List EV->Option β)->Option β) (fun _ _=>none) (fun v h k _=>k v h)
  (fun b _ ih k c=>@Bool.rec (fun _=>Option β) none (ih k c) b)
  (fun c off n agg h k _=>match Cm kA c off n agg with|some v=>k v h|none=>none)
  (fun b v1 h1 v2 h2 k _=>@Bool.rec (fun _=>Option β) (k v2 h2) (k v1 h1) b)
  (fun o ok z h k _=>match o with|none=>k (if ok then .tup [z,.lit (.bool false)]else z) h|some x=>k (if ok then .tup [x,.lit (.bool true)]else x) h)
  (fun f args _ c=>c f args)
  (fun v w h k _=>match eqE v w with|true=>k Bt h|false=>none)
  (fun c off n agg w h k _=>match Cm kA c off n agg with|some v=>(match eqE v w with|true=>k Bt h|false=>none)|none=>none)
theorem Lr(k:EV->EH->Option β)(c:FuncId->List EV->Option β):∀r:SR,rSR r k c=BF kA k c r
 | .stuck=>rfl
 | .ret v h=>rfl
 | .need b r=>by
  cases b with
  |true=>exact Lr k c r
  |false=>rfl
 | .look .. => rfl
 | .br b .. => by cases b<;>rfl
 | .opt o .. => by cases o<;>rfl
 | .call .. => rfl
 | .same .. => rfl
 | .lookS .. => rfl
theorem PH{γ:Type}{Q:Option γ->Prop}{A:Ar}{k:EV->EH->Option β}{k':EV->EH->Option γ}{c:FuncId->List EV->Option β}{c':FuncId->List EV->Option γ}{r:β}
  (hk:∀v h,k v h=some r->Q (k' v h)) (hc:∀f a,c f a=some r->Q (c' f a)):∀s:SR,BF A k c s=some r->Q (BF A k' c' s)
 | .stuck,h=>by simp[BF]at h
 | .ret v h',h=>hk _ _ h
 | .need b s,h=>by
  cases b with
  |true=>exact PH hk hc s h
  |false=>simp[BF]at h
 | .look c off n agg h',h=>by
  simp only[BF]at h ⊢;cases hl:Cm A c off n agg with
  |none=>simp[hl]at h
  |some v=>simp only[hl]at h;exact hk _ _ h
 | .br b v1 h1 v2 h2,h=>by
  cases b with
  |true=>exact hk _ _ h
  |false=>exact hk _ _ h
 | .opt o ok z h',h=>by
  cases o with
  |none=>exact hk _ _ h
  |some x=>exact hk _ _ h
 | .call f args,h=>hc _ _ h
 | .same v w h',h=>by
  simp only[BF]at h ⊢;cases he:eqE v w with
  |true=>simp only[he]at h;exact hk _ _ h
  |false=>simp[he]at h
 | .lookS c off n agg w h',h=>by
  simp only[BF]at h ⊢;cases hl:Cm A c off n agg with
  |none=>simp[hl]at h
  |some v=>
   simp only[hl]at h ⊢;cases he:eqE v w with
   |true=>simp only[he]at h;exact hk _ _ h
   |false=>simp[he]at h
def AllH(h:EH):SR->Prop
 | .stuck=>True
 | .ret _ h'=>h'=h
 | .need _ r=>AllH h r
 | .look _ _ _ _ h'=>h'=h
 | .br _ _ h1 _ h2=>h1=h/\h2=h
 | .opt _ _ _ h'=>h'=h
 | .call _ _=>True
 | .same _ _ h'=>h'=h
 | .lookS _ _ _ _ _ h'=>h'=h
theorem AllH.ex{A:Ar}{k k':EV->EH->Option β}{c:FuncId->List EV->Option β}{h:EH}(hk:∀v,k v h=k' v h):∀{s:SR},AllH h s->BF A k c s=BF A k' c s
 | .stuck,_=>rfl
 | .ret v h',e=>by cases e;exact hk v
 | .need b s,e=>by
  cases b with
  |true=>exact AllH.ex (s:=s) hk e
  |false=>rfl
 | .look ..,e=>by cases e;simp only[BF,hk]
 | .br b ..,⟨e1,e2⟩=>by cases e1;cases e2;simp only[BF,hk]
 | .opt o ..,e=>by cases e;simp only[BF,hk]
 | .call ..,_=>rfl
 | .same ..,e=>by cases e;simp only[BF,hk]
 | .lookS ..,e=>by cases e;simp only[BF,hk]
end
end Go.Proofs.YtkjhfefbklcciaaGreatDoor.Em
