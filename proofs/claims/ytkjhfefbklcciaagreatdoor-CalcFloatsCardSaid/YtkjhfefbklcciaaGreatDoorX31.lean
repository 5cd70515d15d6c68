/- No conditions. -/
import Derived.Test.YtkjhfefbklcciaaGreatDoorX30
set_option linter.unusedVariables false
set_option linter.unusedSimpArgs false
namespace Go.Proofs.YtkjhfefbklcciaaGreatDoor.Em
open Go
section
variable {β γ:Type}
/-! the heap, its newest block first -/
noncomputable def L7:EH->Nat->EO:=
 @List.rec EO (fun _=>Nat->EO) (fun _=>.dead) (fun x _ ih n=>@Nat.rec (fun _=>EO) x (fun m _=>ih m) n)
theorem NB:∀(l:EH) (n:Nat),L7 l n=Bh l n
 |[],_=>by simp only[Bh];rfl
 |x::l,0=>rfl
 |x::l,n+1=>NB l n
noncomputable def gX(n:Nat)(l:EH)(id:Nat):EO:=@Bool.rec (fun _=>EO) .dead (L7 l (Nat.sub (Nat.sub n 1) id)) (Nat.blt id n)
noncomputable def HT(n:Nat)(l:EH)(id:Nat)(k:EO->Option β):Option β:=@Bool.rec (fun _=>Option β) (k .dead) (PN l (Nat.sub (Nat.sub n 1) id) k) (Nat.blt id n)
theorem KZ:∀(l:EH) (i:Nat),Bh l i=(l[i]?).getD .dead
 |[],i=>by simp[Bh]
 |x::l,0=>by simp[Bh]
 |x::l,i+1=>by simpa[Bh]using KZ l i
theorem JT:∀l:EH,Bd l=l.length
 |[]=>rfl
 |x::l=>by simp[Bd,JT l]
theorem G7:∀(l:EH) (o:EO),Bx l o=l++[o]
 |[],o=>rfl
 |x::l,o=>by simp[Bx,G7 l]
theorem EZ:∀(l:EH) (i:Nat) (o:EO),Br l i o=l.set i o
 |[],i,o=>by simp[Br]
 |x::l,0,o=>by simp[Br]
 |x::l,i+1,o=>by simp[Br,EZ l]
theorem LB{n:Nat}{l:EH}(hn:n=l.length)(id:Nat):Bh l.reverse id=if id<n then Bh l (n-1-id)else .dead:=by
 subst hn
 rw[KZ,KZ]
 split
 ·rename_i h;rw[List.getElem?_reverse h]
 ·rename_i h;rw[List.getElem?_eq_none (by simpa using h)];rfl
theorem G1{n:Nat}{l:EH}(hn:n=l.length)(id:Nat):gX n l id=Bh l.reverse id:=by
 rw[LB hn]
 unfold gX
 cases h:Nat.blt id n with
 |true=>
  have:id<n:=by simpa[Nat.blt_eq]using h
  rw[if_pos this];exact NB _ _
 |false=>
  have:¬id<n:=fun hh=>by rw[<-Nat.blt_eq]at hh;rw[h]at hh;cases hh
  rw[if_neg this]
theorem RA{n:Nat}{l:EH}(hn:n=l.length)(id:Nat)(k:EO->Option β):HT n l id k=k (Bh l.reverse id):=by
 rw[LB hn]
 unfold HT
 cases h:Nat.blt id n with
 |true=>
  have:id<n:=by simpa[Nat.blt_eq]using h
  rw[if_pos this];exact Rs _ _ _
 |false=>
  have:¬id<n:=fun hh=>by rw[<-Nat.blt_eq]at hh;rw[h]at hh;cases hh
  rw[if_neg this]
noncomputable def Gg:Eff->Nat->EH->(Nat->EH->Option β)->Option β:=
 @Eff.rec (fun _=>Nat->EH->(Nat->EH->Option β)->Option β) (fun n l k=>k n l)
  (fun id o n l k=>@Bool.rec (fun _=>Option β) (k n l) (Ec l (Nat.sub (Nat.sub n 1) id) o (fun l=>k n l)) (Nat.blt id n))
  (fun o n l k=>fN (Nat.succ n) fun n=>k n (o::l))
  (fun id a b n l k=>@Bool.rec (fun _=>Option β) (fN (Nat.succ n) fun n=>k n (b::l)) (Ec l (Nat.sub (Nat.sub n 1) id) a (fun l=>fN (Nat.succ n) fun n=>k n (b::l))) (Nat.blt id n))
theorem PM{n:Nat}{l:EH}(hn:n=l.length){id:Nat}(o:EO)(h:id<n):(Br l (n-1-id) o).reverse=Br l.reverse id o:=by
 subst hn
 rw[EZ,EZ]
 apply List.ext_getElem?
 intro i
 by_cases hi:i<l.length
 ·rw[List.getElem?_reverse (by simpa using hi),List.getElem?_set,List.getElem?_set,List.length_set]
  by_cases he:id=i
  ·subst he
   rw[if_pos rfl,if_pos rfl,if_pos (by omega),if_pos (by simpa using hi)]
  ·rw[if_neg (by omega),if_neg he,List.getElem?_reverse hi]
 ·rw[List.getElem?_eq_none (by simpa using hi),List.getElem?_eq_none (by simpa using hi)]
theorem Hx{n:Nat}{l:EH}(hn:n=l.length)(e:Eff):∃n' l',n'=l'.length/\l'.reverse=e.app l.reverse/\∀k:Nat->EH->Option β,Gg e n l k=k n' l':=by
 cases e with
 |no=>exact⟨n,l,hn,rfl,fun k=>rfl⟩
 |set id o=>
  cases h:Nat.blt id n with
  |true=>
   have h':id<n:=by simpa[Nat.blt_eq]using h
   refine⟨n,Br l (n-1-id) o,by rw[EZ];simpa using hn,PM hn o h',fun k=>?_⟩
   show @Bool.rec (fun _=>Option β) (k n l) (Ec l (Nat.sub (Nat.sub n 1) id) o (fun l=>k n l)) (Nat.blt id n)=_
   rw[h];exact Jr _ _ _ _
  |false=>
   have h':¬id<n:=fun hh=>by rw[<-Nat.blt_eq]at hh;rw[h]at hh;cases hh
   refine⟨n,l,hn,?_,fun k=>?_⟩
   ·simp only[Eff.app]
    rw[EZ,List.set_eq_of_length_le (by simp;omega)]
   ·show @Bool.rec (fun _=>Option β) (k n l) (Ec l (Nat.sub (Nat.sub n 1) id) o (fun l=>k n l)) (Nat.blt id n)=_
    rw[h]
 |push o=>
  refine⟨n+1,o::l,by simp[hn],by simp[Eff.app,G7],fun k=>?_⟩
  show fN (Nat.succ n) (fun n=>k n (o::l))=_
  rw[BN]
 |both id a b=>
  cases h:Nat.blt id n with
  |true=>
   have h':id<n:=by simpa[Nat.blt_eq]using h
   refine⟨n+1,b::Br l (n-1-id) a,by rw[EZ];simp[hn],by simp only[Eff.app,G7,List.reverse_cons];rw[PM hn a h'],fun k=>?_⟩
   show @Bool.rec (fun _=>Option β) (fN (Nat.succ n) fun n=>k n (b::l)) (Ec l (Nat.sub (Nat.sub n 1) id) a (fun l=>fN (Nat.succ n) fun n=>k n (b::l))) (Nat.blt id n)=_
   rw[h];show Ec l (Nat.sub (Nat.sub n 1) id) a (fun l=>fN (Nat.succ n) fun n=>k n (b::l))=_
   rw[Jr,BN];rfl
  |false=>
   have h':¬id<n:=fun hh=>by rw[<-Nat.blt_eq]at hh;rw[h]at hh;cases hh
   refine⟨n+1,b::l,by simp[hn],?_,fun k=>?_⟩
   ·simp only[Eff.app,G7,List.reverse_cons]
    rw[EZ,List.set_eq_of_length_le (by simp;omega)]
   ·show @Bool.rec (fun _=>Option β) (fN (Nat.succ n) fun n=>k n (b::l)) (Ec l (Nat.sub (Nat.sub n 1) id) a (fun l=>fN (Nat.succ n) fun n=>k n (b::l))) (Nat.blt id n)=_
    rw[h];show fN (Nat.succ n) (fun n=>k n (b::l))=_
    rw[BN]
/-! outcomes with what they make of the heap -/
noncomputable def rXE:XE->(EV->Eff->Option β)->Option β:=
 @XE.rec (fun _=>(EV->Eff->Option β)->Option β) (fun _=>none) (fun v e k=>k v e)
  (fun b _ ih k=>@Bool.rec (fun _=>Option β) none (ih k) b)
  (fun b v1 e1 v2 e2 k=>@Bool.rec (fun _=>Option β) (k v2 e2) (k v1 e1) b)
  (fun o ok z k=>match o with|none=>k (if ok then .tup [z,.lit (.bool false)]else z) .no|some x=>k (if ok then .tup [x,.lit (.bool true)]else x) .no)
  (fun v w k=>match eqE v w with|true=>k Bt .no|false=>none)
  (fun c off n agg w k=>match Cm kA c off n agg with|some v=>(match eqE v w with|true=>k Bt .no|false=>none)|none=>none)
theorem Jt{Q:Option γ->Prop}{k:EV->Eff->Option β}{K:EV->EH->Option γ}{c':FuncId->List EV->Option γ}{h:EH}{r:β}(hk:∀v e,k v e=some r->Q (K v (e.app h))) :
  ∀s:XE,rXE s k=some r->Q (BF kA K c' (s.to h))
 | .stuck,he=>by cases he
 | .ret v e,he=>hk _ _ he
 | .need b s,he=>by
  cases b with
  |true=>exact Jt hk s he
  |false=>cases he
 | .br b v1 e1 v2 e2,he=>by
  cases b with
  |true=>exact hk _ _ he
  |false=>exact hk _ _ he
 | .opt o ok z,he=>by
  cases o with
  |none=>exact hk _ .no he
  |some x=>exact hk _ .no he
 | .same v w,he=>by
  have he:(match eqE v w with|true=>k Bt .no|false=>none)=some r:=he
  show Q (match eqE v w with|true=>K Bt h|false=>none)
  cases hq:eqE v w with
  |true=>rw[hq]at he;exact hk _ .no he
  |false=>rw[hq]at he;cases he
 | .lookS c off n agg w,he=>by
  have he:(match Cm kA c off n agg with|some v=>(match eqE v w with|true=>k Bt .no|false=>none)|none=>none)=some r:=he
  show Q (match Cm kA c off n agg with|some v=>(match eqE v w with|true=>K Bt h|false=>none)|none=>none)
  cases hl:Cm kA c off n agg with
  |none=>rw[hl]at he;cases he
  |some v=>
   rw[hl]at he;simp only at he ⊢;cases hq:eqE v w with
   |true=>rw[hq]at he;exact hk _ .no he
   |false=>rw[hq]at he;cases he
noncomputable def K7(e:Eff)(k:Eff->Option β):Option β:=
 @Eff.rec (fun _=>(Eff->Option β)->Option β) (fun k=>k .no) (fun id o k=>fN id fun id=>gO o fun o=>k (.set id o)) (fun o k=>gO o fun o=>k (.push o))
  (fun id a b k=>fN id fun id=>gO a fun a=>gO b fun b=>k (.both id a b)) e k
theorem Zb(e:Eff)(k:Eff->Option β):K7 e k=k e:=by
 cases e with
 |no=>rfl
 |set id o=>show fN id (fun id=>gO o fun o=>k (.set id o))=_;rw[BN,Iq]
 |push o=>show gO o (fun o=>k (.push o))=_;rw[Iq]
 |both id a b=>show fN id (fun id=>gO a fun a=>gO b fun b=>k (.both id a b))=_;rw[BN,Iq,Iq]
noncomputable def KP(e:Eff)(k:Eff->Option β):Option β:=
 match e with
 | .set id (.blk c)=>fS c fun c=>k (.set id (.blk c))
 |e=>k e
theorem Uf(e:Eff)(k:Eff->Option β):KP e k=k e:=by
 unfold KP
 split
 ·rw[Gk]
 ·rfl
noncomputable def Cv(r:SR)(k:EV->Eff->Option β)(c:FuncId->List EV->Option β):Option β:=rSR r (fun v _=>gE v fun v=>k v .no) c
noncomputable def DA(r:SR)(k:EV->Eff->Option β)(c:FuncId->List EV->Option β):Option β:=rSR r (fun v _=>k v .no) c
noncomputable def CC(r:XE)(k:EV->Eff->Option β):Option β:=rXE r fun v e=>gE v fun v=>K7 e fun e=>k v e
noncomputable def Nf(r:XE)(k:EV->Eff->Option β):Option β:=rXE r fun v e=>KP e fun e=>k v e
section
variable {Q:Option γ->Prop} {k:EV->Eff->Option β} {c:FuncId->List EV->Option β} {K:EV->EH->Option γ} {c':FuncId->List EV->Option γ} {h:EH} {r:β}
 (hk:∀v e,k v e=some r->Q (K v (e.app h))) (hc:∀f a,c f a=some r->Q (c' f a))
include hk hc
theorem Gc{s:SR}(ha:AllH h s)(he:DA s k c=some r):Q (BF kA K c' s):=by
 unfold DA at he
 rw[Lr]at he
 rw[AllH.ex (k:=K) (k':=fun v _=>K v h) (fun v=>rfl) ha]
 exact PH (fun v h' e=>hk v .no e) hc s he
theorem CK{s:SR}(ha:AllH h s)(he:Cv s k c=some r):Q (BF kA K c' s):=by
 refine Gc hk hc ha (he▸?_)
 unfold DA Cv
 congr 1
 funext v _
 rw[Gh]
omit hc in
theorem CI{s:XE}(he:CC s k=some r):Q (BF kA K c' (s.to h)):=by
 refine Jt (fun v e e1=>?_) s he
 rw[Gh,Zb]at e1
 exact hk v e e1
omit hc in
theorem UI{s:XE}(he:Nf s k=some r):Q (BF kA K c' (s.to h)):=by
 refine Jt (fun v e e1=>?_) s he
 rw[Uf]at e1
 exact hk v e e1
end
/-! reading -/
noncomputable def JM(agg:Bool)(n:Nat)(c:List EV)(off:Nat)(k:EV->Option β):Option β:=
 match agg with
 |false=>match Nat.beq n 1 with|true=>I9 c off k|false=>none
 |true=>match rd c off n with|some cs=>gL cs fun cs=>k (.agg cs)|none=>none
noncomputable def H7(agg:Bool)(n:Nat)(c:List EV)(off:Nat)(k:EV->Option β):Option β:=
 match agg with
 |false=>match Nat.beq n 1 with|true=>I9 c off k|false=>none
 |true=>match Cm kA c off n true with|some v=>gE v k|none=>none
theorem Nw:∀(c:List EV) (off:Nat) (v:EV),Cf c off=some v->rd c off 1=some [v]
 |[],off,v,h=>by simp[Cf]at h
 |x::l,0,v,h=>by simp only[Cf,Option.some.injEq]at h;subst h;cases l<;>simp[rd]
 |x::l,off+1,v,h=>by simp only[Cf]at h;simpa[rd]using Nw l off v h
theorem VC:∀(c:List EV) (off:Nat) (v:EV),Cf c off=some v->Cm kA c off 1 false=some v:=by
 intro c off v h
 have h1:(kA.tak 1 (kA.drp off c))=[v]:=by
  have:∀(c:List EV) (off:Nat),Cf c off=some v->(c.drop off).take 1=[v]:=by
   intro c
   induction c with
   |nil=>intro off h;simp[Cf]at h
   |cons x l ih=>
    intro off h;cases off with
    |zero=>simp only[Cf,Option.some.injEq]at h;subst h;simp
    |succ m=>simp only[Cf]at h;simpa using ih m h
  exact this c off h
 simp only[Cm,h1]
 rfl
theorem T9{agg:Bool}{n:Nat}{cl:List EV}{off:Nat}{k:EV->Option β}{r:β}(he:JM agg n cl off k=some r):∃cs v,rd cl off n=some cs/\mkV agg cs=some v/\k v=some r:=by
 unfold JM at he
 cases agg with
 |false=>
  simp only at he;cases hb:Nat.beq n 1 with
  |false=>rw[hb]at he;cases he
  |true=>
   rw[hb]at he;have:=Nat.eq_of_beq_eq_true hb;subst this;simp only at he;rw[Km]at he;cases hv:Cf cl off with
   |none=>rw[hv]at he;cases he
   |some v=>rw[hv]at he;exact⟨[v],v,Nw _ _ _ hv,rfl,he⟩
 |true=>
  simp only at he;cases hr:rd cl off n with
  |none=>rw[hr]at he;cases he
  |some cs=>rw[hr]at he;simp only at he;rw[IX]at he;exact⟨cs,.agg cs,rfl,rfl,he⟩
theorem Ni{agg:Bool}{n:Nat}{cl:List EV}{off:Nat}{k:EV->Option β}{r:β}(he:H7 agg n cl off k=some r):∃v,Cm kA cl off n agg=some v/\k v=some r:=by
 unfold H7 at he
 cases agg with
 |false=>
  simp only at he;cases hb:Nat.beq n 1 with
  |false=>rw[hb]at he;cases he
  |true=>
   rw[hb]at he;have:=Nat.eq_of_beq_eq_true hb;subst this;simp only at he;rw[Km]at he;cases hv:Cf cl off with
   |none=>rw[hv]at he;cases he
   |some v=>rw[hv]at he;exact⟨v,VC _ _ _ hv,he⟩
 |true=>
  simp only at he;cases hr:Cm kA cl off n true with
  |none=>rw[hr]at he;cases he
  |some v=>rw[hr]at he;simp only at he;rw[Gh]at he;exact⟨v,rfl,he⟩
noncomputable def JL(agg:Bool)(m:Nat)(x:EV)(n:Nat)(l:EH)(k:EV->Option β):Option β:=
 match x with
 | .ptr id off=>HT n l id fun o=>match o with | .blk c=>JM agg m c off k|_=>none
 | .eptr id off=>HT n l id fun o=>match o with | .blk c=>H7 agg m c off k|_=>none
 | .iptr c off=>H7 agg m c off k
 |_=>none
theorem U8{Q:Option γ->Prop}{agg:Bool}{m:Nat}{x:EV}{n:Nat}{l:EH}{k:EV->Option β}{K:EV->EH->Option γ}{c':FuncId->List EV->Option γ}{r:β}(hn:n=l.length)
  (hk:∀v,k v=some r->Q (K v l.reverse)) (he:JL agg m x n l k=some r):Q (BF kA K c' (CS agg m x l.reverse)):=by
 unfold JL at he
 unfold CS
 cases x with
 |ptr id off=>
  simp only at he ⊢;rw[RA hn]at he;cases hg:Bh l.reverse id with
  |blk c=>
   rw[hg]at he;obtain⟨cs,v,h1,h2,h3⟩:=T9 he;simp only[h1,h2];exact hk v h3
  |_=>rw[hg]at he;cases he
 |eptr id off=>
  simp only at he ⊢;rw[RA hn]at he;cases hg:Bh l.reverse id with
  |blk c=>
   rw[hg]at he;obtain⟨v,h1,h3⟩:=Ni he;simp only[BF,h1];exact hk v h3
  |_=>rw[hg]at he;cases he
 |iptr c off=>
  simp only at he ⊢;obtain⟨v,h1,h3⟩:=Ni he;simp only[BF,h1];exact hk v h3
 |_=>cases he
noncomputable def Jy:EI->List (List EV)->List EV->Nat->EH->(EV->Eff->Option β)->(FuncId->List EV->Option β)->Option β:=
 @EI.rec (fun _=>List (List EV)->List EV->Nat->EH->(EV->Eff->Option β)->(FuncId->List EV->Option β)->Option β)
  (fun x G t n l k c=>Bv x G t fun v=>k v .no)
  (fun p a b G t n l k c=>Bv p G t fun p=>Bv a G t fun a=>Bv b G t fun b=>DA (E5 p a b l.reverse) k c)
  (fun z G t n l k c=>CC (IJ (.agg (BB z)) n) k)
  (fun x G t n l k c=>Bv x G t fun v=>CC (IJ v n) k)
  (fun z ps G t n l k c=>JO ps G t (BB z) fun cs=>gL cs fun cs=>k (.agg cs) .no)
  (fun es m z ps G t n l k c=>JO ps G t (BB z) fun cs=>match Ce cs with|true=>CC (.ret (.sl es n 0 m (some m)) (.push (.blk cs))) k|false=>none)
  (fun agg m x G t n l k c=>Bv x G t fun x=>JL agg m x n l fun v=>k v .no)
  (fun m x v G t n l k c=>Bv x G t fun x=>Bv v G t fun v=>Nf (J9 kA m x v (gX n l)) k)
  (fun x G t n l k c=>Bv x G t fun x=>DA (DW x l.reverse) k c)
  (fun op x y td G t n l k c=>Bv x G t fun x=>Bv y G t fun y=>Cv (DY kA op x y td l.reverse) k c)
  (fun op x G t n l k c=>Bv x G t fun x=>Cv (unE kA op x l.reverse) k c)
  (fun i x G t n l k c=>Bv x G t fun x=>Cv (DT kA i x l.reverse) k c)
  (fun x G t n l k c=>Bv x G t fun x=>DA (Eu x l.reverse) k c)
  (fun x G t n l k c=>Bv x G t fun x=>CC (Ka kA x n) k)
  (fun x G t n l k c=>Bv x G t fun x=>CC (Ki kA x (gX n l)) k)
  (fun x G t n l k c=>Bv x G t fun x=>CC (KV kA x (gX n l)) k)
  (fun ty x G t n l k c=>Bv x G t fun x=>k (.iface ty x) .no)
  (fun f a b G t n l k c=>Gb a G t fun a=>Gb b G t fun b=>k (.fn f a b) .no)
  (fun G t n l k c=>CC (.ret (.mp n) (.push (.emap []))) k)
  (fun es bytes z a b G t n l k c=>Bv a G t fun a=>Bv b G t fun b=>CC (KB kA es bytes (BB z) a b n) k)
  (fun es x lo hi mx G t n l k c=>Bv x G t fun x=>match Ci G t lo,Ci G t hi,Ci G t mx with
   |some lo,some hi,some mx=>Cv (D7 kA es x lo hi mx l.reverse) k c
   |_,_,_=>none)
  (fun x lo hi G t n l k c=>Bv x G t fun x=>match Ci G t lo,Ci G t hi with
   |some lo,some hi=>Cv (Eb kA x lo hi l.reverse) k c
   |_,_=>none)
  (fun m x G t n l k c=>Bv x G t fun x=>Cv (DK kA m x l.reverse) k c)
  (fun o x G t n l k c=>Bv x G t fun x=>Cv (En kA o x l.reverse) k c)
  (fun agg o m x G t n l k c=>Bv x G t fun x=>Cv (D4 agg o m x l.reverse) k c)
  (fun es x i G t n l k c=>Bv x G t fun x=>Bv i G t fun i=>Cv (Er kA es x i l.reverse) k c)
  (fun es m x i G t n l k c=>Bv x G t fun x=>Bv i G t fun i=>Cv (Ej kA es m x i l.reverse) k c)
  (fun agg es m x i G t n l k c=>Bv x G t fun x=>Bv i G t fun i=>Cv (DO kA agg es m x i l.reverse) k c)
  (fun x i G t n l k c=>Bv x G t fun x=>Bv i G t fun i=>Cv (DX kA x i l.reverse) k c)
  (fun ks z isA ok x y G t n l k c=>Bv x G t fun x=>Bv y G t fun y=>CC (J6 kA ks z isA ok x y (gX n l)) k)
  (fun ks x y v G t n l k c=>Bv x G t fun x=>Bv y G t fun y=>Bv v G t fun v=>CC (J2 kA ks x y v (gX n l)) k)
  (fun x i G t n l k c=>Bv x G t fun x=>Cv (D2 x i l.reverse) k c)
  (fun f args G t n l k c=>Gb args G t fun args=>c f args)
  (fun x args G t n l k c=>Bv x G t fun x=>Gb args G t fun args=>DA (Gu x args) k c)
  (fun x _ cands args G t n l k c=>Bv x G t fun x=>Gb args G t fun args=>DA (Ge x cands args) k c)
  (fun es bytes x y G t n l k c=>Bv x G t fun x=>Bv y G t fun y=>CC (Kx kA es bytes x y (gX n l) n) k)
  (fun m x G t n l k c=>Bv x G t fun x=>CC (J3 kA m x (gX n l)) k)
  (fun es x y G t n l k c=>Bv x G t fun x=>Bv y G t fun y=>CC (KS kA es x y (gX n l)) k)
  (fun mx x xs G t n l k c=>Bv x G t fun x=>Gb xs G t fun xs=>Cv (Ei kA mx x xs l.reverse) k c)
  (fun d agg m x G t n l k c=>Bv x G t fun x=>Gl t d fun w=>CC (Kl w agg m x (gX n l)) k)
  (fun x y G t n l k c=>Bv x G t fun x=>Bv y G t fun y=>DA (EY x y l.reverse) k c)
  (fun G t n l k c=>none)
theorem Ts{Q:Option γ->Prop}{k:EV->Eff->Option β}{c:FuncId->List EV->Option β}{K:EV->EH->Option γ}{c':FuncId->List EV->Option γ}{G:List (List EV)}{t:List EV}{n:Nat}{l:EH}{r:β}
  (hn:n=l.length) (hk:∀v e,k v e=some r->Q (K v (e.app l.reverse))) (hc:∀f a,c f a=some r->Q (c' f a)) (ei:EI) (he:Jy ei G t n l k c=some r) :
  Q (BF kA K c' (Bp kA G t l.reverse ei)):=by
 have hg:gX n l=Bh l.reverse:=funext (G1 hn)
 have hs:n=Bd l.reverse:=by rw[JT];simpa using hn
 unfold Jy at he
 cases ei with
 |mov x=>simp only[BD]at he;exact hk _ .no he
 |pick p a b=>simp only[BD]at he;exact Gc hk hc (Wx _ _ _) he
 |alloc z=>simp only[Bp];rw[Ra,<-hs];exact CI hk he
 |box x=>simp only[BD]at he;simp only[Bp];rw[Ra,<-hs];exact CI hk he
 |build z ps=>
  simp only[JB,IX]at he;simp only[Bp];split at he
  ·rename_i cs hcs;rw[hcs];exact hk _ .no he
  ·cases he
 |buildSlice es m z ps=>
  simp only[JB]at he;simp only[Bp];split at he
  ·rename_i cs hcs
   rw[hcs];split at he
   ·rename_i ho
    simp only[ho,if_true];have:=CI (s:=.ret (.sl es n 0 m (some m)) (.push (.blk cs))) (K:=K) (c':=c') hk he
    rwa [hs]at this
   ·cases he
  ·cases he
 |load agg m x=>simp only[BD]at he;exact U8 hn (fun v e=>hk v .no e) he
 |store m x v=>simp only[BD,hg]at he;simp only[Bp];rw[Yt];exact UI hk he
 |nilCheck x=>simp only[BD]at he;exact Gc hk hc (Zn _) he
 |bin op x y td=>simp only[BD]at he;exact CK hk hc (Tm _ _ _ _ _) he
 |un op x=>simp only[BD]at he;exact CK hk hc (SI _ _ _) he
 |conv i x=>simp only[BD]at he;exact CK hk hc (Wv _ _ _) he
 |cstr x=>simp only[BD]at he;exact Gc hk hc (S3 _) he
 |s2b x=>simp only[BD]at he;simp only[Bp];rw[Wb,<-hs];exact CI hk he
 |b2s x=>simp only[BD,hg]at he;simp only[Bp];rw[U2];exact CI hk he
 |strish x=>simp only[BD,hg]at he;simp only[Bp];rw[Yb];exact CI hk he
 |mkIface ty x=>simp only[BD]at he;exact hk _ .no he
 |mkFunc f a b=>simp only[Gn]at he;exact hk _ .no he
 |mkMap=>
  have:=CI (s:=.ret (.mp n) (.push (.emap []))) (K:=K) (c':=c') hk he
  rwa [hs]at this
 |mkSlice es bytes z a b=>simp only[BD]at he;simp only[Bp];rw[Yj,<-hs];exact CI hk he
 |slice es x lo hi mx=>
  simp only[BD]at he;simp only[Bp];split at he
  ·rename_i h1 h2 h3
   simp only[h1,h2,h3];exact CK hk hc (Sc _ _ _ _ _ _) he
  ·cases he
 |sliceStr x lo hi=>
  simp only[BD]at he;simp only[Bp];split at he
  ·rename_i h1 h2
   simp only[h1,h2];exact CK hk hc (W0 _ _ _ _) he
  ·cases he
 |s2a m x=>simp only[BD]at he;exact CK hk hc (Vo _ _ _) he
 |fieldAddr o x=>simp only[BD]at he;exact CK hk hc (WA _ _ _) he
 |field agg o m x=>simp only[BD]at he;exact CK hk hc (Yp _ _ _ _) he
 |indexAddr es x i=>simp only[BD]at he;exact CK hk hc (Tr _ _ _ _) he
 |indexAddrArr es m x i=>simp only[BD]at he;exact CK hk hc (U5 _ _ _ _ _) he
 |indexArr agg es m x i=>simp only[BD]at he;exact CK hk hc (R6 _ _ _ _ _ _) he
 |indexStr x i=>simp only[BD]at he;exact CK hk hc (V2 _ _ _) he
 |lookup ks z isA ok x y=>simp only[BD,hg]at he;simp only[Bp];rw[Su];exact CI hk he
 |mapSet ks x y v=>simp only[BD,hg]at he;simp only[Bp];rw[VQ];exact CI hk he
 |extract x i=>simp only[BD]at he;exact CK hk hc (WT _ _) he
 |call f args=>simp only[Gn]at he;exact hc _ _ he
 |callv x args=>simp only[BD,Gn]at he;exact Gc hk hc (Un _ _) he
 |invoke x nm cands args=>simp only[BD,Gn]at he;exact Gc hk hc (Ye _ _ _) he
 |append es bytes x y=>simp only[BD,hg]at he;simp only[Bp];rw[Wm,<-hs];exact CI hk he
 |len m x=>simp only[BD,hg]at he;simp only[Bp];rw[Yd];exact CI hk he
 |copy es x y=>simp only[BD,hg]at he;simp only[Bp];rw[U1];exact CI hk he
 |minmax mx x xs=>simp only[BD,Gn]at he;exact CK hk hc (Zv _ _ _ _) he
 |again d agg m x=>simp only[BD,H6,hg]at he;simp only[Bp];rw[Ss];exact CI hk he
 |apart x y=>simp only[BD]at he;exact Gc hk hc (Ub _ _) he
 |bad=>cases he
end
end Go.Proofs.YtkjhfefbklcciaaGreatDoor.Em
