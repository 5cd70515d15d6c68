/- No conditions. -/
import Derived.Test.YtehgpabfgjofhaaGreatDoorX30
set_option linter.unusedVariables false
set_option linter.unusedSimpArgs false
namespace Go.Proofs.YtehgpabfgjofhaaGreatDoor.Em
open Go
section
variable {β γ:Type}
/-! the heap, its newest block first -/
noncomputable def Ua:EH->Nat->EO:=
 @List.rec EO (fun _=>Nat->EO) (fun _=>.dead) (fun x _ ih n=>@Nat.rec (fun _=>EO) x (fun m _=>ih m) n)
theorem UF:∀(l:EH) (n:Nat),Ua l n=Bh l n
 |[],_=>by simp only[Bh];rfl
 |x::l,0=>rfl
 |x::l,n+1=>UF l n
noncomputable def gX(n:Nat)(l:EH)(id:Nat):EO:=@Bool.rec (fun _=>EO) .dead (Ua l (Nat.sub (Nat.sub n 1) id)) (Nat.blt id n)
noncomputable def KR(n:Nat)(l:EH)(id:Nat)(k:EO->Option β):Option β:=@Bool.rec (fun _=>Option β) (k .dead) (VZ l (Nat.sub (Nat.sub n 1) id) k) (Nat.blt id n)
theorem PN:∀(l:EH) (i:Nat),Bh l i=(l[i]?).getD .dead
 |[],i=>by simp[Bh]
 |x::l,0=>by simp[Bh]
 |x::l,i+1=>by simpa[Bh]using PN l i
theorem LY:∀l:EH,Bc l=l.length
 |[]=>rfl
 |x::l=>by simp[Bc,LY l]
theorem J3:∀(l:EH) (o:EO),B0 l o=l++[o]
 |[],o=>rfl
 |x::l,o=>by simp[B0,J3 l]
theorem Hn:∀(l:EH) (i:Nat) (o:EO),BG l i o=l.set i o
 |[],i,o=>by simp[BG]
 |x::l,0,o=>by simp[BG]
 |x::l,i+1,o=>by simp[BG,Hn l]
theorem VI{n:Nat}{l:EH}(hn:n=l.length)(id:Nat):Bh l.reverse id=if id<n then Bh l (n-1-id)else .dead:=by
 subst hn
 rw[PN,PN]
 split
 ·rename_i h;rw[List.getElem?_reverse h]
 ·rename_i h;rw[List.getElem?_eq_none (by simpa using h)];rfl
theorem J4{n:Nat}{l:EH}(hn:n=l.length)(id:Nat):gX n l id=Bh l.reverse id:=by
 rw[VI hn]
 unfold gX
 cases h:Nat.blt id n with
 |true=>
  have:id<n:=by simpa[Nat.blt_eq]using h
  rw[if_pos this];exact UF _ _
 |false=>
  have:¬id<n:=fun hh=>by rw[<-Nat.blt_eq]at hh;rw[h]at hh;cases hh
  rw[if_neg this]
theorem Sx{n:Nat}{l:EH}(hn:n=l.length)(id:Nat)(k:EO->Option β):KR n l id k=k (Bh l.reverse id):=by
 rw[VI hn]
 unfold KR
 cases h:Nat.blt id n with
 |true=>
  have:id<n:=by simpa[Nat.blt_eq]using h
  rw[if_pos this];exact U3 _ _ _
 |false=>
  have:¬id<n:=fun hh=>by rw[<-Nat.blt_eq]at hh;rw[h]at hh;cases hh
  rw[if_neg this]
noncomputable def It:Eff->Nat->EH->(Nat->EH->Option β)->Option β:=
 @Eff.rec (fun _=>Nat->EH->(Nat->EH->Option β)->Option β) (fun n l k=>k n l)
  (fun id o n l k=>@Bool.rec (fun _=>Option β) (k n l) (GC l (Nat.sub (Nat.sub n 1) id) o (fun l=>k n l)) (Nat.blt id n))
  (fun o n l k=>fN (Nat.succ n) fun n=>k n (o::l))
  (fun id a b n l k=>@Bool.rec (fun _=>Option β) (fN (Nat.succ n) fun n=>k n (b::l)) (GC l (Nat.sub (Nat.sub n 1) id) a (fun l=>fN (Nat.succ n) fun n=>k n (b::l))) (Nat.blt id n))
theorem SJ{n:Nat}{l:EH}(hn:n=l.length){id:Nat}(o:EO)(h:id<n):(BG l (n-1-id) o).reverse=BG l.reverse id o:=by
 subst hn
 rw[Hn,Hn]
 apply List.ext_getElem?
 intro i
 by_cases hi:i<l.length
 ·rw[List.getElem?_reverse (by simpa using hi),List.getElem?_set,List.getElem?_set,List.length_set]
  by_cases he:id=i
  ·subst he
   rw[if_pos rfl,if_pos rfl,if_pos (by omega),if_pos (by simpa using hi)]
  ·rw[if_neg (by omega),if_neg he,List.getElem?_reverse hi]
 ·rw[List.getElem?_eq_none (by simpa using hi),List.getElem?_eq_none (by simpa using hi)]
theorem I9{n:Nat}{l:EH}(hn:n=l.length)(e:Eff):∃n' l',n'=l'.length/\l'.reverse=e.app l.reverse/\∀k:Nat->EH->Option β,It e n l k=k n' l':=by
 cases e with
 |no=>exact⟨n,l,hn,rfl,fun k=>rfl⟩
 |set id o=>
  cases h:Nat.blt id n with
  |true=>
   have h':id<n:=by simpa[Nat.blt_eq]using h
   refine⟨n,BG l (n-1-id) o,by rw[Hn];simpa using hn,SJ hn o h',fun k=>?_⟩
   show @Bool.rec (fun _=>Option β) (k n l) (GC l (Nat.sub (Nat.sub n 1) id) o (fun l=>k n l)) (Nat.blt id n)=_
   rw[h];exact Pk _ _ _ _
  |false=>
   have h':¬id<n:=fun hh=>by rw[<-Nat.blt_eq]at hh;rw[h]at hh;cases hh
   refine⟨n,l,hn,?_,fun k=>?_⟩
   ·simp only[Eff.app]
    rw[Hn,List.set_eq_of_length_le (by simp;omega)]
   ·show @Bool.rec (fun _=>Option β) (k n l) (GC l (Nat.sub (Nat.sub n 1) id) o (fun l=>k n l)) (Nat.blt id n)=_
    rw[h]
 |push o=>
  refine⟨n+1,o::l,by simp[hn],by simp[Eff.app,J3],fun k=>?_⟩
  show fN (Nat.succ n) (fun n=>k n (o::l))=_
  rw[Cp]
 |both id a b=>
  cases h:Nat.blt id n with
  |true=>
   have h':id<n:=by simpa[Nat.blt_eq]using h
   refine⟨n+1,b::BG l (n-1-id) a,by rw[Hn];simp[hn],by simp only[Eff.app,J3,List.reverse_cons];rw[SJ hn a h'],fun k=>?_⟩
   show @Bool.rec (fun _=>Option β) (fN (Nat.succ n) fun n=>k n (b::l)) (GC l (Nat.sub (Nat.sub n 1) id) a (fun l=>fN (Nat.succ n) fun n=>k n (b::l))) (Nat.blt id n)=_
   rw[h];show GC l (Nat.sub (Nat.sub n 1) id) a (fun l=>fN (Nat.succ n) fun n=>k n (b::l))=_
   rw[Pk,Cp];rfl
  |false=>
   have h':¬id<n:=fun hh=>by rw[<-Nat.blt_eq]at hh;rw[h]at hh;cases hh
   refine⟨n+1,b::l,by simp[hn],?_,fun k=>?_⟩
   ·simp only[Eff.app,J3,List.reverse_cons]
    rw[Hn,List.set_eq_of_length_le (by simp;omega)]
   ·show @Bool.rec (fun _=>Option β) (fN (Nat.succ n) fun n=>k n (b::l)) (GC l (Nat.sub (Nat.sub n 1) id) a (fun l=>fN (Nat.succ n) fun n=>k n (b::l))) (Nat.blt id n)=_
    rw[h];show fN (Nat.succ n) (fun n=>k n (b::l))=_
    rw[Cp]
/-! outcomes with what they make of the heap -/
noncomputable def rXE:XE->(EV->Eff->Option β)->Option β:=
 @XE.rec (fun _=>(EV->Eff->Option β)->Option β) (fun _=>none) (fun v e k=>k v e)
  (fun b _ ih k=>@Bool.rec (fun _=>Option β) none (ih k) b)
  (fun b v1 e1 v2 e2 k=>@Bool.rec (fun _=>Option β) (k v2 e2) (k v1 e1) b)
  (fun o ok z k=>match o with|none=>k (if ok then .tup [z,.lit (.bool false)]else z) .no|some x=>k (if ok then .tup [x,.lit (.bool true)]else x) .no)
  (fun v w k=>match eqE v w with|true=>k BO .no|false=>none)
  (fun c off n agg w k=>match C6 kA c off n agg with|some v=>(match eqE v w with|true=>k BO .no|false=>none)|none=>none)
theorem L5{Q:Option γ->Prop}{k:EV->Eff->Option β}{K:EV->EH->Option γ}{c':FuncId->List EV->Option γ}{h:EH}{r:β}(hk:∀v e,k v e=some r->Q (K v (e.app h))) :
  ∀s:XE,rXE s k=some r->Q (Cd kA K c' (s.to h))
 | .stuck,he=>by cases he
 | .ret v e,he=>hk _ _ he
 | .need b s,he=>by
  cases b with
  |true=>exact L5 hk s he
  |false=>cases he
 | .br b v1 e1 v2 e2,he=>by
  cases b with
  |true=>exact hk _ _ he
  |false=>exact hk _ _ he
 | .opt o ok z,he=>by
  cases o with
  |none=>exact hk _ .no he
  |some x=>exact hk _ .no he
 | .same v w,he=>by
  have he:(match eqE v w with|true=>k BO .no|false=>none)=some r:=he
  show Q (match eqE v w with|true=>K BO h|false=>none)
  cases hq:eqE v w with
  |true=>rw[hq]at he;exact hk _ .no he
  |false=>rw[hq]at he;cases he
 | .lookS c off n agg w,he=>by
  have he:(match C6 kA c off n agg with|some v=>(match eqE v w with|true=>k BO .no|false=>none)|none=>none)=some r:=he
  show Q (match C6 kA c off n agg with|some v=>(match eqE v w with|true=>K BO h|false=>none)|none=>none)
  cases hl:C6 kA c off n agg with
  |none=>rw[hl]at he;cases he
  |some v=>
   rw[hl]at he;simp only at he ⊢;cases hq:eqE v w with
   |true=>rw[hq]at he;exact hk _ .no he
   |false=>rw[hq]at he;cases he
noncomputable def Tj(e:Eff)(k:Eff->Option β):Option β:=
 @Eff.rec (fun _=>(Eff->Option β)->Option β) (fun k=>k .no) (fun id o k=>fN id fun id=>gO o fun o=>k (.set id o)) (fun o k=>gO o fun o=>k (.push o))
  (fun id a b k=>fN id fun id=>gO a fun a=>gO b fun b=>k (.both id a b)) e k
theorem zBh(e:Eff)(k:Eff->Option β):Tj e k=k e:=by
 cases e with
 |no=>rfl
 |set id o=>show fN id (fun id=>gO o fun o=>k (.set id o))=_;rw[Cp,Le]
 |push o=>show gO o (fun o=>k (.push o))=_;rw[Le]
 |both id a b=>show fN id (fun id=>gO a fun a=>gO b fun b=>k (.both id a b))=_;rw[Cp,Le,Le]
noncomputable def R0(e:Eff)(k:Eff->Option β):Option β:=
 match e with
 | .set id (.blk c)=>fS c fun c=>k (.set id (.blk c))
 |e=>k e
theorem zAz(e:Eff)(k:Eff->Option β):R0 e k=k e:=by
 unfold R0
 split
 ·rw[IG]
 ·rfl
noncomputable def Dn(r:SR)(k:EV->Eff->Option β)(c:FuncId->List EV->Option β):Option β:=rSR r (fun v _=>gE v fun v=>k v .no) c
noncomputable def Gu(r:SR)(k:EV->Eff->Option β)(c:FuncId->List EV->Option β):Option β:=rSR r (fun v _=>k v .no) c
noncomputable def Du(r:XE)(k:EV->Eff->Option β):Option β:=rXE r fun v e=>gE v fun v=>Tj e fun e=>k v e
noncomputable def Te(r:XE)(k:EV->Eff->Option β):Option β:=rXE r fun v e=>R0 e fun e=>k v e
section
variable {Q:Option γ->Prop} {k:EV->Eff->Option β} {c:FuncId->List EV->Option β} {K:EV->EH->Option γ} {c':FuncId->List EV->Option γ} {h:EH} {r:β}
 (hk:∀v e,k v e=some r->Q (K v (e.app h))) (hc:∀f a,c f a=some r->Q (c' f a))
include hk hc
theorem Ht{s:SR}(ha:AllH h s)(he:Gu s k c=some r):Q (Cd kA K c' s):=by
 unfold Gu at he
 rw[Ur]at he
 rw[AllH.ex (k:=K) (k':=fun v _=>K v h) (fun v=>rfl) ha]
 exact VN (fun v h' e=>hk v .no e) hc s he
theorem DU{s:SR}(ha:AllH h s)(he:Dn s k c=some r):Q (Cd kA K c' s):=by
 refine Ht hk hc ha (he▸?_)
 unfold Gu Dn
 congr 1
 funext v _
 rw[I3]
omit hc in
theorem DM{s:XE}(he:Du s k=some r):Q (Cd kA K c' (s.to h)):=by
 refine L5 (fun v e e1=>?_) s he
 rw[I3,zBh]at e1
 exact hk v e e1
omit hc in
theorem zB2{s:XE}(he:Te s k=some r):Q (Cd kA K c' (s.to h)):=by
 refine L5 (fun v e e1=>?_) s he
 rw[zAz]at e1
 exact hk v e e1
end
/-! reading -/
noncomputable def PU(agg:Bool)(n:Nat)(c:List EV)(off:Nat)(k:EV->Option β):Option β:=
 match agg with
 |false=>match Nat.beq n 1 with|true=>LS c off k|false=>none
 |true=>match rd c off n with|some cs=>gL cs fun cs=>k (.agg cs)|none=>none
noncomputable def K8(agg:Bool)(n:Nat)(c:List EV)(off:Nat)(k:EV->Option β):Option β:=
 match agg with
 |false=>match Nat.beq n 1 with|true=>LS c off k|false=>none
 |true=>match C6 kA c off n true with|some v=>gE v k|none=>none
theorem T9:∀(c:List EV) (off:Nat) (v:EV),CZ c off=some v->rd c off 1=some [v]
 |[],off,v,h=>by simp[CZ]at h
 |x::l,0,v,h=>by simp only[CZ,Option.some.injEq]at h;subst h;cases l<;>simp[rd]
 |x::l,off+1,v,h=>by simp only[CZ]at h;simpa[rd]using T9 l off v h
theorem W5:∀(c:List EV) (off:Nat) (v:EV),CZ c off=some v->C6 kA c off 1 false=some v:=by
 intro c off v h
 have h1:(kA.tak 1 (kA.drp off c))=[v]:=by
  have:∀(c:List EV) (off:Nat),CZ c off=some v->(c.drop off).take 1=[v]:=by
   intro c
   induction c with
   |nil=>intro off h;simp[CZ]at h
   |cons x l ih=>
    intro off h;cases off with
    |zero=>simp only[CZ,Option.some.injEq]at h;subst h;simp
    |succ m=>simp only[CZ]at h;simpa using ih m h
  exact this c off h
 simp only[C6,h1]
 rfl
theorem Y9{agg:Bool}{n:Nat}{cl:List EV}{off:Nat}{k:EV->Option β}{r:β}(he:PU agg n cl off k=some r):∃cs v,rd cl off n=some cs/\mkV agg cs=some v/\k v=some r:=by
 unfold PU at he
 cases agg with
 |false=>
  simp only at he;cases hb:Nat.beq n 1 with
  |false=>rw[hb]at he;cases he
  |true=>
   rw[hb]at he;have:=Nat.eq_of_beq_eq_true hb;subst this;simp only at he;rw[NO]at he;cases hv:CZ cl off with
   |none=>rw[hv]at he;cases he
   |some v=>rw[hv]at he;exact⟨[v],v,T9 _ _ _ hv,rfl,he⟩
 |true=>
  simp only at he;cases hr:rd cl off n with
  |none=>rw[hr]at he;cases he
  |some cs=>rw[hr]at he;simp only at he;rw[Lz]at he;exact⟨cs,.agg cs,rfl,rfl,he⟩
theorem TI{agg:Bool}{n:Nat}{cl:List EV}{off:Nat}{k:EV->Option β}{r:β}(he:K8 agg n cl off k=some r):∃v,C6 kA cl off n agg=some v/\k v=some r:=by
 unfold K8 at he
 cases agg with
 |false=>
  simp only at he;cases hb:Nat.beq n 1 with
  |false=>rw[hb]at he;cases he
  |true=>
   rw[hb]at he;have:=Nat.eq_of_beq_eq_true hb;subst this;simp only at he;rw[NO]at he;cases hv:CZ cl off with
   |none=>rw[hv]at he;cases he
   |some v=>rw[hv]at he;exact⟨v,W5 _ _ _ hv,he⟩
 |true=>
  simp only at he;cases hr:C6 kA cl off n true with
  |none=>rw[hr]at he;cases he
  |some v=>rw[hr]at he;simp only at he;rw[I3]at he;exact⟨v,rfl,he⟩
noncomputable def Pm(agg:Bool)(m:Nat)(x:EV)(n:Nat)(l:EH)(k:EV->Option β):Option β:=
 match x with
 | .ptr id off=>KR n l id fun o=>match o with | .blk c=>PU agg m c off k|_=>none
 | .eptr id off=>KR n l id fun o=>match o with | .blk c=>K8 agg m c off k|_=>none
 | .iptr c off=>K8 agg m c off k
 |_=>none
theorem YP{Q:Option γ->Prop}{agg:Bool}{m:Nat}{x:EV}{n:Nat}{l:EH}{k:EV->Option β}{K:EV->EH->Option γ}{c':FuncId->List EV->Option γ}{r:β}(hn:n=l.length)
  (hk:∀v,k v=some r->Q (K v l.reverse)) (he:Pm agg m x n l k=some r):Q (Cd kA K c' (D3 agg m x l.reverse)):=by
 unfold Pm at he
 unfold D3
 cases x with
 |ptr id off=>
  simp only at he ⊢;rw[Sx hn]at he;cases hg:Bh l.reverse id with
  |blk c=>
   rw[hg]at he;obtain⟨cs,v,h1,h2,h3⟩:=Y9 he;simp only[h1,h2];exact hk v h3
  |_=>rw[hg]at he;cases he
 |eptr id off=>
  simp only at he ⊢;rw[Sx hn]at he;cases hg:Bh l.reverse id with
  |blk c=>
   rw[hg]at he;obtain⟨v,h1,h3⟩:=TI he;simp only[Cd,h1];exact hk v h3
  |_=>rw[hg]at he;cases he
 |iptr c off=>
  simp only at he ⊢;obtain⟨v,h1,h3⟩:=TI he;simp only[Cd,h1];exact hk v h3
 |_=>cases he
noncomputable def Po:EI->List (List EV)->List EV->Nat->EH->(EV->Eff->Option β)->(FuncId->List EV->Option β)->Option β:=
 @EI.rec (fun _=>List (List EV)->List EV->Nat->EH->(EV->Eff->Option β)->(FuncId->List EV->Option β)->Option β)
  (fun x G t n l k c=>BU x G t fun v=>k v .no)
  (fun p a b G t n l k c=>BU p G t fun p=>BU a G t fun a=>BU b G t fun b=>Gu (H6 p a b l.reverse) k c)
  (fun z G t n l k c=>Du (KF (.agg (B8 z)) n) k)
  (fun x G t n l k c=>BU x G t fun v=>Du (KF v n) k)
  (fun z ps G t n l k c=>Nc ps G t (B8 z) fun cs=>gL cs fun cs=>k (.agg cs) .no)
  (fun es m z ps G t n l k c=>Nc ps G t (B8 z) fun cs=>match CW cs with|true=>Du (.ret (.sl es n 0 m (some m)) (.push (.blk cs))) k|false=>none)
  (fun agg m x G t n l k c=>BU x G t fun x=>Pm agg m x n l fun v=>k v .no)
  (fun m x v G t n l k c=>BU x G t fun x=>BU v G t fun v=>Te (Rb kA m x v (gX n l)) k)
  (fun x G t n l k c=>BU x G t fun x=>Gu (GB x l.reverse) k c)
  (fun op x y td G t n l k c=>BU x G t fun x=>BU y G t fun y=>Dn (Hh kA op x y td l.reverse) k c)
  (fun op x G t n l k c=>BU x G t fun x=>Dn (unE kA op x l.reverse) k c)
  (fun i x G t n l k c=>BU x G t fun x=>Dn (GI kA i x l.reverse) k c)
  (fun x G t n l k c=>BU x G t fun x=>Gu (HM x l.reverse) k c)
  (fun x G t n l k c=>BU x G t fun x=>Du (Rp kA x n) k)
  (fun x G t n l k c=>BU x G t fun x=>Du (N7 kA x (gX n l)) k)
  (fun x G t n l k c=>BU x G t fun x=>Du (RT kA x (gX n l)) k)
  (fun ty x G t n l k c=>BU x G t fun x=>k (.iface ty x) .no)
  (fun f a b G t n l k c=>Hu a G t fun a=>Hu b G t fun b=>k (.fn f a b) .no)
  (fun G t n l k c=>Du (.ret (.mp n) (.push (.emap []))) k)
  (fun es bytes z a b G t n l k c=>BU a G t fun a=>BU b G t fun b=>Du (Rg kA es bytes (B8 z) a b n) k)
  (fun es x lo hi mx G t n l k c=>BU x G t fun x=>match Dd G t lo,Dd G t hi,Dd G t mx with
   |some lo,some hi,some mx=>Dn (GO kA es x lo hi mx l.reverse) k c
   |_,_,_=>none)
  (fun x lo hi G t n l k c=>BU x G t fun x=>match Dd G t lo,Dd G t hi with
   |some lo,some hi=>Dn (Hf kA x lo hi l.reverse) k c
   |_,_=>none)
  (fun m x G t n l k c=>BU x G t fun x=>Dn (Hk kA m x l.reverse) k c)
  (fun o x G t n l k c=>BU x G t fun x=>Dn (GE kA o x l.reverse) k c)
  (fun agg o m x G t n l k c=>BU x G t fun x=>Dn (GK agg o m x l.reverse) k c)
  (fun es x i G t n l k c=>BU x G t fun x=>BU i G t fun i=>Dn (GJ kA es x i l.reverse) k c)
  (fun es m x i G t n l k c=>BU x G t fun x=>BU i G t fun i=>Dn (Hc kA es m x i l.reverse) k c)
  (fun agg es m x i G t n l k c=>BU x G t fun x=>BU i G t fun i=>Dn (GQ kA agg es m x i l.reverse) k c)
  (fun x i G t n l k c=>BU x G t fun x=>BU i G t fun i=>Dn (GL kA x i l.reverse) k c)
  (fun ks z isA ok x y G t n l k c=>BU x G t fun x=>BU y G t fun y=>Du (NM kA ks z isA ok x y (gX n l)) k)
  (fun ks x y v G t n l k c=>BU x G t fun x=>BU y G t fun y=>BU v G t fun v=>Du (Rt kA ks x y v (gX n l)) k)
  (fun x i G t n l k c=>BU x G t fun x=>Dn (Hj x i l.reverse) k c)
  (fun f args G t n l k c=>Hu args G t fun args=>c f args)
  (fun x args G t n l k c=>BU x G t fun x=>Hu args G t fun args=>Gu (IzO x args) k c)
  (fun x _ cands args G t n l k c=>BU x G t fun x=>Hu args G t fun args=>Gu (IZ x cands args) k c)
  (fun es bytes x y G t n l k c=>BU x G t fun x=>BU y G t fun y=>Du (Rm kA es bytes x y (gX n l) n) k)
  (fun m x G t n l k c=>BU x G t fun x=>Du (RP kA m x (gX n l)) k)
  (fun es x y G t n l k c=>BU x G t fun x=>BU y G t fun y=>Du (ND kA es x y (gX n l)) k)
  (fun mx x xs G t n l k c=>BU x G t fun x=>Hu xs G t fun xs=>Dn (Hg kA mx x xs l.reverse) k c)
  (fun d agg m x G t n l k c=>BU x G t fun x=>Ij t d fun w=>Du (Rz w agg m x (gX n l)) k)
  (fun x y G t n l k c=>BU x G t fun x=>BU y G t fun y=>Gu (HX x y l.reverse) k c)
  (fun G t n l k c=>none)
theorem zC5{Q:Option γ->Prop}{k:EV->Eff->Option β}{c:FuncId->List EV->Option β}{K:EV->EH->Option γ}{c':FuncId->List EV->Option γ}{G:List (List EV)}{t:List EV}{n:Nat}{l:EH}{r:β}
  (hn:n=l.length) (hk:∀v e,k v e=some r->Q (K v (e.app l.reverse))) (hc:∀f a,c f a=some r->Q (c' f a)) (ei:EI) (he:Po ei G t n l k c=some r) :
  Q (Cd kA K c' (BD kA G t l.reverse ei)):=by
 have hg:gX n l=Bh l.reverse:=funext (J4 hn)
 have hs:n=Bc l.reverse:=by rw[LY];simpa using hn
 unfold Po at he
 cases ei with
 |mov x=>simp only[B9]at he;exact hk _ .no he
 |pick p a b=>simp only[B9]at he;exact Ht hk hc (Yb _ _ _) he
 |alloc z=>simp only[BD];rw[Uh,<-hs];exact DM hk he
 |box x=>simp only[B9]at he;simp only[BD];rw[Uh,<-hs];exact DM hk he
 |build z ps=>
  simp only[Nk,Lz]at he;simp only[BD];split at he
  ·rename_i cs hcs;rw[hcs];exact hk _ .no he
  ·cases he
 |buildSlice es m z ps=>
  simp only[Nk]at he;simp only[BD];split at he
  ·rename_i cs hcs
   rw[hcs];split at he
   ·rename_i ho
    simp only[ho,if_true];have:=DM (s:=.ret (.sl es n 0 m (some m)) (.push (.blk cs))) (K:=K) (c':=c') hk he
    rwa [hs]at this
   ·cases he
  ·cases he
 |load agg m x=>simp only[B9]at he;exact YP hn (fun v e=>hk v .no e) he
 |store m x v=>simp only[B9,hg]at he;simp only[BD];rw[Z7];exact zB2 hk he
 |nilCheck x=>simp only[B9]at he;exact Ht hk hc (zDZ _) he
 |bin op x y td=>simp only[B9]at he;exact DU hk hc (Zk _ _ _ _ _) he
 |un op x=>simp only[B9]at he;exact DU hk hc (zCF _ _ _) he
 |conv i x=>simp only[B9]at he;exact DU hk hc (YS _ _ _) he
 |cstr x=>simp only[B9]at he;exact Ht hk hc (zDw _) he
 |s2b x=>simp only[B9]at he;simp only[BD];rw[zDq,<-hs];exact DM hk he
 |b2s x=>simp only[B9,hg]at he;simp only[BD];rw[zCb];exact DM hk he
 |strish x=>simp only[B9,hg]at he;simp only[BD];rw[zC2];exact DM hk he
 |mkIface ty x=>simp only[B9]at he;exact hk _ .no he
 |mkFunc f a b=>simp only[Ic]at he;exact hk _ .no he
 |mkMap=>
  have:=DM (s:=.ret (.mp n) (.push (.emap []))) (K:=K) (c':=c') hk he
  rwa [hs]at this
 |mkSlice es bytes z a b=>simp only[B9]at he;simp only[BD];rw[zBG,<-hs];exact DM hk he
 |slice es x lo hi mx=>
  simp only[B9]at he;simp only[BD];split at he
  ·rename_i h1 h2 h3
   simp only[h1,h2,h3];exact DU hk hc (zA4 _ _ _ _ _ _) he
  ·cases he
 |sliceStr x lo hi=>
  simp only[B9]at he;simp only[BD];split at he
  ·rename_i h1 h2
   simp only[h1,h2];exact DU hk hc (zCY _ _ _ _) he
  ·cases he
 |s2a m x=>simp only[B9]at he;exact DU hk hc (WH _ _ _) he
 |fieldAddr o x=>simp only[B9]at he;exact DU hk hc (Z2 _ _ _) he
 |field agg o m x=>simp only[B9]at he;exact DU hk hc (zBy _ _ _ _) he
 |indexAddr es x i=>simp only[B9]at he;exact DU hk hc (zBS _ _ _ _) he
 |indexAddrArr es m x i=>simp only[B9]at he;exact DU hk hc (WM _ _ _ _ _) he
 |indexArr agg es m x i=>simp only[B9]at he;exact DU hk hc (zDb _ _ _ _ _ _) he
 |indexStr x i=>simp only[B9]at he;exact DU hk hc (zEh _ _ _) he
 |lookup ks z isA ok x y=>simp only[B9,hg]at he;simp only[BD];rw[zBn];exact DM hk he
 |mapSet ks x y v=>simp only[B9,hg]at he;simp only[BD];rw[Yf];exact DM hk he
 |extract x i=>simp only[B9]at he;exact DU hk hc (zCn _ _) he
 |call f args=>simp only[Ic]at he;exact hc _ _ he
 |callv x args=>simp only[B9,Ic]at he;exact Ht hk hc (zCm _ _) he
 |invoke x nm cands args=>simp only[B9,Ic]at he;exact Ht hk hc (ZZ _ _ _) he
 |append es bytes x y=>simp only[B9,hg]at he;simp only[BD];rw[WK,<-hs];exact DM hk he
 |len m x=>simp only[B9,hg]at he;simp only[BD];rw[ZV];exact DM hk he
 |copy es x y=>simp only[B9,hg]at he;simp only[BD];rw[zDp];exact DM hk he
 |minmax mx x xs=>simp only[B9,Ic]at he;exact DU hk hc (zC4 _ _ _ _) he
 |again d agg m x=>simp only[B9,LD,hg]at he;simp only[BD];rw[WZ];exact DM hk he
 |apart x y=>simp only[B9]at he;exact Ht hk hc (zBq _ _) he
 |bad=>cases he
end
end Go.Proofs.YtehgpabfgjofhaaGreatDoor.Em
