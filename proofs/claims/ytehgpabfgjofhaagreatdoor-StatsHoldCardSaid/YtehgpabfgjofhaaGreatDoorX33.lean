/- No conditions. -/
import Derived.Test.YtehgpabfgjofhaaGreatDoorX28
set_option linter.unusedVariables false
set_option linter.unusedSimpArgs false
namespace Go.Proofs.YtehgpabfgjofhaaGreatDoor.Em
open Go Go.RowKit
def HasTF(P:Program)(g:TypeId->List EV->Prop):List Field->List EV->Prop
 |[],c=>c=[]
 |f::l,c=>P.cellsOf f.type<=c.length/\g f.type (c.take (P.cellsOf f.type))/\HasTF P g l (c.drop (P.cellsOf f.type))
def HasT(P:Program):Nat->TypeId->List EV->Prop
 |0,_,_=>False
 |m+1,t,c=>match P.underlying t with
  |some .bool=>∃b,c=[.lit (.bool b)]
  |some (.int k)=>∃n,c=[.lit (.int k n)]/\k.min<=n/\n<=k.max
  |some .string=>∃s,c=[.lit (.string s)]/\s.size<=140737488351232
  |some (.slice e)=>∃len l,c=[.isl len none l]/\len<=140737488351232/\l.length=len*P.cellsOf e/\∀i,i<len->HasT P m e ((l.drop (i*P.cellsOf e)).take (P.cellsOf e))
  |some (.struct fs)=>HasTF P (HasT P m) fs.toList c
  |_=>False
def okL(P:Program)(L:List TypeId):Bool:=
 L.all fun t=>match P.underlying t with
  |some .bool=>true
  |some (.int _)=>true
  |some .string=>true
  |some (.slice e)=>L.contains e && !(Nat.beq (P.cellsOf e) 0||Nat.beq (P.bytesOf e) 0)
  |some (.struct fs)=>fs.toList.all (fun f=>L.contains f.type)&&Eg P 0 fs.toList (P.cellsOf t)
  |_=>false
section
variable {P:Program} {m:Nat} {t e:TypeId} {c:List EV} {g:TypeId->List EV->Prop} {f:Field} {l:List Field}
theorem HasTF.cons{n:Nat}{u:TypeId}(h:HasTF P g (f::l) c)(hu:f.type=u)(hn:P.cellsOf u=n):n<=c.length/\g u (c.take n)/\HasTF P g l (c.drop n):=by subst hu;subst hn;exact h
theorem HasTF.nil(h:HasTF P g [] c):c=[]:=h
theorem HasT.bool(hu:P.underlying t=some .bool)(h:HasT P m t c):∃b,c=[.lit (.bool b)]:=by
 cases m with
 |zero=>exact h.elim
 |succ m=>simpa only[HasT,hu]using h
theorem HasT.int{k:IntKind}(hu:P.underlying t=some (.int k))(h:HasT P m t c):∃n,c=[.lit (.int k n)]/\k.min<=n/\n<=k.max:=by
 cases m with
 |zero=>exact h.elim
 |succ m=>simpa only[HasT,hu]using h
theorem HasT.str(hu:P.underlying t=some .string)(h:HasT P m t c):∃s,c=[.lit (.string s)]/\s.size<=140737488351232:=by
 cases m with
 |zero=>exact h.elim
 |succ m=>simpa only[HasT,hu]using h
theorem HasT.slice{n:Nat}(hu:P.underlying t=some (.slice e))(hn:P.cellsOf e=n)(h:HasT P m t c) :
  ∃m' len l,m=m'+1/\c=[.isl len none l]/\len<=140737488351232/\l.length=len*n/\∀i,i<len->HasT P m' e ((l.drop (i*n)).take n):=by
 cases m with
 |zero=>exact h.elim
 |succ m=>
  subst hn;simp only[HasT,hu]at h;obtain⟨len,l,h1,h2,h3,h4⟩:=h;exact⟨m,len,l,rfl,h1,h2,h3,h4⟩
theorem HasT.struct{l:List Field}(hu:P.underlying t=some (.struct ⟨l⟩))(h:HasT P m t c):∃m',m=m'+1/\HasTF P (HasT P m') l c:=by
 cases m with
 |zero=>exact h.elim
 |succ m=>simp only[HasT,hu]at h;exact⟨m,rfl,h⟩
end
section
variable {P:Program} {W:World} {I:Imm} {H:Type} {enc:TypeId×Value->H} {held:Bool}
theorem Tl{tot:Nat}:∀(fs:List Field) (off:Nat),Eg P off fs tot=true->off<=tot
 |[],off,h=>by simp only[Eg,Nat.beq_eq]at h;omega
 |f::fs,off,h=>by
  simp only[Eg,Bool.and_eq_true]at h;have:=Tl fs _ h.2;omega
theorem zBt{L:List TypeId}(hL:okL P L=true):∀(fuel:Nat) (t:TypeId) (cs:List Value) (d:DataW H) (ps:List MemPlace),t∈L->DataW.trod enc P W 0 (fun _=>true) held fuel t cs=some (d,ps)->
  (∀p∈ps,I.j p.block)->(∀n∈d.weights P t,n<=reachBytes)->∃c,RepL W I [] c cs/\HasT P fuel t c/\∀v∈cs,v.oneCell'=true:=by
 intro fuel
 induction fuel with
 |zero=>intro t cs d ps _ h;simp[DataW.trod]at h
 |succ fuel ih=>
  intro t cs d ps ht h hI hW;have hs:=List.all_eq_true.1 hL t ht;simp only[HasT];cases hu:P.underlying t with
  |none=>simp[hu]at hs
  |some td=>
   simp only[hu]at hs;cases td with
   |bool=>
    obtain⟨b,rfl⟩:=zDM hu h;exact⟨[.lit (.bool b)],⟨.lit _ _,trivial⟩,⟨b,rfl⟩,by simp[Value.oneCell']⟩
   |int k=>
    obtain⟨n,rfl,hw⟩:=zBE hu h;simp[Lit.wf]at hw;exact⟨[.lit (.int k n)],⟨.lit _ _,trivial⟩,⟨n,rfl,hw.1,hw.2⟩,by simp[Value.oneCell']⟩
   |string=>
    obtain⟨s,rfl,hl,hd⟩:=VS hu h;have hd:d=_:=hd;subst hd;have:=hW s.data.toList.length (by simp[DataW.weights])
    exact⟨[.lit (.string s)],⟨.lit _ _,trivial⟩,⟨s,rfl,by simpa[reachBytes]using this⟩,by simp[Value.oneCell']⟩
   |slice e=>
    simp only[Bool.and_eq_true,Bool.not_eq_true']at hs;obtain⟨heL,hs⟩:=hs;have heL:e∈L:=by simpa using heL
    have hb0:P.bytesOf e≠0:=fun h0=>by rw[h0]at hs;simp at hs
    have hn0:P.cellsOf e≠0:=fun h0=>by rw[h0]at hs;simp at hs
    rcases zAT hu h with rfl|⟨a,len,cap,elems,rest,rfl,hle,hmx,he1,hr1,hps,hdd⟩
    ·exact⟨[.isl 0 none []],⟨.isln _ _,trivial⟩,⟨0,[],rfl,by omega,by simp,fun i hi=>absurd hi (by omega)⟩,by simp[Value.oneCell']⟩
    ·have hps:ps=_:=hps
     have hdd:d=_:=hdd;subst hdd;have hps:ps=MemPlace.row a ((elems.length+rest.length)*P.cellsOf e)++(elems++rest).flatMap (·.2):=hps
     simp only[DataW.weights,hu,List.length_map]at hW
     have hcapW:len<=140737488351232:=by
      have h1:=hW _ (List.mem_cons_self);have h2:elems.length=len:=by simpa using mapM_some_length he1
      have h3:(elems.length+rest.length)*1<=(elems.length+rest.length)*P.bytesOf e:=Nat.mul_le_mul_left _ (by omega)
      simp only[reachBytes]at h1;omega
     have el:elems.length=len:=by simpa using mapM_some_length he1
     have rl:rest.length=cap-len:=by simpa using mapM_some_length hr1
     have piece:∀i,i<cap->∃x∈elems++rest,∃vs,W.cells? 0 (a.add (i*P.cellsOf e)) (P.cellsOf e)=some vs/\DataW.trod enc P W 0 (fun _=>true) held fuel e vs=some x:=by
      intro i hi
      by_cases hil:i<len
      ·have:=mapM_some_get he1 i i (by rw[List.getElem?_range];simp[hil])
       obtain⟨x,hx⟩:∃x,elems[i]?=some x:=⟨_,lE (by omega)⟩
       rw[hx]at this;obtain⟨vs,h1,h2⟩:=Option.bind_eq_some_iff.1 this;exact⟨x,by simp[List.mem_of_getElem? hx],vs,h1,h2⟩
      ·have:=mapM_some_get hr1 (i-len) (i-len) (by rw[List.getElem?_range (by omega)])
       obtain⟨x,hx⟩:∃x,rest[i-len]?=some x:=⟨_,lE (by omega)⟩
       rw[hx]at this;obtain⟨vs,h1,h2⟩:=Option.bind_eq_some_iff.1 this;rw[show len+(i-len)=i by omega]at h1
       exact⟨x,by simp[List.mem_of_getElem? hx],vs,h1,h2⟩
     have piece2:∀i,i<cap->∃c,(c.length=P.cellsOf e/\HasT P fuel e c)/\∀(r:Nat) (y:EV),c[r]?=some y->∃v,W.cell? ((a.add (i*P.cellsOf e)).add r)=some v/\v.oneCell'=true/\Rep W I [] y v:=by
      intro i hi;obtain⟨x,hx,vs,h1,h2⟩:=piece i hi;obtain⟨hvl,hvc⟩:=zDY h1
      obtain⟨c,k1,k2,k3⟩:=ih e vs x.1 x.2 heL h2 (fun p hp=>hI p (by
       rw[hps]
       exact List.mem_append.2 (.inr (List.mem_flatMap.2 ⟨x,hx,hp⟩)))) (fun n hn=>hW n (List.mem_cons.2 (.inr (List.mem_append.2 (by
        rcases List.mem_append.1 hx with hx|hx
        ·exact .inl (NZ (List.mem_map.2 ⟨x,hx,rfl⟩) hn)
        ·exact .inr (NZ (List.mem_map.2 ⟨x,hx,rfl⟩) hn))))))
      refine⟨c,⟨by rw[k1.length,hvl],k2⟩,fun r y hy=>?_⟩
      have hr:r<vs.length:=by rw[<-k1.length];exact(List.getElem?_eq_some_iff.1 hy).1
      have hv:vs[r]?=some vs[r]:=lE hr;exact⟨vs[r],hvc r _ hv,k3 _ (List.mem_of_getElem? hv),k1.at r y _ hy hv⟩
     have hspot:cap≠0->a.spot=none:=fun hc=>by
      obtain⟨c,⟨hcl,_⟩,hc2⟩:=piece2 0 (by omega)
      have hne:0<c.length:=by omega
      obtain⟨v,hv,_⟩:=hc2 0 c[0] (lE hne);simpa[Addr.add]using World.cell?_spot hv
     have hblk:cap≠0->I.j a.block:=fun hc=>hI (.cell a.block (a.off+0)) (by
      rw[hps];refine List.mem_append.2 (.inl (List.mem_map.2 ⟨0,List.mem_range.2 ?_,rfl⟩));rw[el,rl];have:0<cap*P.cellsOf e:=Nat.mul_pos (by omega) (by omega)
      rw[show len+(cap-len)=cap by omega];exact this)
     let f:Nat->List EV:=fun i=>if hi:i<cap then Classical.choose (piece2 i hi)else []
     have hf:∀i (hi:i<cap),f i=Classical.choose (piece2 i hi):=fun i hi=>dif_pos hi
     obtain⟨l,t1,t2,t3⟩:=Ss (P.cellsOf e) f len (fun i hi=>by rw[hf i (by omega)];exact(Classical.choose_spec (piece2 i (by omega))).1.1)
     have hcell:∀(j:Nat) (x:EV),l[j]?=some x->∃v,W.cell? ⟨a.block,a.off+j,none⟩=some v/\v.oneCell'=true/\Rep W I [] x v:=by
      intro j x hx;obtain⟨i,r,hi,hr,rfl,hx2⟩:=t3 j x hx;rw[hf i (by omega)]at hx2
      obtain⟨v,q1,q2,q3⟩:=(Classical.choose_spec (piece2 i (by omega))).2 r x hx2
      refine⟨v,?_,q2,q3⟩;have hsp:=hspot (by omega)
      rw[Kx hsp,EW]at q1;rw[<-Nat.add_assoc];exact q1
     refine⟨[.isl len none l],⟨?_,trivial⟩,⟨len,l,rfl,hcapW,t1,fun i hi=>?_⟩,by simp[Value.oneCell']⟩
     ·refine .isl [] len none l a cap (fun j=>(W.cell? ⟨a.block,a.off+j,none⟩).getD undef) ⟨hle,fun q hq=>by cases hq⟩ hspot (fun hc=>⟨hblk hc,fun j x hx=>?_⟩) (fun hc j x hx=>?_)
      ·obtain⟨v,q1,q2,_⟩:=hcell j x hx
       simp only[q1,Option.getD_some];exact⟨trivial,q2⟩
      ·obtain⟨v,q1,_,q3⟩:=hcell j x hx
       simp only[q1,Option.getD_some];exact q3
     ·rw[t2 i hi,hf i (by omega)]
      exact(Classical.choose_spec (piece2 i (by omega))).1.2
   |struct fs=>
    simp only[Bool.and_eq_true,List.all_eq_true]at hs;obtain⟨hfL,htile⟩:=hs
    have main:∀(fs:List Field) (off:Nat) (xs:List (DataW H×List MemPlace)),(∀f∈fs,f.type∈L)->Eg P off fs (P.cellsOf t)=true->
      (fs.mapM fun f=>DataW.trod enc P W 0 (fun _=>true) held fuel f.type ((cs.drop f.offset).take (P.cellsOf f.type)))=some xs->cs.length=P.cellsOf t->
      (∀p∈xs.flatMap (·.2),I.j p.block)->(∀n∈DataW.weightsEach P (fs.map (·.type)) (xs.map (·.1)),n<=reachBytes)->∃c,RepL W I [] c (cs.drop off)/\HasTF P (HasT P fuel) fs c/\∀v∈cs.drop off,v.oneCell'=true:=by
     intro fs
     induction fs with
     |nil=>
      intro off xs _ h1 _ h3 _ _;simp only[Eg,Nat.beq_eq]at h1;rw[List.drop_eq_nil_of_le (by omega)]
      exact⟨[],trivial,rfl,by simp⟩
     |cons f fs ihf=>
      intro off xs hm h1 h2 h3 h4 h5;simp only[Eg,Bool.and_eq_true,Nat.beq_eq]at h1;obtain⟨hoff,h1⟩:=h1;simp only[List.mapM_cons]at h2;obtain⟨x,hx,h2⟩:=Option.bind_eq_some_iff.1 h2;obtain⟨xs',hxs,h2⟩:=Option.bind_eq_some_iff.1 h2;cases h2;rw[hoff]at hx;simp only[List.map_cons,DataW.weightsEach,List.mem_append]at h5;obtain⟨c1,a1,a2,a3⟩:=ih f.type _ x.1 x.2 (hm f (by simp)) hx (fun p hp=>h4 p (by simp[hp])) (fun n hn=>h5 n (.inl hn))
      obtain⟨c2,b1,b2,b3⟩:=ihf _ _ (fun g hg=>hm g (by simp[hg])) h1 hxs h3 (fun p hp=>h4 p (by simp only[List.flatMap_cons,List.mem_append];exact .inr hp)) (fun n hn=>h5 n (.inr hn))
      have hle:=Tl _ _ h1;have hlen1:c1.length=P.cellsOf f.type:=by rw[a1.length];simp;omega
      have hsplit:cs.drop off=(cs.drop off).take (P.cellsOf f.type)++cs.drop (off+P.cellsOf f.type):=by
       rw[<-List.drop_drop];exact(List.take_append_drop _ _).symm
      refine⟨c1++c2,?_,⟨by simp[hlen1],?_,?_⟩,fun v hv=>?_⟩
      ·rw[hsplit];exact WO a1 b1
      ·rw[List.take_append_of_le_length (by omega),lT (by omega)];exact a2
      ·rw[List.drop_append,List.drop_eq_nil_of_le (by omega),hlen1];simpa using b2
      ·rw[hsplit,List.mem_append]at hv
       exact hv.elim (a3 v) (b3 v)
    obtain⟨hcl,xs,hxs,h,hdd⟩:=Wg hu h;have hdd:d=_:=hdd;subst hdd;simp only[DataW.weights,hu]at hW;obtain⟨c,q1,q2,q3⟩:=main fs.toList 0 xs (fun f hf=>by simpa using hfL f hf) htile hxs hcl (fun p hp=>hI p (by rw[show ps=xs.flatMap (·.2)from h];exact hp)) hW
    exact⟨c,by simpa using q1,q2,by simpa using q3⟩
   |_=>simp at hs
def Ra(P:Program)(t:TypeId)(e:EV):Prop:=∃m c,HasT P m t c/\((∃fs,P.underlying t=some (.struct fs))->e = .agg c)/\((∀fs,P.underlying t≠some (.struct fs))->c=[e])
theorem zCS{L:List TypeId}(hL:okL P L=true){t:TypeId}{v:Value}{d:DataW H}{ps:List MemPlace}{base:Nat}(ht:t∈L)(hv:Value.okWide P W .any base t v)
  (h:DataW.Trod enc P W 0 (fun _=>true) held t v d ps) (hI:∀p∈ps,I.j p.block) (hW:∀n∈d.weights P t,n<=reachBytes):∃e,Rep W I [] e v/\Ra P t e:=by
 obtain⟨fuel,h⟩:=h
 obtain⟨c,k1,k2,k3⟩:=zBt hL fuel t _ d ps ht h hI hW
 have hs:=List.all_eq_true.1 hL t ht
 simp only[Value.okWide]at hv
 cases hu:P.underlying t with
 |none=>simp[hu]at hs
 |some td=>
  simp only[hu]at hs hv
  have one:v.cells.toList=[v]->(∀fs,td≠ .struct fs)->∃e,Rep W I [] e v/\Ra P t e:=by
   intro hv1 h1;rw[hv1]at k1
   match c,k1 with
   |[e],k1=>exact⟨e,k1.1,fuel,[e],k2,fun⟨fs,hfs⟩=>absurd (Option.some.inj (hu.symm.trans hfs)) (h1 fs),fun _=>rfl⟩
  cases td with
  |struct fs=>
   obtain⟨cs,rfl,_⟩:=hv;exact⟨.agg c,HA (by simpa[Value.cells]using k1),fuel,c,k2,fun _=>rfl,fun hn=>absurd hu (hn fs)⟩
  |bool=>refine one ?_ (by simp);cases v<;>simp_all [Cell.okWide,Cell.ok,Value.cells]
  |int k=>refine one ?_ (by simp);cases v<;>simp_all [Cell.okWide,Cell.ok,Value.cells]
  |string=>refine one ?_ (by simp);cases v<;>simp_all [Cell.okWide,Cell.ok,Value.cells]
  |slice e=>refine one ?_ (by simp);cases v<;>simp_all [Cell.okWide,Cell.ok,Value.cells]
  |_=>simp at hs
def Lr(P:Program):List TypeId->List EV->Prop
 |[],es=>es=[]
 |t::l,es=>∃e r,es=e::r/\Ra P t e/\Lr P l r
theorem TL{L:List TypeId}(hL:okL P L=true){base:Nat}:∀(ts:List TypeId) (vs:List Value) (ds:List (DataW H)) (ps:List MemPlace),(∀t∈ts,t∈L)->
  (∀(j:Nat) t v,ts[j]?=some t->vs[j]?=some v->Value.okWide P W .any base t v)->DataW.TrodAll enc P W 0 (fun _=>true) held ts vs ds ps->(∀p∈ps,I.j p.block)->(∀n∈DataW.weightsEach P ts ds,n<=reachBytes)->
  ∃es,RepL W I [] es vs/\Lr P ts es
 |[],vs,ds,ps,h1,h2,h3,h4,h5=>by
  cases vs with
  |nil=>exact⟨[],trivial,rfl⟩
  |cons v vs=>cases ds<;>simp[DataW.TrodAll]at h3
 |t::ts,vs,ds,ps,h1,h2,h3,h4,h5=>by
  cases vs with
  |nil=>cases ds<;>simp[DataW.TrodAll]at h3
  |cons v vs=>
   cases ds with
   |nil=>simp[DataW.TrodAll]at h3
   |cons d ds=>
    obtain⟨p,q,a1,a2,rfl⟩:=h3;obtain⟨e,b1,b2⟩:=zCS hL (h1 t (by simp)) (h2 0 t v rfl rfl) a1 (fun x hx=>h4 x (by simp[hx])) (fun n hn=>h5 n (by simp only[DataW.weightsEach,List.mem_append];exact .inl hn))
    obtain⟨es,c1,c2⟩:=TL hL ts vs ds q (fun t ht=>h1 t (by simp[ht])) (fun j t v hj hv=>h2 (j+1) t v (by simpa using hj) (by simpa using hv)) a2 (fun x hx=>h4 x (by simp[hx]))
     (fun n hn=>h5 n (by simp only[DataW.weightsEach,List.mem_append];exact .inr hn))
    exact⟨e::es,⟨b1,c1⟩,e,es,rfl,b2,c2⟩
theorem zA8{L:List TypeId}(hL:okL P L=true){f:FuncId}{args:Array Value}{ts:List TypeId}{ds:List (DataW H)}{ps:List MemPlace}{base:Nat}{G:List (List EV)}(hts:∀t∈ts,t∈L)
  (hval:∀(j:Nat) t v,ts[j]?=some t->args[j]?=some v->Value.okWide P W .any base t v) (hA:DataW.TrodAll enc P W 0 (fun _=>true) held ts args.toList ds ps) (hps:∀p∈ps,p.block<W.heap.size)
  (hW:∀n∈DataW.weightsEach P ts ds,n<=reachBytes) (hG:Glob W (IP P W) G) (hf:∀es,Lr P ts es->Tri P G f es [] Ul):Calls P f args W fun e W'=>e = .returned (.bool true)/\Below W.heap.size W W':=by
 obtain⟨es,h1,h2⟩:=TL (I:=IP P W) hL ts args.toList ds ps hts (fun j t v hj hv=>hval j t v hj (by simpa using hv)) hA hps hW
 refine(hf es h2 (IP P W) [] W args (fun b hb=>hb) ⟨rfl,fun id=>trivial,fun i j b o o' hi=>absurd rfl hi⟩ h1 ⟨hG,rfl⟩).mono fun e w' ⟨v,cv,h',I',ρ1,q1,q2,q3,q4,q5,q6,q7⟩=>?_
 subst q1
 refine⟨?_,q7.below⟩
 rcases q2 with rfl|rfl
 ·cases q6;rfl
 ·cases q6;rfl
end
end Go.Proofs.YtehgpabfgjofhaaGreatDoor.Em
