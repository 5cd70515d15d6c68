/- No conditions. -/
import Derived.Test.YtkjhfefbklcciaaGreatDoorX5
set_option linter.unusedVariables false
set_option linter.unusedSimpArgs false
namespace Go.Proofs.YtkjhfefbklcciaaGreatDoor.Em
open Go
section
variable {I:Imm} {w:World} {ρ:Ren} {h:EH} {post:EV->EH->Prop} {pc:FuncId->List EV->Prop} {P:Program}
theorem B6(hs:HSim I w ρ h)(x:Nat×Nat):(ρ++[x])[Bd h]?=some x:=by
 rw[List.getElem?_append_right (by rw[hs.len];exact Nat.le_refl _),hs.len];simp
theorem Hb(hs:HSim I w ρ h)(hI:∀b,I b->b<w.heap.size){c:List EV}{vs:Array Value}{n:Nat}(e:TypeId)
  (hr:∀(j:Nat) (x:EV),c[j]?=some x->∃v,vs[j]?=some v/\v.oneCell'=true/\Rep w I ρ x v) (hl:c.length<=vs.size) :
  OS I (w.alloc (.cells vs e)) (ρ++[(w.heap.size,0)]) (Bd h) (.blk c):=by
 refine⟨w.heap.size,0,vs,e,(0,0),B6 hs _,fun hb=>absurd (hI _ hb) (Nat.lt_irrefl _),Dc w _,.inl rfl,by simpa using hl,fun j x hx=>?_⟩
 obtain⟨v,hv,ho,hrp⟩:=hr j x hx
 exact⟨v,by simpa using hv,ho,(hrp.keep (.alloc w _ hI)).ext _⟩
theorem GG{c:List EV}{vs:List Value}(hr:RepL w I ρ c vs)(h1:∀v∈vs,v.oneCell'=true) :
  ∀(j:Nat) (x:EV),c[j]?=some x->∃v,vs[j]?=some v/\v.oneCell'=true/\Rep w I ρ x v:=by
 intro j x hx
 have hj:j<vs.length:=by rw[<-hr.length];exact(List.getElem?_eq_some_iff.1 hx).1
 exact⟨vs[j],lE hj,h1 _ (List.getElem_mem hj),hr.at j x _ hx (lE hj)⟩
theorem Y0{e:TypeId}{v:EV}{u:Value}(hs:HSim I w ρ h)(hI:∀b,I b->b<w.heap.size)(hv:Rep w I ρ v u)
  (ok:SROK post pc (DE v h)):Res I w ρ post pc (((Instr.box e u).run P w).andThen fun a w'=>.ok (.value a) w'):=by
 unfold DE at ok
 split at ok
 case isFalse=>exact ok.elim
 rename_i hone
 have hrl:=Jg hv hone
 refine Res.made hs hI (o:=.cells u.cells e) (eo:=.blk (BH v)) (v:=.ptr (Bd h) 0) (v':=.pointer (some ⟨w.heap.size,0,none⟩)) ?_ ok ?_ ?_
 ·simp[Instr.box,newVar,newRow]
 ·exact Hb (n:=0) hs hI e (by simpa using GG hrl (GS hrl hone)) (by rw[hrl.length];simp)
 ·exact .ptr _ _ _ w.heap.size 0 (B6 hs _)
theorem V4{e:TypeId}{z:Value}(hz:zeP P e=some z)(hs:HSim I w ρ h)(hI:∀b,I b->b<w.heap.size)
  (ok:SROK post pc (DE (.agg (BB z.cells.toList)) h)) :
  Res I w ρ post pc (((Instr.alloc e true (.tuple #[])).run P w).andThen fun a w'=>.ok (.value a) w'):=by
 unfold DE at ok
 split at ok
 case isFalse=>exact ok.elim
 rename_i hone
 have hrl:RepL w I ρ (BB z.cells.toList) z.cells.toList:=Dk _
 refine Res.made hs hI (o:=.cells z.cells e) (eo:=.blk (BB z.cells.toList)) (v:=.ptr (Bd h) 0) (v':=.pointer (some ⟨w.heap.size,0,none⟩)) ?_ ok ?_ ?_
 ·simp[Instr.alloc,DR hz,newVar,newRow]
 ·exact Hb (n:=0) hs hI e (by simpa using GG hrl (GS hrl hone)) (by rw[hrl.length];simp)
 ·exact .ptr _ _ _ w.heap.size 0 (B6 hs _)
/-! ### literals -/
theorem W8(vs:List Value):∀(off k:Nat) (cs:Array Value),off+k+vs.length<=cs.size->
  ((vs.zipIdx k).foldl (fun cs (c,j)=>cs.setIfInBounds (off+j) c) cs)=(cs.toList.take (off+k)++vs++cs.toList.drop (off+k+vs.length)).toArray:=by
 induction vs with
 |nil=>intro off k cs _;simp
 |cons v vs ih=>
  intro off k cs hl;simp only[List.zipIdx_cons,List.foldl_cons];rw[ih off (k+1) _ (by simp at hl ⊢;omega)]
  congr 1;have:=list_seg_step cs.toList (off+k) v vs (by simp at hl ⊢;omega)
  simp only[Array.toList_setIfInBounds,List.length_cons];rw[show off+(k+1)=off+k+1 by omega]
  exact this
theorem Vz{cs c2 x:List EV}{vs xs:List Value}{o n:Nat}(hr:RepL w I ρ cs vs)(hx:RepL w I ρ x xs)(hl:o+x.length<=cs.length)
  (q1:c2.length=cs.length) (q3:∀j,(j<o\/o+x.length<=j)->c2[j]?=cs[j]?) (q4:∀j,j<x.length->c2[o+j]?=x[j]?) (hn:x.length=n) :
  RepL w I ρ c2 (vs.take o++xs++vs.drop (o+n)):=by
 have hvl:=hr.length
 have hxl:=hx.length
 refine RepL.mk (by simp;omega) fun j y v hy hv=>?_
 rcases Nat.lt_or_ge j o with h1|h1
 ·rw[q3 j (.inl h1)]at hy
  rw[lA,List.getElem?_append_left (by simp;omega),List.getElem?_take,if_pos h1]at hv
  exact hr.at j y v hy hv
 ·rcases Nat.lt_or_ge j (o+n)with h2|h2
  ·obtain⟨i,rfl⟩:∃i,j=o+i:=⟨j-o,by omega⟩
   rw[q4 i (by omega)]at hy
   rw[lA,List.getElem?_append_right (by simp;omega),List.getElem?_append_left (by simp;omega)]at hv
   refine hx.at i y v hy ?_;rw[<-hv];congr 1;simp;omega
  ·rw[q3 j (.inr (by omega))]at hy
   rw[List.getElem?_append_right (by simp;omega),List.getElem?_drop]at hv
   refine hr.at j y v hy ?_;rw[<-hv];congr 1;simp;omega
theorem ID{G:List (List EV)}{t:List EV}{a:Act}(hg:Glob w I G)(ht:RepL w I ρ t a.tmps.toList)(place:Nat->Option (Nat×Nat)) :
  ∀(ps:List (Nat×Operand)) (l:List (Nat×Nat×Operand)) (cs cs':List EV) (vs:Array Value),C6 place ps=some l->Cx G t cs l=some cs'->
   RepL w I ρ cs vs.toList->∃vs',Instr.fill place vs (ps.map fun p=>(p.1,a.eval p.2))=some vs'/\RepL w I ρ cs' vs'.toList/\vs'.size=vs.size
 |[],l,cs,cs',vs,hp,hf,hr=>by
  simp[C6]at hp;subst hp;simp[Cx]at hf;subst hf;exact⟨vs,rfl,hr,rfl⟩
 |(i,x)::ps,l,cs,cs',vs,hp,hf,hr=>by
  simp only[C6]at hp;cases hpl:place i with
  |none=>simp[hpl]at hp
  |some p=>
   obtain⟨o,n⟩:=p;cases hrest:C6 place ps with
   |none=>simp[hpl,hrest]at hp
   |some r=>
    simp[hpl,hrest]at hp;subst hp;simp only[Cx]at hf;split at hf
    case isFalse=>cases hf
    rename_i hlen;split at hf
    case isFalse=>cases hf
    rename_i hone;cases hw:wrt cs o (BH (Bm G t x))with
    |none=>simp[hw]at hf
    |some c2=>
     simp only[hw]at hf;have hx:=EU hg ht x;have hlen':(BH (Bm G t x)).length=n:=by rw[H4]at hlen;simpa using hlen
     obtain⟨q1,q2,q3,q4⟩:=HX cs o _ c2 hw;have hvl:cs.length=vs.size:=by simpa using hr.length
     have hrx:RepL w I ρ (BH (Bm G t x)) (a.eval x).cells.toList:=Jg hx hone;have hvn:(a.eval x).cells.size=n:=by have:=hrx.length;rw[hlen']at this;simpa using this.symm
     rw[hlen']at q2;have hfold:=W8 (a.eval x).cells.toList o 0 vs (by simp[hvn];omega)
     have hr2:RepL w I ρ c2 (vs.toList.take o++(a.eval x).cells.toList++vs.toList.drop (o+n)):=
      Vz hr hrx (by rw[hlen'];exact q2) q1 (by rw[hlen'];rw[hlen']at q3;exact q3) q4 hlen'
     obtain⟨vs',f1,f2,f3⟩:=ID hg ht place ps r c2 cs' (vs.toList.take o++(a.eval x).cells.toList++vs.toList.drop (o+n)).toArray hrest hf (by simpa using hr2)
     refine⟨vs',?_,f2,?_⟩
     ·have hz:(Array.foldl (fun cs (x:Value×Nat)=>cs.setIfInBounds (o+x.2) x.1) vs (a.eval x).cells.zipIdx) =
        (vs.toList.take o++(a.eval x).cells.toList++vs.toList.drop (o+n)).toArray:=by
       rw[<-Array.foldl_toList];simp only[Array.toList_zipIdx];simpa[hvn]using hfold
      simp only[List.map_cons,Instr.fill,hpl,hvn];rw[if_neg (by simp;omega)]
      rw[<-f1];congr 1
     ·rw[f3];simp[hvn];omega
theorem NO{α β:Type}{f:α->Sem β}{g:α->β}:∀(l:List α) (w:World),(∀x∈l,∀w,(f x).run P w = .ok (g x) w)->(l.mapM f).run P w = .ok (l.map g) w
 |[],_,_=>by simp
 |x::l,w,hx=>by
  simp[List.mapM_cons,hx x (by simp),NO l w (fun y hy=>hx y (by simp[hy]))]
theorem LE:∀(l:List (Option (Nat×Nat))) (r:List (Nat×Nat)),D1 l=some r->l=r.map some
 |[],r,hr=>by simp[D1]at hr;subst hr;rfl
 |none::l,r,hr=>by simp[D1]at hr
 |some x::l,r,hr=>by
  simp only[D1]at hr;cases hl:D1 l with
  |none=>simp[hl]at hr
  |some r'=>simp[hl]at hr;subst hr;simp[LE l r' hl]
theorem TY{G:List (List EV)}{t:List EV}{a:Act}(hg:Glob w I G)(ht:RepL w I ρ t a.tmps.toList){ty:TypeId}{fs:Array Field}{z:Value}
  {places:List (Nat×Nat)} {ps:Array (Nat×Operand)} {l:List (Nat×Nat×Operand)} {c:List EV} (hz:zeP P ty=some z) (hu:P.underlying ty=some (.struct fs))
  (hp:D1 (fs.toList.map fun f=>(szP P f.type).map fun n=>(f.offset,n))=some places) (hl:C6 (fun i=>places[i]?) ps.toList=some l)
  (hc:Cx G t (BB z.cells.toList) l=some c) :
  ∃vs,(Instr.build ty (ps.map fun p=>(p.1,a.eval p.2))).run P w = .ok (.agg vs) w/\RepL w I ρ c vs.toList:=by
 obtain⟨vs',f1,f2,f3⟩:=ID hg ht (fun i=>places[i]?) ps.toList l _ c z.cells hl hc (Dk _)
 refine⟨vs',?_,f2⟩
 have hpl:=LE _ _ hp
 have hm:(fs.mapM fun f=>do pure (f.offset,<-sizeOf f.type):Sem (Array (Nat×Nat))).run P w = .ok places.toArray w:=by
  rw[Array.mapM_eq_mapM_toList];simp only[Sem.run_map];rw[NO (g:=fun f=>(f.offset,(szP P f.type).getD 0)) fs.toList w]
  ·simp only[Result.andThen_ok]
   congr 2;apply List.ext_getElem?;intro i;have:=congrArg (fun l=>l[i]?) hpl
   simp only[List.getElem?_map]at this ⊢;cases hf:fs.toList[i]? with
   |none=>rw[hf]at this;cases hpi:places[i]?<;>simp_all
   |some f=>
    rw[hf]at this;cases hpi:places[i]? with
    |none=>simp[hpi]at this
    |some p=>
     simp[hpi]at this;obtain⟨n,hn,rfl⟩:=this;simp[hn]
  ·intro f hf w
   have:(szP P f.type).map (fun n=>(f.offset,n))∈places.map some:=by rw[<-hpl];exact List.mem_map.2 ⟨f,hf,rfl⟩
   cases hn:szP P f.type with
   |none=>simp[hn]at this
   |some n=>simp[B5 hn]
 have hpl':(fun i:Nat=>places.toArray[i]?)=fun i:Nat=>places[i]?:=by funext i;simp
 have hps:(ps.map fun p=>(p.1,a.eval p.2)).toList=ps.toList.map fun p=>(p.1,a.eval p.2):=by simp
 simp only[Instr.build,Sem.run_bind,DR hz,Result.andThen_ok,run_underlying hu,hm,hps,hpl',f1,Sem.run_pure]
theorem Wi{G:List (List EV)}{t:List EV}{a:Act}(hg:Glob w I G)(ht:RepL w I ρ t a.tmps.toList){ty e:TypeId}{m n:Nat}{z:Value}
  {ps:Array (Nat×Operand)} {l:List (Nat×Nat×Operand)} {c:List EV} (hz:zeP P ty=some z) (hu:P.underlying ty=some (.array m e)) (hn:szP P e=some n)
  (hl:C6 (fun i=>some (i*n,n)) ps.toList=some l) (hc:Cx G t (BB z.cells.toList) l=some c) :
  ∃vs,(Instr.build ty (ps.map fun p=>(p.1,a.eval p.2))).run P w = .ok (.agg vs) w/\RepL w I ρ c vs.toList:=by
 obtain⟨vs',f1,f2,f3⟩:=ID hg ht (fun i=>some (i*n,n)) ps.toList l _ c z.cells hl hc (Dk _)
 refine⟨vs',?_,f2⟩
 have hps:(ps.map fun p=>(p.1,a.eval p.2)).toList=ps.toList.map fun p=>(p.1,a.eval p.2):=by simp
 simp only[Instr.build,Sem.run_bind,DR hz,Result.andThen_ok,run_underlying hu,B5 hn,hps,f1,Sem.run_pure]
theorem Wj{G:List (List EV)}{t:List EV}{a:Act}(hg:Glob w I G)(ht:RepL w I ρ t a.tmps.toList){ty e:TypeId}{m n:Nat}{z:Value}
  {ps:Array (Nat×Operand)} {l:List (Nat×Nat×Operand)} {c:List EV} (hz:zeP P e=some z) (hu:P.underlying ty=some (.slice e)) (hn:szP P e=some n)
  (hlim:¬(n=0\/m*n>2^24)) (hl:C6 (fun i=>some (i*n,n)) ps.toList=some l)
  (hc:Cx G t (BB (((Array.range (m*n)).map (z.cells[· % z.cells.size]!)).toList)) l=some c)
  (hs:HSim I w ρ h) (hI:∀b,I b->b<w.heap.size) (hone:Ce c=true) (hp:post (.sl n (Bd h) 0 m (some m)) (Bx h (.blk c))) :
  Res I w ρ post pc (((Instr.buildSlice ty m (ps.map fun p=>(p.1,a.eval p.2))).run P w).andThen fun v w'=>.ok (.value v) w'):=by
 obtain⟨vs',f1,f2,f3⟩:=ID hg ht (fun i=>some (i*n,n)) ps.toList l _ c ((Array.range (m*n)).map (z.cells[· % z.cells.size]!)) hl hc (Dk _)
 have hps:(ps.map fun p=>(p.1,a.eval p.2)).toList=ps.toList.map fun p=>(p.1,a.eval p.2):=by simp
 have hcl:=f2.length
 refine Res.made hs hI (o:=.cells vs' e) (eo:=.blk c) (v':=.slice (some ⟨w.heap.size,0,none⟩) m m) ?_ hp ?_ ?_
 ·have hlim':¬(m*n>2^24):=by omega
  by_cases h0:m*n=0
  ·have f1':=f1
   rw[show (Array.range (m*n)).map (fun i=>z.cells[i%z.cells.size]!) = #[] by rw[h0];simp]at f1'
   have hrg:Array.range 0 = #[]:=rfl;simp[Instr.buildSlice,run_underlying hu,B5 hn,h0,hps,hrg,f1',newRow]
  ·simp only[Instr.buildSlice,Sem.run_bind,run_underlying hu,Result.andThen_ok,B5 hn,hlim',h0,if_false,Sem.run_pure,DR hz,hps,f1,newRow,run_newObj]
   rfl
 ·exact Hb (n:=0) hs hI e (by simpa using GG f2 (GS f2 hone)) (by rw[hcl];simp)
 ·refine .sl _ _ _ _ _ _ _ m w.heap.size 0 (B6 hs _) ⟨Nat.le_refl _,fun k hk=>by cases hk;rfl⟩ rfl fun hm=>⟨rfl,vs',e,(0,0),Dc w _,?_⟩
  rw[f3];simp
end
end Go.Proofs.YtkjhfefbklcciaaGreatDoor.Em
