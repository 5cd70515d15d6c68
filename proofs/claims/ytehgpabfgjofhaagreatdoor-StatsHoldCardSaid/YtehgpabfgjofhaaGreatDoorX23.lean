/- No conditions. -/
import Derived.Test.YtehgpabfgjofhaaGreatDoorX22
import Derived.ProofKit
import Derived.ChangeOld
import Derived.Below
import Derived.Carry
import Derived.DataReads
import Derived.SizedLaws
set_option linter.unusedVariables false
set_option linter.unusedSimpArgs false
namespace Go.Proofs.YtehgpabfgjofhaaGreatDoor.Em
open Go Go.RowKit
mutual
inductive Sh where
 |bool
 |int (k:IntKind)
 |float (k:FloatKind)
 |str
 |slice (n:Nat) (s:Sh)
 |struct (l:ShL)
 |arr (m n:Nat) (s:Sh)
inductive ShL where
 |nil
 |cons (n:Nat) (s:Sh) (l:ShL)
end
mutual
def Js:Sh->List EV->Prop
 | .bool,c=>∃b,c=[.lit (.bool b)]
 | .int k,c=>∃n,c=[.lit (.int k n)]/\k.min<=n/\n<=k.max
 | .float k,c=>∃b,c=[.lit (.float k b)]/\(Lit.float k b).wf=true
 | .str,c=>∃s,c=[.lit (.string s)]/\s.size<=140737488351232
 | .slice n s,c=>∃len l,c=[.isl len none l]/\len<=140737488351232/\l.length=len*n/\∀i,i<len->Js s ((l.drop (i*n)).take n)
 | .struct l,c=>Wd l c
 | .arr m n s,c=>c.length=m*n/\∀i,i<m->Js s ((c.drop (i*n)).take n)
def Wd:ShL->List EV->Prop
 | .nil,c=>c=[]
 | .cons n s l,c=>n<=c.length/\Js s (c.take n)/\Wd l (c.drop n)
end
section
variable {P:Program} {W:World} {I:Imm} {H:Type} {enc:TypeId×Value->H} {held:Bool}
theorem Ss(n:Nat)(f:Nat->List EV):∀m,(∀i,i<m->(f i).length=n)->∃l:List EV,l.length=m*n/\(∀i,i<m->(l.drop (i*n)).take n=f i)/\
  ∀(j:Nat) (x:EV),l[j]?=some x->∃i r,i<m/\r<n/\j=i*n+r/\(f i)[r]?=some x
 |0,_=>⟨[],by simp,fun i hi=>absurd hi (by omega),fun j x hx=>by simp at hx⟩
 |m+1,h=>by
  obtain⟨l,h1,h2,h3⟩:=Ss n f m (fun i hi=>h i (by omega))
  refine⟨l++f m,by simp[h1,h m (by omega),Nat.add_mul],fun i hi=>?_,fun j x hx=>?_⟩
  ·by_cases him:i<m
   ·have hle:i*n+n<=l.length:=by rw[h1];have:=Nat.mul_le_mul_right n (show i+1<=m by omega);rw[Nat.add_mul]at this;omega
    rw[List.drop_append_of_le_length (by omega),List.take_append_of_le_length (by rw[lD];omega)]
    exact h2 i him
   ·have:i=m:=by omega
    subst this;rw[List.drop_append,List.drop_eq_nil_of_le (by omega),h1]
    simp only[Nat.sub_self,List.drop_zero,lN];exact lT (by rw[h i (by omega)];exact Nat.le_refl _)
  ·by_cases hj:j<l.length
   ·rw[List.getElem?_append_left hj]at hx
    obtain⟨i,r,a1,a2,a3,a4⟩:=h3 j x hx;exact⟨i,r,by omega,a2,a3,a4⟩
   ·rw[List.getElem?_append_right (by omega)]at hx
    have hlt:=(List.getElem?_eq_some_iff.1 hx).1;rw[h m (by omega)]at hlt
    exact⟨m,j-l.length,by omega,hlt,by omega,hx⟩
theorem zDY{a:Addr}{n:Nat}{vs:List Value}(h:W.cells? 0 a n=some vs):vs.length=n/\∀(j:Nat) (v:Value),vs[j]?=some v->W.cell? (a.add j)=some v:=by
 unfold World.cells? at h
 simp only[Nat.zero_le,if_true]at h
 have hl:=mapM_some_length h
 refine⟨by simpa using hl,fun j v hv=>?_⟩
 have hj:j<n:=by have:=(List.getElem?_eq_some_iff.1 hv).1;simp at hl;omega
 have:=mapM_some_get h j j (by simp[hj])
 rw[this,hv]
theorem WO{c1 c2:List EV}{v1 v2:List Value}(h1:RepL W I [] c1 v1)(h2:RepL W I [] c2 v2):RepL W I [] (c1++c2) (v1++v2):=h1.app h2
theorem zDM{fuel:Nat}{t:TypeId}{cs:List Value}{x:DataW H×List MemPlace}(hu:P.underlying t=some .bool)(h:DataW.trod enc P W 0 (fun _=>true) held (fuel+1) t cs=some x):∃b,cs=[.bool b]:=by
 simp only[DataW.trod,hu]at h
 split at h
 all_goals first|exact⟨_,rfl⟩|(exfalso;simp_all;done)
theorem zBE {fuel : Nat} {t : TypeId} {cs : List Value} {x : DataW H × List MemPlace} {k : IntKind} (hu : P.underlying t = some (.int k)) (h : DataW.trod enc P W 0 (fun _ => true) held (fuel + 1) t cs = some x) :
    ∃ n, cs = [.int k n] ∧ (Lit.int k n).wf = true := by
  simp only [DataW.trod, hu] at h
  split at h
  all_goals first
    | (rename_i k0 k' n he; cases he; split at h
       · rename_i hk; obtain ⟨rfl, hw⟩ := hk; exact ⟨n, rfl, hw⟩
       · cases h)
    | (exfalso; simp_all; done)
theorem VS {fuel : Nat} {t : TypeId} {cs : List Value} {x : DataW H × List MemPlace} (hu : P.underlying t = some .string) (h : DataW.trod enc P W 0 (fun _ => true) held (fuel + 1) t cs = some x) :
    ∃ s, cs = [.string s] ∧ s.size ≤ maxLen ∧ x.1 = .lit (.string s.data.toList) := by
  simp only [DataW.trod, hu] at h
  split at h
  all_goals first
    | (split at h
       · rename_i hl; exact ⟨_, rfl, hl, by cases h; rfl⟩
       · cases h)
    | (exfalso; simp_all; done)
theorem zAT {fuel : Nat} {t e : TypeId} {cs : List Value} {x : DataW H × List MemPlace} (hu : P.underlying t = some (.slice e)) (h : DataW.trod enc P W 0 (fun _ => true) held (fuel + 1) t cs = some x) :
    cs = [.slice none 0 0] ∨ ∃ a len cap elems rest, cs = [.slice (some a) len cap] ∧ len ≤ cap ∧ cap ≤ maxLen ∧
      ((List.range len).mapM fun i => (W.cells? 0 (a.add (i * P.cellsOf e)) (P.cellsOf e)).bind (DataW.trod enc P W 0 (fun _ => true) held fuel e)) = some elems ∧
      ((List.range (cap - len)).mapM fun j => (W.cells? 0 (a.add ((len + j) * P.cellsOf e)) (P.cellsOf e)).bind (DataW.trod enc P W 0 (fun _ => true) held fuel e)) = some rest ∧
      x.2 = MemPlace.row a ((elems.length + rest.length) * P.cellsOf e) ++ (elems ++ rest).flatMap (·.2) ∧ x.1 = .slice (elems.map (·.1)) (rest.map (·.1)) := by
  simp only [DataW.trod, hu] at h
  split at h
  all_goals first
    | exact .inl rfl
    | (rename_i e' a len cap he
       cases he
       split at h
       · rename_i hlc
         obtain ⟨elems, he1, h⟩ := Option.bind_eq_some_iff.1 h
         obtain ⟨rest, hr1, h⟩ := Option.map_eq_some_iff.1 h
         simp only [if_true] at hr1
         exact .inr ⟨a, len, cap, elems, rest, rfl, hlc.2.1, hlc.2.2, he1, hr1, by rw [← h], by rw [← h]⟩
       · cases h)
    | (exfalso; simp_all; done)
theorem Wg{fuel:Nat}{t:TypeId}{fs:Array Field}{cs:List Value}{x:DataW H×List MemPlace}(hu:P.underlying t=some (.struct fs))(h:DataW.trod enc P W 0 (fun _=>true) held (fuel+1) t cs=some x) :
  cs.length=P.cellsOf t/\∃xs,(fs.toList.mapM fun f=>DataW.trod enc P W 0 (fun _=>true) held fuel f.type ((cs.drop f.offset).take (P.cellsOf f.type)))=some xs/\x.2=xs.flatMap (·.2)/\x.1 = .agg (xs.map (·.1)):=by
 simp only[DataW.trod,hu]at h
 split at h
 ·rename_i hcl
  obtain⟨xs,hxs,h⟩:=Option.map_eq_some_iff.1 h;exact⟨hcl,xs,hxs,by rw[<-h],by rw[<-h]⟩
 ·cases h
theorem zCp{fuel:Nat}{t e:TypeId}{n:Nat}{cs:List Value}{x:DataW H×List MemPlace}(hu:P.underlying t=some (.array n e))(h:DataW.trod enc P W 0 (fun _=>true) held (fuel+1) t cs=some x) :
  cs.length=P.cellsOf t/\∃xs,((List.range n).mapM fun i=>DataW.trod enc P W 0 (fun _=>true) held fuel e ((cs.drop (i*P.cellsOf e)).take (P.cellsOf e)))=some xs/\x.2=xs.flatMap (·.2)/\x.1 = .agg (xs.map (·.1)):=by
 simp only[DataW.trod,hu]at h
 split at h
 ·rename_i hcl
  obtain⟨xs,hxs,h⟩:=Option.map_eq_some_iff.1 h;exact⟨hcl,xs,hxs,by rw[<-h],by rw[<-h]⟩
 ·cases h
theorem NZ{e:TypeId}{d:DataW H}{n:Nat}:∀{l:List (DataW H)},d∈l->n∈d.weights P e->n∈DataW.weightsAll P e l
 |x::l,hd,hn=>by
  simp only[DataW.weightsAll,List.mem_append];rcases List.mem_cons.1 hd with rfl|hd
  ·exact .inl hn
  ·exact .inr (NZ hd hn)
def IP(P:Program)(W:World):Imm:=⟨fun b=>b<W.heap.size,fun b=>b<W.heap.size,fun _ h=>h,P,[]⟩
theorem Keep.below{W W':World}(h:Keep (IP P W) W W'):Below W.heap.size W W':=⟨h.os,h.tape,h.output,h.size,fun k hk=>h.same k hk⟩
def Ul(v:EV)(_:EH):Prop:=v = .lit (.bool true)\/v = .sb true
theorem Th(hl:laidOutB P=true){W':World}(hb:Below W.heap.size W W'):∀{ts:List TypeId} {vs:List Value} {ds:List (DataW H)} {ps:List MemPlace},(ts.all fun t=>P.readableRec t&&decide (t<P.types.size))=true->
  DataW.TrodAll enc P W 0 (fun _=>true) true ts vs ds ps->(∀x∈ps,x.block<W.heap.size)->DataW.TrodAll enc P W' 0 (fun b=>decide (b<W.heap.size)) true ts vs ds ps
 |[],vs,ds,ps,_,h,_=>by
  cases vs with
  |nil=>cases ds with
   |nil=>exact h
   |cons _ _=>simp[DataW.TrodAll]at h
  |cons _ _=>cases ds<;>simp[DataW.TrodAll]at h
 |t::ts,vs,ds,ps,hr,h,hlt=>by
  cases vs with
  |nil=>cases ds<;>simp[DataW.TrodAll]at h
  |cons v vs=>cases ds with
   |nil=>simp[DataW.TrodAll]at h
   |cons d ds=>
    obtain⟨p,q,a1,a2,rfl⟩:=h;simp only[List.all_cons,Bool.and_eq_true,decide_eq_true_eq]at hr;exact⟨p,q,Below.trod hl hr.1.1 hr.1.2 a1 hb (fun x hx=>hlt x (by simp[hx])),Th hl hb hr.2 a2 (fun x hx=>hlt x (by simp[hx])),rfl⟩
theorem VT:∀{ts:List TypeId} {vs:List Value} {ds:List (DataW H)} {ps:List MemPlace},DataW.TrodAll enc P W 0 (fun _=>true) held ts vs ds ps->∀p∈ps,p.block<W.heap.size
 |[],vs,ds,ps,h=>by
  cases vs with
  |nil=>cases ds with
   |nil=>intro p hp;rw[show ps=[]from h]at hp;cases hp
   |cons _ _=>simp[DataW.TrodAll]at h
  |cons _ _=>cases ds<;>simp[DataW.TrodAll]at h
 |t::ts,vs,ds,ps,h=>by
  cases vs with
  |nil=>cases ds<;>simp[DataW.TrodAll]at h
  |cons v vs=>cases ds with
   |nil=>simp[DataW.TrodAll]at h
   |cons d ds=>
    obtain⟨p,q,⟨fuel,a1⟩,a2,rfl⟩:=h;intro x hx;rcases List.mem_append.1 hx with hx|hx
    ·exact DataW.trod_lt fuel _ _ _ a1 x hx
    ·exact VT a2 x hx
end
end Go.Proofs.YtehgpabfgjofhaaGreatDoor.Em
