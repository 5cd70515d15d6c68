/- No conditions. -/
import Derived.Test.YtkjhfefbklcciaaGreatDoorX3
import Derived.Laws.Append
import Derived.Laws.Cells
import Derived.Laws.CopyRow
import Derived.Laws.Entries
set_option linter.unusedVariables false
namespace Go.Proofs.YtkjhfefbklcciaaGreatDoor.Em
open Go
def EE:EV->Bool
 | .lit (.int .u8 n)=>decide (0<=n/\n<256)
 |_=>false
def IK:EV->Int
 | .lit (.int _ n)=>n
 |_=>0
def D5:List EV->Option (List (IntKind×Int))
 |[]=>some []
 | .lit (.int k n)::l=>match D5 l with|some r=>some ((k,n)::r)|none=>none
 |_::_=>none
inductive KeyV where
 |num (k:IntKind) (n:Int)
 |str (s:List UInt8)
 |arr (l:List (IntKind×Int))
 deriving DecidableEq
def Cz:EV->Option KeyV
 | .lit (.int k n)=>some (.num k n)
 | .lit (.string s)=>some (.str s.data.toList)
 | .agg c=>match D5 c with|some l=>some (.arr l)|none=>none
 |_=>none
def KeyV.like:KeyV->KeyV->Bool
 | .num k _,.num k' _=>k==k'
 | .str _,.str _=>true
 | .arr l,.arr m=>l.map (·.1)==m.map (·.1)
 |_,_=>false
def KeyV.shp:KeyV->Nat
 | .num _ _=>0
 | .str _=>1
 | .arr l=>l.length+2
def C8(ks:Nat)(k:EV):Bool:=
 match Cz k with
 |some a=>a.shp==ks
 |none=>false
def Cl(x y:EV):Bool:=
 match Cz x,Cz y with
 |some a,some b=>a==b
 |_,_=>false
def Gz(x y:EV):Bool:=
 match Cz x,Cz y with
 |some a,some b=>a.like b
 |_,_=>false
def B3:List (EV×EV)->EV->EV->List (EV×EV)
 |[],k,v=>[(k,v)]
 |(a,b)::l,k,v=>if Cl k a then (k,v)::l else (a,b)::B3 l k v
def stdA:Ar where
 ib op k a b:=match op with
  | .add=>k.wrap (a+b)
  | .sub=>k.wrap (a-b)
  | .mul=>k.wrap (a*b)
  | .quo=>k.wrap (a.tdiv b)
  | .rem=>a.tmod b
  | .and=>k.wrap (BitVec.ofInt k.bits a &&& BitVec.ofInt k.bits b).toNat
  | .or=>k.wrap (BitVec.ofInt k.bits a ||| BitVec.ofInt k.bits b).toNat
  | .xor=>k.wrap (BitVec.ofInt k.bits a ^^^ BitVec.ofInt k.bits b).toNat
  | .andNot=>k.wrap (BitVec.ofInt k.bits a &&& ~~~BitVec.ofInt k.bits b).toNat
  |_=>0
 ic op a b:=match op with
  | .eql=>a==b
  | .neq=>a != b
  | .lss=>decide (a<b)
  | .leq=>decide (a<=b)
  | .gtr=>decide (a>b)
  | .geq=>decide (a≥b)
  |_=>false
 sh op k a b:=match op with
  | .shl=>k.wrap (a*2^(min b.toNat k.bits))
  | .shr=>a.fdiv (2^(min b.toNat k.bits))
  |_=>0
 wr k n:=k.wrap n
 xr k n:=k.wrap (BitVec.ofInt k.bits (if k.signed then -1 else k.max) ^^^ BitVec.ofInt k.bits n).toNat
 ss op a b:=match op with
  | .eql=>a.toList==b.toList
  | .neq=> !(a.toList==b.toList)
  | .lss=>Op.bytesLess a.toList b.toList
  | .leq=>Op.bytesLess a.toList b.toList||a.toList==b.toList
  | .gtr=> !(Op.bytesLess a.toList b.toList||a.toList==b.toList)
  | .geq=> !Op.bytesLess a.toList b.toList
  |_=>false
 cat a b:=a++b
 bsz s:=s.size
 bat s i:=((s.data.toList[i]?).map fun b=>(b.toNat:Int)).getD 0
 bex s a b:=s.extract a b
 enc s:=s.data.toList.map fun b=>.lit (.int .u8 b.toNat)
 dec c:=⟨(c.map fun x=>UInt8.ofNat (IK x).toNat).toArray⟩
 tn i:=i.toNat
 ofn n:=n
 add a b:=a+b
 sub a b:=a-b
 mul a b:=a*b
 idx o i es:=o+i.toNat * es
 nmin a b:=Nat.min a b
 imin a b:=if b<a then b else a
 imax a b:=if b>a then b else a
 nn i:=decide (0<=i)
 ne0 i:=decide (i≠0)
 isz n:=n==0
 le a b:=decide (a<=b)
 inb i n:=decide (0<=i/\i<n)
 slb lo hi n:=decide (0<=lo/\lo<=hi/\hi<=n)
 room n bytes:=decide (n*bytes<=140737488355328/\n<=9223372036854775807)
 mks bytes n m:=decide (0<=n/\n<=m/\m*bytes<=281474976710656/\m<=9223372036854775807)
 bnot b:= !b
 beq a b:=a==b
 drp n l:=l.drop n
 tak n l:=l.take n
 app l m:=l++m
 setl l o v:=l.take o++v++l.drop (o+v.length)
 rep z n:=(List.replicate n z).flatten
 len l:=l.length
 byt n c:=decide (n<=c.length)&&(c.take n).all EE
 keyed ks es k:=C8 ks k&&es.all fun p=>Gz k p.1
 find es k:=(es.find? fun p=>Cl k p.1).map (·.2)
 mset es k v:=B3 es k v
 mlen es:=es.length
def SROK(post:EV->EH->Prop)(pc:FuncId->List EV->Prop):SR->Prop
 | .stuck=>False
 | .ret v h=>post v h
 | .need b r=>b=true/\SROK post pc r
 | .look c off n agg h=>∃cs v,cs.length=n/\(c.drop off).take n=cs/\mkV agg cs=some v/\post v h
 | .br b v1 h1 v2 h2=>(b=true->post v1 h1)/\(b=false->post v2 h2)
 | .opt o ok z h=>(o=none->post (if ok then .tup [z,.lit (.bool false)]else z) h)/\∀x,o=some x->post (if ok then .tup [x,.lit (.bool true)]else x) h
 | .call f args=>pc f args
 | .same v w h=>v=w/\post Bt h
 | .lookS c off n agg w h=>(∃cs,cs.length=n/\(c.drop off).take n=cs/\mkV agg cs=some w)/\post Bt h
def Res(I:Imm)(w:World)(ρ:Ren)(post:EV->EH->Prop)(pc:FuncId->List EV->Prop)(x:Result Next):Prop:=
 (∃v v' h' w' ρ',(x = .ok (.value v') w'\/(x = .ok .skip w'/\v'=undef))/\post v h'/\Keep I w w'/\HSim I w' (ρ++ρ') h'/\Rep w' I (ρ++ρ') v v')\/
 (∃f args args',x = .ok (.enter f args') w/\f≠Cj/\pc f args/\RepL w I ρ args args'.toList)\/
 (∃id as u us,Rep w I ρ (.yl id) u/\RepL w I ρ as us.toList/\pc Cj (.yl id::as)/\∀l r,u = .func (.yield l) #[] #[]->w.heap[l]?=some (.loop r)->us.size=r.params.size->
  x = .ok (.round l r.fn ((r.params.zip us).foldl (fun tmps (t,a)=>tmps.setIfInBounds t a) r.tmps) r.assign r.body) w)
section
variable {I:Imm} {w:World} {ρ:Ren} {h:EH} {post:EV->EH->Prop} {pc:FuncId->List EV->Prop} {P:Program}
theorem Res.pure(hs:HSim I w ρ h){x:Result Next}{v:EV}{v':Value}(hx:x = .ok (.value v') w)(hp:post v h)(hr:Rep w I ρ v v') :
  Res I w ρ post pc x:=
 .inl ⟨v,v',h,w,[],.inl hx,hp,.refl I w,by simpa using hs,by simpa using hr⟩
theorem Res.made(hs:HSim I w ρ h)(hI:∀b,I b->b<w.heap.size){x:Result Next}{v:EV}{v':Value}{o:Obj}{eo:EO}
  (hx:x = .ok (.value v') (w.alloc o)) (hp:post v (Bx h eo))
  (hnew:OS I (w.alloc o) (ρ++[(w.heap.size,0)]) (Bd h) eo) (hr:Rep (w.alloc o) I (ρ++[(w.heap.size,0)]) v v') :
  Res I w ρ post pc x:=
 .inl ⟨v,v',_,_,_,.inl hx,hp,.alloc w o hI,hs.alloc hI o eo hnew,hr⟩
theorem Dk:∀(l:List Value),RepL w I ρ (BB l) l
 |[]=>trivial
 |v::l=>⟨.lit ρ v,Dk l⟩
theorem PL(l:List Value):(BB l).length=l.length:=by
 induction l with
 |nil=>rfl
 |cons v l ih=>simp[BB,ih]
theorem Ef{c:List EV}{vs:Array Value}(hr:RepL w I ρ c vs.toList):Rep w I ρ (.agg c) (.agg vs):=
 .agg ρ c vs (by simpa using hr.length) fun j e v he hv=>hr.at j e v he (by simpa using hv)
theorem He{c:List EV}{vs:Array Value}(hr:RepL w I ρ c vs.toList):Rep w I ρ (.tup c) (.tuple vs):=
 .tup ρ c vs (by simpa using hr.length) fun j e v he hv=>hr.at j e v he (by simpa using hv)
theorem S1(v:Value):Rep w I ρ (ofV v) v:=by
 cases v with
 |agg cs=>exact Ef (Dk cs.toList)
 |_=>exact .lit ρ _
def Glob(w:World)(I:Imm)(G:List (List EV)):Prop:=
 ∀(g:Nat) (c:List EV),G[g]?=some c->∀ρ,Rep w I ρ (.iptr c 0) (.pointer (some ⟨g,0,none⟩))
theorem Hn:∀{t:List EV} {vs:List Value},RepL w I ρ t vs->∀i,Rep w I ρ (Bo t i) (vs.getD i undef)
 |[],[],_,_=>.lit ρ _
 |x::t,v::vs,h,0=>h.1
 |x::t,v::vs,h,i+1=>by have:=Hn h.2 i;simpa[Bo]using this
theorem EU{G:List (List EV)}{t:List EV}{a:Act}(hg:Glob w I G)(ht:RepL w I ρ t a.tmps.toList)(x:Operand) :
  Rep w I ρ (Bm G t x) (a.eval x):=by
 cases x with
 |tmp i=>
  have:=Hn ht i;simpa[Bm,Act.eval,Array.getD_eq_getD_getElem?,lG]using this
 |const v=>exact S1 v
 |global g=>
  simp only[Bm,Act.eval];cases hc:G[g]? with
  |some c=>exact hg g c hc ρ
  |none=>exact .lit ρ _
 |func f=>exact .fn ρ _ [] [] #[] #[] rfl rfl (fun j e v hj=>by simp at hj) (fun j e v hj=>by simp at hj)
theorem Jh{G:List (List EV)}{t:List EV}{a:Act}(hg:Glob w I G)(ht:RepL w I ρ t a.tmps.toList) :
  ∀(l:List Operand),RepL w I ρ (BX G t l) (l.map a.eval)
 |[]=>trivial
 |x::l=>⟨EU hg ht x,Jh hg ht l⟩
theorem H4:∀l:List EV,Dt l=l.length
 |[]=>rfl
 |_::l=>by simp[Dt,H4 l]
theorem Wr{e:EV}{v:Value}(hr:Rep w I ρ e v)(hnt:e≠ .top):RepL w I ρ (BH e) v.cells.toList:=by
 have hr0:=hr
 cases hr with
 |agg _ c vs hl hc=>exact RepL.mk (by simpa[Value.cells,BH]using hl) fun j x u hx hu=>hc j x u hx (by simpa[Value.cells]using hu)
 |lit _ v=>cases v with
  |agg u=>exact Dk u.toList
  |_=>exact⟨hr0,trivial⟩
 |top _ v=>exact absurd rfl hnt
 |_=>exact⟨hr0,trivial⟩
theorem YO{e:EV}{v:Value}(hr:Rep w I ρ e v)(ho:Eo e=true):v.oneCell'=true:=by
 cases hr with
 |lit _ v=>cases v<;>simp_all [Eo,Value.oneCell']
 |agg=>simp[Eo]at ho
 |tup=>simp[Eo]at ho
 |top=>simp[Eo]at ho
 |_=>rfl
theorem GS:∀{c:List EV} {vs:List Value},RepL w I ρ c vs->Ce c=true->∀v∈vs,v.oneCell'=true
 |[],[],_,_,v,hv=>by simp at hv
 |x::c,u::vs,h,ho,v,hv=>by
  have ho':Eo x=true/\Ce c=true:=by
   unfold Ce at ho;split at ho
   ·exact⟨by assumption,ho⟩
   ·cases ho
  rcases List.mem_cons.1 hv with rfl|hv
  ·exact YO h.1 ho'.1
  ·exact GS h.2 ho'.2 v hv
theorem Jg{e:EV}{v:Value}(hr:Rep w I ρ e v)(ho:Ce (BH e)=true):RepL w I ρ (BH e) v.cells.toList:=
 Wr hr fun h=>by subst h;simp[BH,Ce,Eo]at ho
end
end Go.Proofs.YtkjhfefbklcciaaGreatDoor.Em
