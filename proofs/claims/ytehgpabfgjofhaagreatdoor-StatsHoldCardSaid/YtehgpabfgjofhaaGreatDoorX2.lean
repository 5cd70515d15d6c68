/- No conditions. -/
import Derived.Test.YtehgpabfgjofhaaGreatDoorX1
import Derived.Laws.Sem
set_option linter.unusedVariables false
namespace Go.Proofs.YtehgpabfgjofhaaGreatDoor.Em
open Go
section
variable (P:Program)
def szP(t:TypeId):Option Nat:=(P.info? t).map (·.size)
def byP(t:TypeId):Option Nat:=(P.info? t).map (·.bytes)
def zeP(t:TypeId):Option Value:=(P.info? t).bind (·.zero)
def C4(t:TypeId):Option Bool:=
 match P.underlying t with
 |some (.struct _)|some (.array _ _)=>some true
 |some _=>some false
 |none=>none
def EA(place:Nat->Option (Nat×Nat)):List (Nat×Operand)->Option (List (Nat×Nat×Operand))
 |[]=>some []
 |(i,x)::l=>match place i,EA place l with
  |some (o,n),some r=>some ((o,n,x)::r)
  |_,_=>none
def G9:List (Option (Nat×Nat))->Option (List (Nat×Nat))
 |[]=>some []
 |some x::l=>match G9 l with|some r=>some (x::r)|none=>none
 |none::_=>none
def Dz(name:String):List Nat->List (TypeId×FuncId)
 |[]=>[]
 |t::l=>
  let r:=Dz name l
  match P.info? t with
  |some i=>match i.methods.find? (·.name==name)with
   |some m=>match m.path.toList,m.func,P.underlying t with
    |[],some (f,true),some (.pointer _)=>(t,f)::r
    |[],some (_,false),some (.pointer _)=>r
    |[],some (f,false),some _=>(t,f)::r
    |_,_,_=>r
   |none=>r
  |none=>r
def CG(f:FuncId):Bool:=
 match P.funcs[f]? with
 |some fn=>fn.body.isSome&&fn.name != "runtime.NumGoroutine" && !Nat.beq f Dg
 |none=>false
def Ej(t:TypeId):Option Nat:=
 match P.underlying t with
 |some (.int _)=>some 0
 |some .string=>some 1
 |some (.array n e)=>match P.underlying e,szP P e with
  |some (.int _),some 1=>some (n+2)
  |_,_=>none
 |_=>none
def Rc(z:Value)(a:Bool):Bool:=
 match z with
 | .agg _=>a
 |z=> !a&&z.cells.size==1
def E9:Operand->Bool
 | .const _=>true
 |_=>false
def DX(op:Op):Option EI:=
 match op with
 | .move x | .assign x=>some (.mov x)
 | .pick c a b=>some (.pick c a b)
 | .alloc e=>match zeP P e with|some z=>some (.alloc z.cells.toList)|none=>none
 | .box e x=>some (.box x)
 | .build t ps=>
  match zeP P t,P.underlying t with
  |some z,some (.struct fs)=>
   match G9 (fs.toList.map fun f=>(szP P f.type).map fun n=>(f.offset,n))with
   |some places=>match EA (fun i=>places[i]?) ps.toList with
    |some l=>some (.build z.cells.toList l)
    |none=>none
   |none=>none
  |some z,some (.array _ e)=>
   match szP P e with
   |some n=>match EA (fun i=>some (i*n,n)) ps.toList with
    |some l=>some (.build z.cells.toList l)
    |none=>none
   |none=>none
  |_,_=>none
 | .buildSlice t len ps=>
  match P.underlying t with
  |some (.slice e)=>match szP P e,zeP P e with
   |some n,some z=>
    if n=0||len*n>2^24 then none else
    match EA (fun i=>some (i*n,n)) ps.toList with
    |some l=>some (.buildSlice n len (((Array.range (len*n)).map (z.cells[· % z.cells.size]!)).toList) l)
    |none=>none
   |_,_=>none
  |_=>none
 | .load t a=>match C4 P t,szP P t with
  |some true,some n=>some (.load true n a)
  |some false,_=>some (.load false 1 a)
  |_,_=>none
 | .store t a v=>match szP P t with
  |some n=>some (.store n a v)
  |none=>none
 | .nilCheck x=>some (.nilCheck x)
 | .binOp op t x y _=>match P.underlying t with
  |some (.interface ms)=>if E9 x||E9 y then some (.bin op x y (some (.interface ms)))else none
  |td=>some (.bin op x y td)
 | .unOp op _ x=>some (.un op x)
 | .convert src dst x=>
  match P.underlying src,P.underlying dst with
  |some (.int _),some (.int k)=>some (.conv k x)
  |some .string,some .string=>some (.cstr x)
  |some (.slice e),some (.slice _)=>match P.underlying e with
   |some (.int .u8)=>if src==dst then some (.strish x)else none
   |_=>none
  |some .string,some (.slice e)=>match P.underlying e,szP P e with
   |some (.int .u8),some 1=>some (.s2b x)
   |_,_=>none
  |some (.slice e),some .string=>match P.underlying e,szP P e with
   |some (.int .u8),some 1=>some (.b2s x)
   |_,_=>none
  |_,_=>none
 | .sliceToArrayPointer t x=>match P.underlying t with
  |some (.array n _)=>if n=0 then none else some (.s2a n x)
  |_=>none
 | .makeInterface t x=>match P.underlying t with
  |some (.interface _)=>none
  |some _=>some (.mkIface t x)
  |none=>none
 | .makeFunc fn first captured=>some (.mkFunc fn first.toList captured.toList)
 | .makeMap t none=>some .mkMap
 | .makeSlice t l c=>
  match P.underlying t with
  |some (.slice e)=>match szP P e,byP P e,zeP P e with
   |some n,some b,some z=>if n=0||z.cells.size≠n || !z.cells.toList.all Value.oneCell' then none else some (.mkSlice n b z.cells.toList l c)
   |_,_,_=>none
  |_=>none
 | .slice t x lo hi mx=>
  match P.underlying t with
  |some (.slice e)=>match szP P e with
   |some n=>if n=0||(mx.isSome&&hi.isNone)then none else some (.slice n x lo hi mx)
   |none=>none
  |some .string=>match mx with|none=>some (.sliceStr x lo hi)|some _=>none
  |_=>none
 | .fieldAddr s x f=>
  match P.underlying s with
  |some (.struct fs)=>match fs[f]? with
   |some fl=>match szP P fl.type with
    |some n=>if n=0 then none else some (.fieldAddr fl.offset x)
    |none=>none
   |none=>none
  |_=>none
 | .field t x f=>
  match P.underlying t with
  |some (.struct fs)=>match fs[f]? with
   |some fl=>match C4 P fl.type,szP P fl.type with
    |some true,some n=>some (.field true fl.offset n x)
    |some false,some 1=>some (.field false fl.offset 1 x)
    |_,_=>none
   |none=>none
  |_=>none
 | .indexAddr t x i=>
  match P.underlying t with
  |some (.slice e)=>match szP P e with
   |some n=>if n=0 then none else some (.indexAddr n x i)
   |none=>none
  |some (.array len e)=>match szP P e with
   |some n=>if n=0 then none else some (.indexAddrArr n len x i)
   |none=>none
  |_=>none
 | .index t x i=>
  match P.underlying t with
  |some (.array len e)=>match C4 P e,szP P e with
   |some true,some n=>if n=0 then none else some (.indexArr true n len x i)
   |some false,some 1=>some (.indexArr false 1 len x i)
   |_,_=>none
  |some .string=>some (.indexStr x i)
  |_=>none
 | .lookup t x k ok=>
  match P.underlying t with
  |some (.map kt e)=>match zeP P e,C4 P e with
   |some z,some a=>match Ej P kt with
    |some ks=>if Rc z a then some (.lookup ks z.cells.toList a ok x k)else none
    |none=>none
   |_,_=>none
  |_=>none
 | .mapUpdate t m k v=>
  match P.underlying t with
  |some (.map kt _)=>match Ej P kt with
   |some ks=>some (.mapSet ks m k v)
   |none=>none
  |_=>none
 | .extract t i=>some (.extract t i)
 | .call c=>
  match c.callee with
  | .value (.func f)=>if CG P f then some (.call f c.args.toList)else none
  | .value x=>some (.callv x c.args.toList)
  | .invoke x name=>some (.invoke x name ((Dz P name (List.range P.types.size)).filter fun p=>CG P p.2) c.args.toList)
  | .builtin .append=>
   match c.args.toList,c.argTypes.toList with
   |[x,y],[tx,ty]=>
    match P.underlying tx,P.underlying ty with
    |some (.slice e),some (.slice _)|some (.slice e),some .string=>
     match szP P e,byP P e,zeP P e with
     |some n,some b,some z=>if n=0||b=0||z.cells.size≠n then none else some (.append n b x y)
     |_,_,_=>none
    |_,_=>none
   |_,_=>none
  | .builtin .len=>
   match c.args.toList,c.argTypes.toList with
   |[x],[t]=>match P.underlying t with
    |some .string=>some (.len 0 x)
    |some (.slice _)=>some (.len 1 x)
    |some (.map _ _)=>some (.len 2 x)
    |_=>none
   |_,_=>none
  | .builtin .copy=>
   match c.args.toList,c.argTypes.toList with
   |[x,y],[tx,_]=>match P.underlying tx with
    |some (.slice e)=>match szP P e with
     |some n=>if n=0 then none else some (.copy n x y)
     |none=>none
    |_=>none
   |_,_=>none
  | .builtin .min=>match c.args.toList with
   |x::l=>some (.minmax false x l)
   |[]=>none
  | .builtin .max=>match c.args.toList with
   |x::l=>some (.minmax true x l)
   |[]=>none
  | .builtin _=>none
 |_=>none
def Gk(all:Array Oper)(o:Oper):Option EOp:=
 match o.guard with
 |none=>some ⟨o.dst,(DX P o.op).getD .bad,none⟩
 |some (j,want)=>match (all[j]?).bind (·.dst)with
  |some g=>some ⟨o.dst,(DX P o.op).getD .bad,some (g,want)⟩
  |none=>none
def C0(all:Array Oper):List Oper->Option (List EOp)
 |[]=>some []
 |o::l=>match Gk P all o,C0 all l with
  |some e,some r=>some (e::r)
  |_,_=>none
def isX:EI->Bool
 | .alloc _ | .box _ | .buildSlice .. | .store .. | .mkMap | .mkSlice .. | .s2b _ | .append .. | .copy .. | .mapSet .. | .call .. | .callv .. | .invoke .. | .bad=>true
 |_=>false
def DR:EI->Bool
 | .load .. | .lookup .. | .b2s _ | .strish _ | .len (_+2) _ | .again .. => true
 |_=>false
def Bg(l:List EOp)(i:Nat):EOp:=l.getD i ⟨none,.mov (.const (.bool false)),none⟩
def Cb(bf:Array Nat)(j i:Nat):Bool:=(bf.getD j 0).testBit i
def T6(bf:Array Nat)(xs:List Nat)(i:Nat):Nat:=(xs.filter fun x=>Cb bf i x).length
def P0(bf:Array Nat)(all xs:List Nat):Nat->List Nat->List Nat
 |k,[]=>all.filter fun i=> !xs.contains i&&T6 bf xs i==k
 |k,x::l=>(all.filter fun i=> !xs.contains i&&T6 bf xs i==k)++x::P0 bf all xs (k+1) l
def JA:EI->List Operand
 | .mov x | .box x | .nilCheck x | .un _ x | .conv _ x | .cstr x | .s2b x | .b2s x | .strish x | .mkIface _ x | .load _ _ x | .s2a _ x | .fieldAddr _ x
 | .field _ _ _ x | .extract x _ | .len _ x=>[x]
 | .pick c a b=>[c,a,b]
 | .alloc _ | .mkMap | .bad=>[]
 | .build _ ps=>ps.map fun p=>p.2.2
 | .buildSlice _ _ _ ps=>ps.map fun p=>p.2.2
 | .store _ x v=>[x,v]
 | .bin _ x y _=>[x,y]
 | .mkFunc _ a b=>a++b
 | .mkSlice _ _ _ l c=>[l,c]
 | .slice _ x lo hi mx=>x::(lo.toList++hi.toList++mx.toList)
 | .sliceStr x lo hi=>x::(lo.toList++hi.toList)
 | .indexAddr _ x i | .indexAddrArr _ _ x i | .indexArr _ _ _ x i | .indexStr x i=>[x,i]
 | .lookup _ _ _ _ x k=>[x,k]
 | .mapSet _ x k v=>[x,k,v]
 | .call _ args=>args
 | .callv x args | .invoke x _ _ args=>x::args
 | .append _ _ x y | .copy _ x y=>[x,y]
 | .minmax _ x l=>x::l
 | .again d _ _ x=>[.tmp d,x]
 | .apart x y=>[x,y]
def CR(d:Nat)(o:EOp):Bool:=
 (JA o.i).any (fun x=>match x with | .tmp t=>t==d|_=>false)||(match o.guard with|some (g,_)=>g==d|none=>false)
def Ca(x y:EOp):Bool:=
 match x.dst with
 |some d=>CR d y
 |none=>false
def CC(x y:EOp):Bool:=
 match x.dst,y.dst with
 |some d,some e=>d==e
 |_,_=>false
def Gb(es:List EOp)(p q:Nat):Bool:=
 match Bg es p,Bg es q with
 |⟨none,.store _ _ _,none⟩,⟨none,.store _ _ _,none⟩=>true
 |_,_=>false
def J2(es:List EOp)(p q:Nat):List EOp:=
 match Bg es p,Bg es q with
 |⟨none,.store _ x _,none⟩,⟨none,.store _ y _,none⟩=>[⟨none,.apart x y,none⟩]
 |_,_=>[]
def HD(bf:Array Nat)(es:List EOp)(p q:Nat):Bool:=
 !(p==q) && !Cb bf p q&&(!isX (Bg es p).i||Cb bf q p||Gb es p q) && !CC (Bg es p) (Bg es q) &&
  (Cb bf q p||(!Ca (Bg es p) (Bg es q) && !Ca (Bg es q) (Bg es p)))
def Kf(bf:Array Nat)(es:List EOp):List Nat->Bool
 |[]=>true
 |p::l=>l.all (HD bf es p)&&Kf bf es l
def LK(bf:Array Nat)(n:Nat):Nat->List Oper->Bool
 |_,[]=>true
 |j,o::l=>((List.range n).all fun i=> !Cb bf j i||o.after.toList.any fun e=>Region.binds .any e&&(e.on==i||Cb bf e.on i)) &&
   (o.after.toList.all fun e=> !Region.binds .any e||(Nat.blt e.on j&&Cb bf j e.on))&&LK bf n (j+1) l
def Eh(bf:Array Nat)(es:List EOp)(x:Nat):List Nat->List Nat->Option (List EOp)
 |_,[]=>some []
 |since,r::l=>
  match Eh bf es x (r::since) l with
  |none=>none
  |some rest=>
   if DR (Bg es r).i && !Cb bf x r then
    if (r::since).all fun q=> !Ca (Bg es q) (Bg es r)then
     match (Bg es r).i,(Bg es r).dst with
     | .load agg n y,some d=>some (⟨none,.again d agg n y,(Bg es r).guard⟩::rest)
     |_,_=>none
    else none
   else some rest
def Cx(o:EOp):Bool:=
 match o.i,o.guard,o.dst with
 | .alloc z,none,some _=>CW (B8 z)
 |_,_,_=>false
def G2(es:List EOp)(als:List Nat)(x:Nat):List Nat:=als.filter fun a=>Ca (Bg es a) (Bg es x)
def Ge(es:List EOp)(als:List Nat)(x:Nat):List Nat:=als.filter fun a=> !Ca (Bg es a) (Bg es x)
def Dy(bf:Array Nat)(es:List EOp):List Nat->List Nat->List Nat->Option (List EOp)
 |als,_,[]=>some (als.map (Bg es))
 |als,back,i::l=>
  if isX (Bg es i).i then
   match Eh bf es i [] back,Dy bf es (Ge es als i) back l with
   |some ag,some rest=>some ((G2 es als i).map (Bg es)++Bg es i::(ag++rest))
   |_,_=>none
  else match Dy bf es als (i::back) l with
   |some rest=>some (Bg es i::rest)
   |none=>none
def VY(bf:Array Nat)(es:List EOp)(n:Nat)(a:Nat):Bool:=
 (List.range n).all fun j=>a==j||(!CC (Bg es a) (Bg es j)&&(!Ca (Bg es a) (Bg es j)||(isX (Bg es j).i && !Cx (Bg es j)&&Cb bf j a)))
def Hi(bf:Array Nat)(es:List EOp):List Nat->Bool
 |[]=>true
 |p::l=>(!isX (Bg es p).i||l.all fun q=>Cb bf q p)&&Hi bf es l
def KU(bf:Array Nat)(es:List EOp)(n:Nat)(als ord:List Nat):Option (List EOp):=
 if Hi bf es ord then some []else
 match ord.reverse with
 |q::p::r=>if Hi bf es (r.reverse++[p])&&Hi bf es (r.reverse++[q])&&als.isEmpty&&(List.range n).all (fun i=> !DR (Bg es i).i||(Cb bf p i&&Cb bf q i))then some (J2 es p q)else none
 |_=>none
def KM(ops:Array Oper):Option (List EOp):=
 match C0 P ops ops.toList with
 |none=>none
 |some es=>
  let bf:=Region.before ops
  let als:=(List.range ops.size).filter fun i=>Cx (Bg es i)
  let all:=(List.range ops.size).filter fun i=> !Cx (Bg es i)
  let xs:=all.filter fun i=>isX (Bg es i).i
  let ord:=P0 bf all xs 0 xs
  if Kf bf es ord&&LK bf ops.size 0 ops.toList&&als.all (VY bf es ops.size)&&all.all (fun i=>ord.contains i)&&ord.all (fun i=>Nat.blt i ops.size && !Cx (Bg es i))then
   match Dy bf es als [] ord,KU bf es ops.size als ord with
   |some l,some r=>some (l++r)
   |_,_=>none
  else none
def ET.pre(o:EOp):ET->ET
 | .done l=>.done (o::l)
 | .fork l a b=>.fork (o::l) a b
def Sc:List ET->ET
 |[]=>.done [⟨none,.bad,none⟩]
 |[c]=>c
 |c::cs=>.fork [] c (Sc cs)
def Sn(f:Nat->Nat->Option (ET×Nat)):List Nat->Nat->Option (List ET×Nat)
 |[],b=>some ([],b)
 |_::_,0=>none
 |j::js,b+1=>match f j b with
  |none=>none
  |some (t,b1)=>match Sn f js b1 with
   |none=>none
   |some (ts,b2)=>some (t::ts,b2)
def Nu(ops:Array Oper)(es:List EOp):Nat->Nat->Array Bool->Option (ET×Nat)
 |0,b,listed=>match Region.ready .any ops listed with
  |[]=>some (.done [],b)
  |_=>none
 |n+1,b,listed=>match Region.ready .any ops listed with
  |[]=>some (.done [],b)
  |[j]=>match Nu ops es n b (listed.setIfInBounds j true)with
   |none=>none
   |some (t,b)=>some (t.pre (Bg es j),b)
  |js=>match Sn (fun j b=>match Nu ops es n b (listed.setIfInBounds j true)with
    |none=>none
    |some (t,b)=>some (t.pre (Bg es j),b)) js b with
   |none=>none
   |some (ts,b)=>some (Sc ts,b)
def TF(ops:Array Oper):Option ET:=
 match C0 P ops ops.toList with
 |none=>none
 |some es=>(Nu ops es ops.size 30 (Array.replicate ops.size false)).map (·.1)
def B6:Code->Option EC
 | .skip=>some .skip
 | .region _ ops false=>(C0 P ops ops.toList).map .ops
 | .region _ ops true=>match KM P ops with
  |some l=>some (.ops l)
  |none=>(TF P ops).map .any
 | .seq a b=>match B6 a,B6 b with
  |some x,some y=>some (.seq x y)
  |_,_=>none
 | .cond c a b=>match B6 a,B6 b with
  |some x,some y=>some (.cond c x y)
  |_,_=>none
 | .block id c=>(B6 c).map (.block id)
 | .loop c=>(B6 c).map .loop
 | .exit id=>some (.exit id)
 | .ret=>some .ret
 | .rangeFunc x ps a c=>match B6 a,B6 c with
  |some ea,some ec=>some (.rf x ps.toList ea ec)
  |_,_=>none
 |_=>none
end
end Go.Proofs.YtehgpabfgjofhaaGreatDoor.Em
