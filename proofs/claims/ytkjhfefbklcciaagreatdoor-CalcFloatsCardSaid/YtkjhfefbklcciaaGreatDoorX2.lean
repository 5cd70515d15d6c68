/- No conditions. -/
import Derived.Test.YtkjhfefbklcciaaGreatDoorX1
import Derived.Laws.Sem
set_option linter.unusedVariables false
namespace Go.Proofs.YtkjhfefbklcciaaGreatDoor.Em
open Go
section
variable (P:Program)
def szP(t:TypeId):Option Nat:=(P.info? t).map (·.size)
def byP(t:TypeId):Option Nat:=(P.info? t).map (·.bytes)
def zeP(t:TypeId):Option Value:=(P.info? t).bind (·.zero)
def Cr(t:TypeId):Option Bool:=
 match P.underlying t with
 |some (.struct _)|some (.array _ _)=>some true
 |some _=>some false
 |none=>none
def C6(place:Nat->Option (Nat×Nat)):List (Nat×Operand)->Option (List (Nat×Nat×Operand))
 |[]=>some []
 |(i,x)::l=>match place i,C6 place l with
  |some (o,n),some r=>some ((o,n,x)::r)
  |_,_=>none
def D1:List (Option (Nat×Nat))->Option (List (Nat×Nat))
 |[]=>some []
 |some x::l=>match D1 l with|some r=>some (x::r)|none=>none
 |none::_=>none
def CH(name:String):List Nat->List (TypeId×FuncId)
 |[]=>[]
 |t::l=>
  let r:=CH name l
  match P.info? t with
  |some i=>match i.methods.find? (·.name==name)with
   |some m=>match m.path.toList,m.func,P.underlying t with
    |[],some (f,true),some (.pointer _)=>(t,f)::r
    |[],some (_,false),some (.pointer _)=>r
    |[],some (f,false),some _=>(t,f)::r
    |_,_,_=>r
   |none=>r
  |none=>r
def BU(f:FuncId):Bool:=
 match P.funcs[f]? with
 |some fn=>fn.body.isSome&&fn.name != "runtime.NumGoroutine" && !Nat.beq f Cj
 |none=>false
def Db(t:TypeId):Option Nat:=
 match P.underlying t with
 |some (.int _)=>some 0
 |some .string=>some 1
 |some (.array n e)=>match P.underlying e,szP P e with
  |some (.int _),some 1=>some (n+2)
  |_,_=>none
 |_=>none
def J8(z:Value)(a:Bool):Bool:=
 match z with
 | .agg _=>a
 |z=> !a&&z.cells.size==1
def Dz:Operand->Bool
 | .const _=>true
 |_=>false
def CT(op:Op):Option EI:=
 match op with
 | .move x | .assign x=>some (.mov x)
 | .pick c a b=>some (.pick c a b)
 | .alloc e=>match zeP P e with|some z=>some (.alloc z.cells.toList)|none=>none
 | .box e x=>some (.box x)
 | .build t ps=>
  match zeP P t,P.underlying t with
  |some z,some (.struct fs)=>
   match D1 (fs.toList.map fun f=>(szP P f.type).map fun n=>(f.offset,n))with
   |some places=>match C6 (fun i=>places[i]?) ps.toList with
    |some l=>some (.build z.cells.toList l)
    |none=>none
   |none=>none
  |some z,some (.array _ e)=>
   match szP P e with
   |some n=>match C6 (fun i=>some (i*n,n)) ps.toList with
    |some l=>some (.build z.cells.toList l)
    |none=>none
   |none=>none
  |_,_=>none
 | .buildSlice t len ps=>
  match P.underlying t with
  |some (.slice e)=>match szP P e,zeP P e with
   |some n,some z=>
    if n=0||len*n>2^24 then none else
    match C6 (fun i=>some (i*n,n)) ps.toList with
    |some l=>some (.buildSlice n len (((Array.range (len*n)).map (z.cells[· % z.cells.size]!)).toList) l)
    |none=>none
   |_,_=>none
  |_=>none
 | .load t a=>match Cr P t,szP P t with
  |some true,some n=>some (.load true n a)
  |some false,_=>some (.load false 1 a)
  |_,_=>none
 | .store t a v=>match szP P t with
  |some n=>some (.store n a v)
  |none=>none
 | .nilCheck x=>some (.nilCheck x)
 | .binOp op t x y _=>match P.underlying t with
  |some (.interface ms)=>if Dz x||Dz y then some (.bin op x y (some (.interface ms)))else none
  |td=>some (.bin op x y td)
 | .unOp op _ x=>some (.un op x)
 | .convert src dst x=>
  match P.underlying src,P.underlying dst with
  |some (.int _),some (.int k)=>some (.conv k x)
  |some .string,some .string=>some (.cstr x)
  |some (.slice e),some (.slice _)=>match P.underlying e with
   |some (.int .u8)=>if src==dst then some (.strish x)else none
   |_=>none
  |some .string,some (.slice e)=>match P.underlying e,szP P e with
   |some (.int .u8),some 1=>some (.s2b x)
   |_,_=>none
  |some (.slice e),some .string=>match P.underlying e,szP P e with
   |some (.int .u8),some 1=>some (.b2s x)
   |_,_=>none
  |_,_=>none
 | .sliceToArrayPointer t x=>match P.underlying t with
  |some (.array n _)=>if n=0 then none else some (.s2a n x)
  |_=>none
 | .makeInterface t x=>match P.underlying t with
  |some (.interface _)=>none
  |some _=>some (.mkIface t x)
  |none=>none
 | .makeFunc fn first captured=>some (.mkFunc fn first.toList captured.toList)
 | .makeMap t none=>some .mkMap
 | .makeSlice t l c=>
  match P.underlying t with
  |some (.slice e)=>match szP P e,byP P e,zeP P e with
   |some n,some b,some z=>if n=0||z.cells.size≠n || !z.cells.toList.all Value.oneCell' then none else some (.mkSlice n b z.cells.toList l c)
   |_,_,_=>none
  |_=>none
 | .slice t x lo hi mx=>
  match P.underlying t with
  |some (.slice e)=>match szP P e with
   |some n=>if n=0||(mx.isSome&&hi.isNone)then none else some (.slice n x lo hi mx)
   |none=>none
  |some .string=>match mx with|none=>some (.sliceStr x lo hi)|some _=>none
  |_=>none
 | .fieldAddr s x f=>
  match P.underlying s with
  |some (.struct fs)=>match fs[f]? with
   |some fl=>match szP P fl.type with
    |some n=>if n=0 then none else some (.fieldAddr fl.offset x)
    |none=>none
   |none=>none
  |_=>none
 | .field t x f=>
  match P.underlying t with
  |some (.struct fs)=>match fs[f]? with
   |some fl=>match Cr P fl.type,szP P fl.type with
    |some true,some n=>some (.field true fl.offset n x)
    |some false,some 1=>some (.field false fl.offset 1 x)
    |_,_=>none
   |none=>none
  |_=>none
 | .indexAddr t x i=>
  match P.underlying t with
  |some (.slice e)=>match szP P e with
   |some n=>if n=0 then none else some (.indexAddr n x i)
   |none=>none
  |some (.array len e)=>match szP P e with
   |some n=>if n=0 then none else some (.indexAddrArr n len x i)
   |none=>none
  |_=>none
 | .index t x i=>
  match P.underlying t with
  |some (.array len e)=>match Cr P e,szP P e with
   |some true,some n=>if n=0 then none else some (.indexArr true n len x i)
   |some false,some 1=>some (.indexArr false 1 len x i)
   |_,_=>none
  |some .string=>some (.indexStr x i)
  |_=>none
 | .lookup t x k ok=>
  match P.underlying t with
  |some (.map kt e)=>match zeP P e,Cr P e with
   |some z,some a=>match Db P kt with
    |some ks=>if J8 z a then some (.lookup ks z.cells.toList a ok x k)else none
    |none=>none
   |_,_=>none
  |_=>none
 | .mapUpdate t m k v=>
  match P.underlying t with
  |some (.map kt _)=>match Db P kt with
   |some ks=>some (.mapSet ks m k v)
   |none=>none
  |_=>none
 | .extract t i=>some (.extract t i)
 | .call c=>
  match c.callee with
  | .value (.func f)=>if BU P f then some (.call f c.args.toList)else none
  | .value x=>some (.callv x c.args.toList)
  | .invoke x name=>some (.invoke x name ((CH P name (List.range P.types.size)).filter fun p=>BU P p.2) c.args.toList)
  | .builtin .append=>
   match c.args.toList,c.argTypes.toList with
   |[x,y],[tx,ty]=>
    match P.underlying tx,P.underlying ty with
    |some (.slice e),some (.slice _)|some (.slice e),some .string=>
     match szP P e,byP P e,zeP P e with
     |some n,some b,some z=>if n=0||b=0||z.cells.size≠n then none else some (.append n b x y)
     |_,_,_=>none
    |_,_=>none
   |_,_=>none
  | .builtin .len=>
   match c.args.toList,c.argTypes.toList with
   |[x],[t]=>match P.underlying t with
    |some .string=>some (.len 0 x)
    |some (.slice _)=>some (.len 1 x)
    |some (.map _ _)=>some (.len 2 x)
    |_=>none
   |_,_=>none
  | .builtin .copy=>
   match c.args.toList,c.argTypes.toList with
   |[x,y],[tx,_]=>match P.underlying tx with
    |some (.slice e)=>match szP P e with
     |some n=>if n=0 then none else some (.copy n x y)
     |none=>none
    |_=>none
   |_,_=>none
  | .builtin .min=>match c.args.toList with
   |x::l=>some (.minmax false x l)
   |[]=>none
  | .builtin .max=>match c.args.toList with
   |x::l=>some (.minmax true x l)
   |[]=>none
  | .builtin _=>none
 |_=>none
def DD(all:Array Oper)(o:Oper):Option EOp:=
 match o.guard with
 |none=>some ⟨o.dst,(CT P o.op).getD .bad,none⟩
 |some (j,want)=>match (all[j]?).bind (·.dst)with
  |some g=>some ⟨o.dst,(CT P o.op).getD .bad,some (g,want)⟩
  |none=>none
def Cb(all:Array Oper):List Oper->Option (List EOp)
 |[]=>some []
 |o::l=>match DD P all o,Cb all l with
  |some e,some r=>some (e::r)
  |_,_=>none
def isX:EI->Bool
 | .alloc _ | .box _ | .buildSlice .. | .store .. | .mkMap | .mkSlice .. | .s2b _ | .append .. | .copy .. | .mapSet .. | .call .. | .callv .. | .invoke .. | .bad=>true
 |_=>false
def CM:EI->Bool
 | .load .. | .lookup .. | .b2s _ | .strish _ | .len (_+2) _ | .again .. => true
 |_=>false
def Bg(l:List EOp)(i:Nat):EOp:=l.getD i ⟨none,.mov (.const (.bool false)),none⟩
def BG(bf:Array Nat)(j i:Nat):Bool:=(bf.getD j 0).testBit i
def PV(bf:Array Nat)(xs:List Nat)(i:Nat):Nat:=(xs.filter fun x=>BG bf i x).length
def JC(bf:Array Nat)(all xs:List Nat):Nat->List Nat->List Nat
 |k,[]=>all.filter fun i=> !xs.contains i&&PV bf xs i==k
 |k,x::l=>(all.filter fun i=> !xs.contains i&&PV bf xs i==k)++x::JC bf all xs (k+1) l
def Hf:EI->List Operand
 | .mov x | .box x | .nilCheck x | .un _ x | .conv _ x | .cstr x | .s2b x | .b2s x | .strish x | .mkIface _ x | .load _ _ x | .s2a _ x | .fieldAddr _ x
 | .field _ _ _ x | .extract x _ | .len _ x=>[x]
 | .pick c a b=>[c,a,b]
 | .alloc _ | .mkMap | .bad=>[]
 | .build _ ps=>ps.map fun p=>p.2.2
 | .buildSlice _ _ _ ps=>ps.map fun p=>p.2.2
 | .store _ x v=>[x,v]
 | .bin _ x y _=>[x,y]
 | .mkFunc _ a b=>a++b
 | .mkSlice _ _ _ l c=>[l,c]
 | .slice _ x lo hi mx=>x::(lo.toList++hi.toList++mx.toList)
 | .sliceStr x lo hi=>x::(lo.toList++hi.toList)
 | .indexAddr _ x i | .indexAddrArr _ _ x i | .indexArr _ _ _ x i | .indexStr x i=>[x,i]
 | .lookup _ _ _ _ x k=>[x,k]
 | .mapSet _ x k v=>[x,k,v]
 | .call _ args=>args
 | .callv x args | .invoke x _ _ args=>x::args
 | .append _ _ x y | .copy _ x y=>[x,y]
 | .minmax _ x l=>x::l
 | .again d _ _ x=>[.tmp d,x]
 | .apart x y=>[x,y]
def B4(d:Nat)(o:EOp):Bool:=
 (Hf o.i).any (fun x=>match x with | .tmp t=>t==d|_=>false)||(match o.guard with|some (g,_)=>g==d|none=>false)
def BE(x y:EOp):Bool:=
 match x.dst with
 |some d=>B4 d y
 |none=>false
def BT(x y:EOp):Bool:=
 match x.dst,y.dst with
 |some d,some e=>d==e
 |_,_=>false
def Dy(es:List EOp)(p q:Nat):Bool:=
 match Bg es p,Bg es q with
 |⟨none,.store _ _ _,none⟩,⟨none,.store _ _ _,none⟩=>true
 |_,_=>false
def Hy(es:List EOp)(p q:Nat):List EOp:=
 match Bg es p,Bg es q with
 |⟨none,.store _ x _,none⟩,⟨none,.store _ y _,none⟩=>[⟨none,.apart x y,none⟩]
 |_,_=>[]
def EK(bf:Array Nat)(es:List EOp)(p q:Nat):Bool:=
 !(p==q) && !BG bf p q&&(!isX (Bg es p).i||BG bf q p||Dy es p q) && !BT (Bg es p) (Bg es q) &&
  (BG bf q p||(!BE (Bg es p) (Bg es q) && !BE (Bg es q) (Bg es p)))
def HA(bf:Array Nat)(es:List EOp):List Nat->Bool
 |[]=>true
 |p::l=>l.all (EK bf es p)&&HA bf es l
def Id(bf:Array Nat)(n:Nat):Nat->List Oper->Bool
 |_,[]=>true
 |j,o::l=>((List.range n).all fun i=> !BG bf j i||o.after.toList.any fun e=>Region.binds .any e&&(e.on==i||BG bf e.on i)) &&
   (o.after.toList.all fun e=> !Region.binds .any e||(Nat.blt e.on j&&BG bf j e.on))&&Id bf n (j+1) l
def CY(bf:Array Nat)(es:List EOp)(x:Nat):List Nat->List Nat->Option (List EOp)
 |_,[]=>some []
 |since,r::l=>
  match CY bf es x (r::since) l with
  |none=>none
  |some rest=>
   if CM (Bg es r).i && !BG bf x r then
    if (r::since).all fun q=> !BE (Bg es q) (Bg es r)then
     match (Bg es r).i,(Bg es r).dst with
     | .load agg n y,some d=>some (⟨none,.again d agg n y,(Bg es r).guard⟩::rest)
     |_,_=>none
    else none
   else some rest
def BR(o:EOp):Bool:=
 match o.i,o.guard,o.dst with
 | .alloc z,none,some _=>Ce (BB z)
 |_,_,_=>false
def D3(es:List EOp)(als:List Nat)(x:Nat):List Nat:=als.filter fun a=>BE (Bg es a) (Bg es x)
def DH(es:List EOp)(als:List Nat)(x:Nat):List Nat:=als.filter fun a=> !BE (Bg es a) (Bg es x)
def Cy(bf:Array Nat)(es:List EOp):List Nat->List Nat->List Nat->Option (List EOp)
 |als,_,[]=>some (als.map (Bg es))
 |als,back,i::l=>
  if isX (Bg es i).i then
   match CY bf es i [] back,Cy bf es (DH es als i) back l with
   |some ag,some rest=>some ((D3 es als i).map (Bg es)++Bg es i::(ag++rest))
   |_,_=>none
  else match Cy bf es als (i::back) l with
   |some rest=>some (Bg es i::rest)
   |none=>none
def Pn(bf:Array Nat)(es:List EOp)(n:Nat)(a:Nat):Bool:=
 (List.range n).all fun j=>a==j||(!BT (Bg es a) (Bg es j)&&(!BE (Bg es a) (Bg es j)||(isX (Bg es j).i && !BR (Bg es j)&&BG bf j a)))
def D6(bf:Array Nat)(es:List EOp):List Nat->Bool
 |[]=>true
 |p::l=>(!isX (Bg es p).i||l.all fun q=>BG bf q p)&&D6 bf es l
def Ia(bf:Array Nat)(es:List EOp)(n:Nat)(als ord:List Nat):Option (List EOp):=
 if D6 bf es ord then some []else
 match ord.reverse with
 |q::p::r=>if D6 bf es (r.reverse++[p])&&D6 bf es (r.reverse++[q])&&als.isEmpty&&(List.range n).all (fun i=> !CM (Bg es i).i||(BG bf p i&&BG bf q i))then some (Hy es p q)else none
 |_=>none
def Ir(ops:Array Oper):Option (List EOp):=
 match Cb P ops ops.toList with
 |none=>none
 |some es=>
  let bf:=Region.before ops
  let als:=(List.range ops.size).filter fun i=>BR (Bg es i)
  let all:=(List.range ops.size).filter fun i=> !BR (Bg es i)
  let xs:=all.filter fun i=>isX (Bg es i).i
  let ord:=JC bf all xs 0 xs
  if HA bf es ord&&Id bf ops.size 0 ops.toList&&als.all (Pn bf es ops.size)&&all.all (fun i=>ord.contains i)&&ord.all (fun i=>Nat.blt i ops.size && !BR (Bg es i))then
   match Cy bf es als [] ord,Ia bf es ops.size als ord with
   |some l,some r=>some (l++r)
   |_,_=>none
  else none
def ET.pre(o:EOp):ET->ET
 | .done l=>.done (o::l)
 | .fork l a b=>.fork (o::l) a b
def Rq:List ET->ET
 |[]=>.done [⟨none,.bad,none⟩]
 |[c]=>c
 |c::cs=>.fork [] c (Rq cs)
def NK(f:Nat->Nat->Option (ET×Nat)):List Nat->Nat->Option (List ET×Nat)
 |[],b=>some ([],b)
 |_::_,0=>none
 |j::js,b+1=>match f j b with
  |none=>none
  |some (t,b1)=>match NK f js b1 with
   |none=>none
   |some (ts,b2)=>some (t::ts,b2)
def Kp(ops:Array Oper)(es:List EOp):Nat->Nat->Array Bool->Option (ET×Nat)
 |0,b,listed=>match Region.ready .any ops listed with
  |[]=>some (.done [],b)
  |_=>none
 |n+1,b,listed=>match Region.ready .any ops listed with
  |[]=>some (.done [],b)
  |[j]=>match Kp ops es n b (listed.setIfInBounds j true)with
   |none=>none
   |some (t,b)=>some (t.pre (Bg es j),b)
  |js=>match NK (fun j b=>match Kp ops es n b (listed.setIfInBounds j true)with
    |none=>none
    |some (t,b)=>some (t.pre (Bg es j),b)) js b with
   |none=>none
   |some (ts,b)=>some (Rq ts,b)
def Nk(ops:Array Oper):Option ET:=
 match Cb P ops ops.toList with
 |none=>none
 |some es=>(Kp ops es ops.size 30 (Array.replicate ops.size false)).map (·.1)
def LG:ET:=.done [⟨none,.bad,none⟩]
def BC:Code->Option EC
 | .skip=>some .skip
 | .region _ ops false=>(Cb P ops ops.toList).map .ops
 | .region _ ops true=>match Ir P ops with
  |some l=>some (.ops l)
  |none=>match Nk P ops with
   |some t=>some (.any t)
   |none=>some (.any LG)
 | .seq a b=>match BC a,BC b with
  |some x,some y=>some (.seq x y)
  |_,_=>none
 | .cond c a b=>match BC a,BC b with
  |some x,some y=>some (.cond c x y)
  |_,_=>none
 | .block id c=>(BC c).map (.block id)
 | .loop c=>(BC c).map .loop
 | .exit id=>some (.exit id)
 | .ret=>some .ret
 | .rangeFunc x ps a c=>match BC a,BC c with
  |some ea,some ec=>some (.rf x ps.toList ea ec)
  |_,_=>none
 |_=>none
end
end Go.Proofs.YtkjhfefbklcciaaGreatDoor.Em
