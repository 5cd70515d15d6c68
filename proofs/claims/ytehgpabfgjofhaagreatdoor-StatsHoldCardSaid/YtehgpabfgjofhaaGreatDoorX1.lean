/- No conditions. -/
import Derived.Orders
import Derived.LoopN
import Derived.Below
set_option linter.unusedVariables false
namespace Go.Proofs.YtehgpabfgjofhaaGreatDoor.Em
open Go
inductive EV where
 |lit (v:Value)
 |sb (b:Bool)
 |ptr (id off:Nat)
 |eptr (id off:Nat)
 |sl (es id off len:Nat) (cap:Option Nat)
 |mp (id:Nat)
 |iptr (c:List EV) (off:Nat)
 |isl (n:Nat) (cap:Option Nat) (c:List EV)
 |fn (f:Fn) (first captured:List EV)
 |iface (t:TypeId) (v:EV)
 |agg (c:List EV)
 |tup (c:List EV)
 |top
 |yl (id:Nat)
inductive EI where
 |mov (x:Operand)
 |pick (c a b:Operand)
 |alloc (zero:List Value)
 |box (x:Operand)
 |build (zero:List Value) (parts:List (Nat×Nat×Operand))
 |buildSlice (es n:Nat) (zero:List Value) (parts:List (Nat×Nat×Operand))
 |load (agg:Bool) (n:Nat) (x:Operand)
 |store (n:Nat) (x v:Operand)
 |nilCheck (x:Operand)
 |bin (op:BinOp) (x y:Operand) (td:Option TypeDesc)
 |un (op:UnOp) (x:Operand)
 |conv (k:IntKind) (x:Operand)
 |cstr (x:Operand)
 |s2b (x:Operand)
 |b2s (x:Operand)
 |strish (x:Operand)
 |mkIface (t:TypeId) (x:Operand)
 |mkFunc (f:Fn) (first captured:List Operand)
 |mkMap
 |mkSlice (es bytes:Nat) (zero:List Value) (l c:Operand)
 |slice (es:Nat) (x:Operand) (lo hi mx:Option Operand)
 |sliceStr (x:Operand) (lo hi:Option Operand)
 |s2a (n:Nat) (x:Operand)
 |fieldAddr (off:Nat) (x:Operand)
 |field (agg:Bool) (off n:Nat) (x:Operand)
 |indexAddr (es:Nat) (x i:Operand)
 |indexAddrArr (es len:Nat) (x i:Operand)
 |indexArr (agg:Bool) (es len:Nat) (x i:Operand)
 |indexStr (x i:Operand)
 |lookup (ks:Nat) (zero:List Value) (isAgg ok:Bool) (x k:Operand)
 |mapSet (ks:Nat) (x k v:Operand)
 |extract (x:Operand) (i:Nat)
 |call (f:FuncId) (args:List Operand)
 |callv (x:Operand) (args:List Operand)
 |invoke (x:Operand) (name:String) (cands:List (TypeId×FuncId)) (args:List Operand)
 |append (es bytes:Nat) (x y:Operand)
 |len (k:Nat) (x:Operand)
 |copy (es:Nat) (x y:Operand)
 |minmax (mx:Bool) (x:Operand) (rest:List Operand)
 |again (d:Nat) (agg:Bool) (n:Nat) (x:Operand)
 |apart (x y:Operand)
 |bad
structure EOp where
 dst:Option Nat
 i:EI
 guard:Option (Nat×Bool)
inductive ET where
 |done (l:List EOp)
 |fork (l:List EOp) (a b:ET)
inductive EC where
 |skip
 |ops (l:List EOp)
 |seq (a b:EC)
 |cond (x:Operand) (a b:EC)
 |block (id:Nat) (c:EC)
 |loop (c:EC)
 |exit (id:Nat)
 |ret
 |rf (x:Operand) (ps:List Nat) (asg body:EC)
 |any (t:ET)
inductive EO where
 |dead
 |blk (c:List EV)
 |emap (es:List (EV×EV))
 |lp (t:List EV) (ps:List Nat) (asg body:EC) (st:Nat) (pd:Option (Option Nat))
abbrev EH:=List EO
structure Ar where
 ib:BinOp->IntKind->Int->Int->Int
 ic:BinOp->Int->Int->Bool
 sh:BinOp->IntKind->Int->Int->Int
 wr:IntKind->Int->Int
 xr:IntKind->Int->Int
 ss:BinOp->ByteArray->ByteArray->Bool
 cat:ByteArray->ByteArray->ByteArray
 bsz:ByteArray->Nat
 bat:ByteArray->Nat->Int
 bex:ByteArray->Nat->Nat->ByteArray
 enc:ByteArray->List EV
 dec:List EV->ByteArray
 tn:Int->Nat
 ofn:Nat->Int
 add:Nat->Nat->Nat
 sub:Nat->Nat->Nat
 mul:Nat->Nat->Nat
 idx:Nat->Int->Nat->Nat
 nmin:Nat->Nat->Nat
 imin:Int->Int->Int
 imax:Int->Int->Int
 nn:Int->Bool
 ne0:Int->Bool
 isz:Nat->Bool
 le:Nat->Nat->Bool
 inb:Int->Nat->Bool
 slb:Int->Int->Nat->Bool
 room:Nat->Nat->Bool
 mks:Nat->Int->Int->Bool
 bnot:Bool->Bool
 beq:Bool->Bool->Bool
 drp:Nat->List EV->List EV
 tak:Nat->List EV->List EV
 app:List EV->List EV->List EV
 setl:List EV->Nat->List EV->List EV
 rep:List EV->Nat->List EV
 len:List EV->Nat
 byt:Nat->List EV->Bool
 keyed:Nat->List (EV×EV)->EV->Bool
 find:List (EV×EV)->EV->Option EV
 mset:List (EV×EV)->EV->EV->List (EV×EV)
 mlen:List (EV×EV)->Nat
structure St where
 t:List EV
 h:EH
inductive KI where
 |c (c:EC)
 |ops (l:List EOp)
 |blk (id:Nat)
 |mark (R:St->Prop)
 |lp (c:EC)
inductive SR where
 |stuck
 |ret (v:EV) (h:EH)
 |need (b:Bool) (r:SR)
 |look (c:List EV) (off n:Nat) (agg:Bool) (h:EH)
 |br (b:Bool) (v1:EV) (h1:EH) (v2:EV) (h2:EH)
 |opt (o:Option EV) (ok:Bool) (z:EV) (h:EH)
 |call (f:FuncId) (args:List EV)
 |same (v w:EV) (h:EH)
 |lookS (c:List EV) (off n:Nat) (agg:Bool) (w:EV) (h:EH)
inductive Out where
 |stuck
 |need (b:Bool) (o:Out)
 |br (b:Bool) (k1:List KI) (s1:St) (k2:List KI) (s2:St)
 |look (c:List EV) (off n:Nat) (agg:Bool) (dst:Option Nat) (k:List KI) (s:St)
 |opt (o:Option EV) (ok:Bool) (z:EV) (dst:Option Nat) (k:List KI) (s:St)
 |call (f:FuncId) (args:List EV) (dst:Option Nat) (k:List KI) (s:St)
 |same (v w:EV) (o:Out)
 |lookS (c:List EV) (off n:Nat) (agg:Bool) (w:EV) (o:Out)
 |loop (c:EC) (k:List KI) (s:St)
 |again (c:EC) (k:List KI) (s:St)
 |back (R:St->Prop) (s:St)
 |done (s:St)
 |pause (k:List KI) (s:St)
def Dg:FuncId:=4294967295
def BO:EV:=.lit (.tuple #[])
def gdE:EV->Option (Option Bool)
 | .lit (.bool b)=>some (some b)
 | .lit (.tuple _)=>some none
 |_=>none
def BC:List EV->Nat->EV
 |[],_=>BO
 |x::_,0=>x
 |_::l,n+1=>BC l n
def BN:List EV->Nat->EV->List EV
 |[],_,_=>[]
 |_::l,0,v=>v::l
 |x::l,n+1,v=>x::BN l n v
def Bh:EH->Nat->EO
 |[],_=>.dead
 |x::_,0=>x
 |_::l,n+1=>Bh l n
def BG:EH->Nat->EO->EH
 |[],_,_=>[]
 |_::l,0,v=>v::l
 |x::l,n+1,v=>x::BG l n v
def B0:EH->EO->EH
 |[],o=>[o]
 |x::l,o=>x::B0 l o
def Bc:EH->Nat
 |[]=>0
 |_::l=>Bc l+1
def rd:List EV->Nat->Nat->Option (List EV)
 |_,0,0=>some []
 |[],_,_=>none
 |_::l,off+1,n=>rd l off n
 |x::l,0,n+1=>match rd l 0 n with|some r=>some (x::r)|none=>none
def wrt:List EV->Nat->List EV->Option (List EV)
 |l,0,[]=>some l
 |[],_,_=>none
 |x::l,off+1,vs=>match wrt l off vs with|some r=>some (x::r)|none=>none
 |_::l,0,v::vs=>match wrt l 0 vs with|some r=>some (v::r)|none=>none
def B8:List Value->List EV
 |[]=>[]
 |v::l=>.lit v::B8 l
def ofV:Value->EV
 | .agg cs=>.agg (B8 cs.toList)
 |v=>.lit v
def Cf:EV->List EV
 | .agg c=>c
 | .lit (.agg cs)=>B8 cs.toList
 |v=>[v]
def Gs:List EV->Nat
 |[]=>0
 |_::l=>Gs l+1
def mkV(agg:Bool)(c:List EV):Option EV:=
 match agg,c with
 |true,c=>some (.agg c)
 |false,[v]=>some v
 |false,_=>none
def Bq(t:List EV)(dst:Option Nat)(v:EV):List EV:=
 match dst with
 |some d=>BN t d v
 |none=>t
def Ha:EV->Bool
 | .agg _ | .tup _ | .lit (.agg _) | .lit (.tuple _) | .top=>false
 |_=>true
def CW:List EV->Bool
 |[]=>true
 |x::l=>if Ha x then CW l else false
variable (A:Ar) (G:List (List EV))
def Bu(t:List EV):Operand->EV
 | .tmp i=>BC t i
 | .const v=>ofV v
 | .global g=>match G[g]? with|some c=>.iptr c 0|none=>.lit (.pointer (some ⟨g,0,none⟩))
 | .func f=>.fn (.func f) [] []
def CL(t:List EV):List Operand->List EV
 |[]=>[]
 |x::l=>Bu G t x::CL t l
def Dw(t:List EV):List EV->List (Nat×Nat×Operand)->Option (List EV)
 |cs,[]=>some cs
 |cs,(off,n,x)::l=>
  let v:=Cf (Bu G t x)
  if Gs v==n then if CW v then match wrt cs off v with|some r=>Dw t r l|none=>none else none else none
def Hs(td:TypeDesc)(x:EV):Option Bool:=
 match td with
 | .slice _=>match x with
  | .lit (.slice none _ _)=>some true
  | .sl .. | .isl _ (some _) _=>some false
  |_=>none
 | .map _ _=>match x with
  | .lit (.map none)=>some true
  | .mp _=>some false
  |_=>none
 | .func _ _ _=>match x with
  | .lit .nilFunc=>some true
  | .fn .. => some false
  |_=>none
 | .interface _=>match x with
  | .lit .nilIface=>some true
  | .iface .. => some false
  |_=>none
 | .pointer _=>match x with
  | .lit (.pointer none)=>some true
  | .ptr .. | .eptr .. | .iptr .. => some false
  |_=>none
 |_=>none
def Kg(op:BinOp)(td:TypeDesc)(x y:EV)(h:EH):SR:=
 match op,Hs td x,Hs td y with
 | .eql,some true,some b=>.ret (.lit (.bool b)) h
 | .eql,some false,some true=>.ret (.lit (.bool false)) h
 | .neq,some true,some true=>.ret (.lit (.bool false)) h
 | .neq,some true,some false=>.ret (.lit (.bool true)) h
 | .neq,some false,some true=>.ret (.lit (.bool true)) h
 | .eql,none,some true=>match td,x with
  | .slice _,.isl n none _=>.need (A.bnot (A.isz n)) (.ret (.lit (.bool false)) h)
  |_,_=>.stuck
 | .neq,none,some true=>match td,x with
  | .slice _,.isl n none _=>.need (A.bnot (A.isz n)) (.ret (.lit (.bool true)) h)
  |_,_=>.stuck
 |_,_,_=>.stuck
def IH:EV->Option Bool
 | .lit (.bool b)=>some b
 | .sb b=>some b
 |_=>none
def Hh(op:BinOp)(x y:EV)(td:Option TypeDesc)(h:EH):SR:=
 match x,y with
 | .lit (.int k a),.lit (.int k' b)=>
  match op with
  | .shl | .shr=>.need (A.nn b) (.ret (.lit (.int k (A.sh op k a b))) h)
  |_=>
   if k=k' then
    match op with
    | .quo | .rem=>.need (A.ne0 b) (.ret (.lit (.int k (A.ib op k a b))) h)
    | .add | .sub | .mul | .and | .or | .xor | .andNot=>.ret (.lit (.int k (A.ib op k a b))) h
    | .eql | .neq | .lss | .leq | .gtr | .geq=>.ret (.sb (A.ic op a b)) h
    |_=>.stuck
   else .stuck
 | .lit (.string a),.lit (.string b)=>
  match op with
  | .add=>.need (A.le (A.add (A.bsz a) (A.bsz b)) 9223372036854775807) (.ret (.lit (.string (A.cat a b))) h)
  | .eql | .neq | .lss | .leq | .gtr | .geq=>.ret (.sb (A.ss op a b)) h
  |_=>.stuck
 |x,y=>
  match td with
  |some .bool=>
   match op,IH x,IH y with
   | .eql,some a,some b=>.ret (.sb (A.beq a b)) h
   | .neq,some a,some b=>.ret (.sb (A.bnot (A.beq a b))) h
   |_,_,_=>.stuck
  |some td=>Kg A op td x y h
  |none=>.stuck
def GY(c:Option Nat)(l:Nat):Option Nat:=
 match c with
 |some k=>some (A.sub k l)
 |none=>none
def Dd(t:List EV):Option Operand->Option (Option Int)
 |none=>some none
 |some x=>match Bu G t x with
  | .lit (.int _ n)=>some (some n)
  |_=>none
def orI(o:Option Int)(d:Int):Int:=match o with|some n=>n|none=>d
def Gm(es:Nat)(h:EH):EV->Option (Nat×List EV)
 | .lit (.slice none 0 0)=>some (0,[])
 | .isl n _ c=>some (n,A.tak (A.mul n es) c)
 | .sl es' id off n _=>if es'=es then match Bh h id with
  | .blk c=>some (n,A.tak (A.mul n es) (A.drp off c))
  |_=>none else none
 | .lit (.string s)=>if es=1 then some (A.bsz s,A.enc s)else none
 |_=>none
def J6(es bytes:Nat)(x y:EV)(h:EH):SR:=
 match Gm A es h y with
 |none=>.stuck
 |some (n,ys)=>
  .need (A.le (A.mul n es) (A.len ys))
  (match x with
  | .lit (.slice none 0 0)=>
   .need (A.room n bytes) (.br (A.isz n) (.lit (.slice none 0 0)) h (.sl es (Bc h) 0 n none) (B0 h (.blk ys)))
  | .sl es' id off len cap=>
   if es'=es then
    match Bh h id,cap with
    | .blk c,none=>
     .need (A.le (A.add off (A.mul len es)) (A.len c)) (.need (A.room (A.add len n) bytes)
      (.ret (.sl es (Bc h) 0 (A.add len n) none) (B0 (BG h id .dead) (.blk (A.app (A.tak (A.mul len es) (A.drp off c)) ys)))))
    | .blk c,some k=>
     .need (A.le (A.add off (A.mul k es)) (A.len c)) (.need (A.le len k) (.need (A.room (A.add len n) bytes)
      (.br (A.le (A.add len n) k)
       (.sl es id off (A.add len n) (some k)) (BG h id (.blk (A.setl c (A.add off (A.mul len es)) ys)))
       (.sl es (Bc h) 0 (A.add len n) none) (B0 h (.blk (A.app (A.tak (A.mul len es) (A.drp off c)) ys))))))
    |_,_=>.stuck
   else .stuck
  | .isl len (some k) c=>
   .need (A.le (A.mul len es) (A.len c)) (.need (A.room (A.add len n) bytes) (.need (A.bnot (A.le (A.add len n) k))
    (.ret (.sl es (Bc h) 0 (A.add len n) none) (B0 h (.blk (A.app (A.tak (A.mul len es) c) ys))))))
  |_=>.stuck)
def HB(mx:Bool)(k:IntKind):Int->List EV->Option Int
 |a,[]=>some a
 |a,.lit (.int k' b)::l=>if k=k' then HB mx k (if mx then A.imax a b else A.imin a b) l else none
 |_,_::_=>none
def CZ:List EV->Nat->Option EV
 |[],_=>none
 |x::_,0=>some x
 |_::l,n+1=>CZ l n
def CE:List EV->List EV->List EV
 |[],r=>r
 |x::l,r=>x::CE l r
def CY(t:TypeId):List (TypeId×FuncId)->Option FuncId
 |[]=>none
 |(u,f)::l=>if Nat.beq u t then some f else CY t l
def H6(c a b:EV)(h:EH):SR:=
 match c with
 | .lit (.bool true)=>.ret a h
 | .lit (.bool false)=>.ret b h
 | .sb v=>.br v a h b h
 |_=>.stuck
def E8(v:EV)(h:EH):SR:=
 if CW (Cf v)then .ret (.ptr (Bc h) 0) (B0 h (.blk (Cf v)))else .stuck
def D3(agg:Bool)(n:Nat)(x:EV)(h:EH):SR:=
 match x with
 | .ptr id off=>match Bh h id with
  | .blk c=>match rd c off n with
   |some cs=>match mkV agg cs with
    |some v=>.ret v h
    |none=>.stuck
   |none=>.stuck
  |_=>.stuck
 | .eptr id off=>match Bh h id with
  | .blk c=>.look c off n agg h
  |_=>.stuck
 | .iptr c off=>.look c off n agg h
 |_=>.stuck
def EP(n:Nat)(x v:EV)(h:EH):SR:=
 if Gs (Cf v)==n then if CW (Cf v)then
  match x with
  | .ptr id off=>match Bh h id with
   | .blk c=>match wrt c off (Cf v)with
    |some c'=>.ret BO (BG h id (.blk c'))
    |none=>.stuck
   |_=>.stuck
  | .eptr id off=>match Bh h id with
   | .blk c=>.need (A.le (A.add off n) (A.len c)) (.ret BO (BG h id (.blk (A.setl c off (Cf v)))))
   |_=>.stuck
  |_=>.stuck
 else .stuck else .stuck
def GB(x:EV)(h:EH):SR:=
 match x with
 | .ptr id off=>.ret (.ptr id off) h
 | .eptr id off=>.ret (.eptr id off) h
 | .iptr c off=>.ret (.iptr c off) h
 | .fn (.func f) a b=>.ret (.fn (.func f) a b) h
 |_=>.stuck
def unE(op:UnOp)(x:EV)(h:EH):SR:=
 match op,x with
 | .neg,.lit (.int k n)=>.ret (.lit (.int k (A.ib .sub k 0 n))) h
 | .xor,.lit (.int k n)=>.ret (.lit (.int k (A.xr k n))) h
 | .not,.lit (.bool true)=>.ret (.lit (.bool false)) h
 | .not,.lit (.bool false)=>.ret (.lit (.bool true)) h
 | .not,.sb b=>.ret (.sb (A.bnot b)) h
 |_,_=>.stuck
def GI(k:IntKind)(x:EV)(h:EH):SR:=
 match x with
 | .lit (.int _ n)=>.ret (.lit (.int k (A.wr k n))) h
 |_=>.stuck
def HM(x:EV)(h:EH):SR:=
 match x with
 | .lit (.string s)=>.ret (.lit (.string s)) h
 |_=>.stuck
def Kq(x:EV)(h:EH):SR:=
 match x with
 | .lit (.string s)=>.need (A.room (A.bsz s) 1) (.ret (.sl 1 (Bc h) 0 (A.bsz s) none) (B0 h (.blk (A.enc s))))
 |_=>.stuck
def HF(x:EV)(h:EH):SR:=
 match x with
 | .lit (.slice none 0 0)=>.ret (.lit (.string ByteArray.empty)) h
 | .isl n _ c=>.need (A.byt n c) (.ret (.lit (.string (A.dec (A.tak n c)))) h)
 | .sl es id off n _=>if es=1 then match Bh h id with
  | .blk c=>.need (A.byt n (A.drp off c)) (.ret (.lit (.string (A.dec (A.tak n (A.drp off c))))) h)
  |_=>.stuck else .stuck
 |_=>.stuck
def Hw(x:EV)(h:EH):SR:=
 match x with
 | .sl es id off n cap=>match Bh h id with
  | .blk _=>.need (A.bnot (A.isz n)) (.ret (.sl es id off n cap) h)
  |_=>.stuck
 |_=>.stuck
def Jk(es bytes:Nat)(z:List EV)(l c:EV)(h:EH):SR:=
 match l,c with
 | .lit (.int _ n),.lit (.int _ m)=>
  .need (A.mks bytes n m) (.ret (.sl es (Bc h) 0 (A.tn n) (some (A.tn m))) (B0 h (.blk (A.rep z (A.tn m)))))
 |_,_=>.stuck
def GO(es:Nat)(x:EV)(lo hi mx:Option Int)(h:EH):SR:=
 match x with
 | .isl n cap c=>
  match mx with
  |none=>.need (A.slb (orI lo 0) (orI hi (A.ofn n)) n)
    (.ret (.isl (A.sub (A.tn (orI hi (A.ofn n))) (A.tn (orI lo 0))) (GY A cap (A.tn (orI lo 0))) (A.drp (A.mul (A.tn (orI lo 0)) es) c)) h)
  |some k=>.need (A.slb (orI lo 0) (orI hi (A.ofn n)) (A.tn k)) (.need (A.inb k (A.add n 1)) (.br (A.isz n) (.isl 0 none c) h
    (.isl (A.sub (A.tn (orI hi (A.ofn n))) (A.tn (orI lo 0))) (some (A.sub (A.tn k) (A.tn (orI lo 0)))) (A.drp (A.mul (A.tn (orI lo 0)) es) c)) h))
 | .sl es' id off n cap=>
  if es'=es then
  match mx with
  |none=>.need (A.slb (orI lo 0) (orI hi (A.ofn n)) n)
    (.ret (.sl es id (A.add off (A.mul (A.tn (orI lo 0)) es)) (A.sub (A.tn (orI hi (A.ofn n))) (A.tn (orI lo 0))) (GY A cap (A.tn (orI lo 0)))) h)
  |some k=>.need (A.slb (orI lo 0) (orI hi (A.ofn n)) (A.tn k)) (.need (A.inb k (A.add n 1))
    (.ret (.sl es id (A.add off (A.mul (A.tn (orI lo 0)) es)) (A.sub (A.tn (orI hi (A.ofn n))) (A.tn (orI lo 0))) (some (A.sub (A.tn k) (A.tn (orI lo 0))))) h))
  else .stuck
 | .lit (.slice none 0 0)=>
  .need (A.slb (orI lo 0) (orI hi 0) 0) (.need (A.inb (orI mx 0) 1) (.ret (.lit (.slice none 0 0)) h))
 |_=>.stuck
def Hf(x:EV)(lo hi:Option Int)(h:EH):SR:=
 match x with
 | .lit (.string s)=>
  .need (A.slb (orI lo 0) (orI hi (A.ofn (A.bsz s))) (A.bsz s))
   (.ret (.lit (.string (A.bex s (A.tn (orI lo 0)) (A.tn (orI hi (A.ofn (A.bsz s))))))) h)
 |_=>.stuck
def Hk(n:Nat)(x:EV)(h:EH):SR:=
 match x with
 | .isl m _ c=>.need (A.le n m) (.ret (.iptr c 0) h)
 | .sl _ id off m _=>.need (A.le n m) (.ret (.eptr id off) h)
 |_=>.stuck
def GE(o:Nat)(x:EV)(h:EH):SR:=
 match x with
 | .ptr id off=>.ret (.ptr id (off+o)) h
 | .eptr id off=>.ret (.eptr id (A.add off o)) h
 | .iptr c off=>.ret (.iptr c (A.add off o)) h
 |_=>.stuck
def GK(agg:Bool)(o n:Nat)(x:EV)(h:EH):SR:=
 match x with
 | .agg c=>match rd c o n with
  |some cs=>match mkV agg cs with
   |some v=>.ret v h
   |none=>.stuck
  |none=>.stuck
 |_=>.stuck
def GJ(es:Nat)(x i:EV)(h:EH):SR:=
 match i with
 | .lit (.int _ n)=>match x with
  | .isl len _ c=>.need (A.inb n len) (.ret (.iptr c (A.idx 0 n es)) h)
  | .sl es' id off len _=>if es'=es then .need (A.inb n len) (.ret (.eptr id (A.idx off n es)) h)else .stuck
  |_=>.stuck
 |_=>.stuck
def Hc(es len:Nat)(x i:EV)(h:EH):SR:=
 match i with
 | .lit (.int _ n)=>match x with
  | .ptr id off=>.need (A.inb n len) (.ret (.eptr id (A.idx off n es)) h)
  | .eptr id off=>.need (A.inb n len) (.ret (.eptr id (A.idx off n es)) h)
  | .iptr c off=>.need (A.inb n len) (.ret (.iptr c (A.idx off n es)) h)
  |_=>.stuck
 |_=>.stuck
def GQ(agg:Bool)(es len:Nat)(x i:EV)(h:EH):SR:=
 match i,x with
 | .lit (.int _ n),.agg c=>.need (A.inb n len) (.look c (A.idx 0 n es) es agg h)
 |_,_=>.stuck
def GL(x i:EV)(h:EH):SR:=
 match i,x with
 | .lit (.int _ n),.lit (.string s)=>.need (A.inb n (A.bsz s)) (.ret (.lit (.int .u8 (A.bat s (A.tn n)))) h)
 |_,_=>.stuck
def zvE(z:List Value)(isA:Bool):EV:=
 if isA then .agg (B8 z)else match z with|[v]=>.lit v|_=>BO
def HT(ks:Nat)(z:List Value)(isA ok:Bool)(x k:EV)(h:EH):SR:=
 match x with
 | .mp id=>match Bh h id with
  | .emap es=>.need (A.keyed ks es k) (.opt (A.find es k) ok (zvE z isA) h)
  |_=>.stuck
 | .lit (.map none)=>.need (A.keyed ks [] k) (.ret (if ok then .tup [zvE z isA,.lit (.bool false)]else zvE z isA) h)
 |_=>.stuck
def JT(ks:Nat)(x k v:EV)(h:EH):SR:=
 match x with
 | .mp id=>match Bh h id with
  | .emap es=>.need (A.keyed ks es k) (.ret BO (BG h id (.emap (A.mset es k v))))
  |_=>.stuck
 |_=>.stuck
def Hj(x:EV)(i:Nat)(h:EH):SR:=
 match x with
 | .tup c=>match CZ c i with
  |some v=>.ret v h
  |none=>.stuck
 |_=>.stuck
def IzO(x:EV)(args:List EV):SR:=
 match x with
 | .fn (.func f) a b=>if Nat.beq f Dg then .stuck else .call f (CE a (CE args b))
 | .yl id=>.call Dg (.yl id::args)
 |_=>.stuck
def IZ(x:EV)(cands:List (TypeId×FuncId))(args:List EV):SR:=
 match x with
 | .iface ty v=>match CY ty cands with
  |some f=>.call f (v::args)
  |none=>.stuck
 |_=>.stuck
def E7(k:Nat)(x:EV)(h:EH):SR:=
 match k with
 |0=>match x with
  | .lit (.string s)=>.ret (.lit (.int .i64 (A.ofn (A.bsz s)))) h
  |_=>.stuck
 |1=>match x with
  | .lit (.slice none 0 0)=>.ret (.lit (.int .i64 0)) h
  | .sl _ _ _ n _=>.ret (.lit (.int .i64 (A.ofn n))) h
  | .isl n _ _=>.ret (.lit (.int .i64 (A.ofn n))) h
  |_=>.stuck
 |_=>match x with
  | .lit (.map none)=>.ret (.lit (.int .i64 0)) h
  | .mp id=>match Bh h id with
   | .emap es=>.ret (.lit (.int .i64 (A.ofn (A.mlen es)))) h
   |_=>.stuck
  |_=>.stuck
def Kp(es:Nat)(x y:EV)(h:EH):SR:=
 match Gm A es h y with
 |some (n,ys)=>match x with
  | .sl es' id off len _=>if es'=es then match Bh h id with
   | .blk c=>.need (A.le (A.add off (A.mul len es)) (A.len c)) (.need (A.le (A.mul n es) (A.len ys))
     (.ret (.lit (.int .i64 (A.ofn (A.nmin n len)))) (BG h id (.blk (A.setl c off (A.tak (A.mul (A.nmin n len) es) ys))))))
   |_=>.stuck else .stuck
  | .lit (.slice none 0 0)=>.ret (.lit (.int .i64 0)) h
  |_=>.stuck
 |none=>.stuck
def Hg(mx:Bool)(x:EV)(l:List EV)(h:EH):SR:=
 match x with
 | .lit (.int k n)=>match HB A mx k n l with
  |some m=>.ret (.lit (.int k m)) h
  |none=>.stuck
 |_=>.stuck
def idE:EV->Option Nat
 | .ptr i _=>some i
 | .eptr i _=>some i
 |_=>none
def HX(x y:EV)(h:EH):SR:=
 match idE x,idE y with
 |some i,some j=>if Nat.beq i j then .stuck else .ret BO h
 |_,_=>.stuck
def HS(w:EV)(agg:Bool)(n:Nat)(x:EV)(h:EH):SR:=
 match x with
 | .ptr id off=>match Bh h id with
  | .blk c=>match rd c off n with
   |some cs=>match mkV agg cs with
    |some v=>.same v w h
    |none=>.stuck
   |none=>.stuck
  |_=>.stuck
 | .eptr id off=>match Bh h id with
  | .blk c=>.lookS c off n agg w h
  |_=>.stuck
 | .iptr _ _=>.ret BO h
 |_=>.stuck
def BD(t:List EV)(h:EH):EI->SR
 | .mov x=>.ret (Bu G t x) h
 | .pick c a b=>H6 (Bu G t c) (Bu G t a) (Bu G t b) h
 | .alloc z=>E8 (.agg (B8 z)) h
 | .box x=>E8 (Bu G t x) h
 | .build z ps=>match Dw G t (B8 z) ps with
  |some c=>.ret (.agg c) h
  |none=>.stuck
 | .buildSlice es n z ps=>match Dw G t (B8 z) ps with
  |some c=>if CW c then .ret (.sl es (Bc h) 0 n (some n)) (B0 h (.blk c))else .stuck
  |none=>.stuck
 | .load agg n x=>D3 agg n (Bu G t x) h
 | .store n x v=>EP A n (Bu G t x) (Bu G t v) h
 | .nilCheck x=>GB (Bu G t x) h
 | .bin op x y td=>Hh A op (Bu G t x) (Bu G t y) td h
 | .un op x=>unE A op (Bu G t x) h
 | .conv k x=>GI A k (Bu G t x) h
 | .cstr x=>HM (Bu G t x) h
 | .s2b x=>Kq A (Bu G t x) h
 | .b2s x=>HF A (Bu G t x) h
 | .strish x=>Hw A (Bu G t x) h
 | .mkIface ty x=>.ret (.iface ty (Bu G t x)) h
 | .mkFunc f a b=>.ret (.fn f (CL G t a) (CL G t b)) h
 | .mkMap=>.ret (.mp (Bc h)) (B0 h (.emap []))
 | .mkSlice es bytes z l c=>Jk A es bytes (B8 z) (Bu G t l) (Bu G t c) h
 | .slice es x lo hi mx=>
  match Dd G t lo,Dd G t hi,Dd G t mx with
  |some l,some hh,some m=>GO A es (Bu G t x) l hh m h
  |_,_,_=>.stuck
 | .sliceStr x lo hi=>
  match Dd G t lo,Dd G t hi with
  |some l,some hh=>Hf A (Bu G t x) l hh h
  |_,_=>.stuck
 | .s2a n x=>Hk A n (Bu G t x) h
 | .fieldAddr o x=>GE A o (Bu G t x) h
 | .field agg o n x=>GK agg o n (Bu G t x) h
 | .indexAddr es x i=>GJ A es (Bu G t x) (Bu G t i) h
 | .indexAddrArr es len x i=>Hc A es len (Bu G t x) (Bu G t i) h
 | .indexArr agg es len x i=>GQ A agg es len (Bu G t x) (Bu G t i) h
 | .indexStr x i=>GL A (Bu G t x) (Bu G t i) h
 | .lookup ks z isA ok x k=>HT A ks z isA ok (Bu G t x) (Bu G t k) h
 | .mapSet ks x k v=>JT A ks (Bu G t x) (Bu G t k) (Bu G t v) h
 | .extract x i=>Hj (Bu G t x) i h
 | .call f args=>.call f (CL G t args)
 | .callv x args=>IzO (Bu G t x) (CL G t args)
 | .invoke x _ cands args=>IZ (Bu G t x) cands (CL G t args)
 | .append es bytes x y=>J6 A es bytes (Bu G t x) (Bu G t y) h
 | .len k x=>E7 A k (Bu G t x) h
 | .copy es x y=>Kp A es (Bu G t x) (Bu G t y) h
 | .minmax mx x l=>Hg A mx (Bu G t x) (CL G t l) h
 | .again d agg n x=>HS (BC t d) agg n (Bu G t x) h
 | .apart x y=>HX (Bu G t x) (Bu G t y) h
 | .bad=>.stuck
def Lo(dst:Option Nat)(k:List KI)(t:List EV)(go:EV->EH->Out):SR->Out
 | .stuck=>.stuck
 | .ret v h=>go v h
 | .need b r=>.need b (Lo dst k t go r)
 | .look c off n agg h=>.look c off n agg dst k ⟨t,h⟩
 | .br b v1 h1 v2 h2=>.br b k ⟨Bq t dst v1,h1⟩ k ⟨Bq t dst v2,h2⟩
 | .opt o ok z h=>.opt o ok z dst k ⟨t,h⟩
 | .call f args=>.stuck
 | .same v w h=>.same v w (go BO h)
 | .lookS c off n agg w h=>.lookS c off n agg w (go BO h)
def Cw(id:Nat):List KI->Option (List KI)
 |[]=>none
 | .blk i::k=>if i==id then some k else Cw id k
 |_::k=>Cw id k
def Iy(t:List EV)(x:Operand)(b:Bool):List EV:=
 match x with
 | .tmp i=>BN t i (.lit (.bool b))
 |_=>t
def run:Nat->List KI->St->Out
 |0,k,s=>.pause k s
 |_+1,[],s=>.done s
 |n+1,.c ec::k,s=>
  match ec with
  | .skip=>run n k s
  | .ops l=>run n (.ops l::k) s
  | .seq a b=>run n (.c a :: .c b::k) s
  | .cond x a b=>
   match Bu G s.t x with
   | .lit (.bool true)=>run n (.c a::k) s
   | .lit (.bool false)=>run n (.c b::k) s
   | .sb v=>.br v (.c a::k) ⟨Iy s.t x true,s.h⟩ (.c b::k) ⟨Iy s.t x false,s.h⟩
   |_=>.stuck
  | .block id c=>run n (.c c :: .blk id::k) s
  | .loop c=>.loop c k s
  | .exit id=>match Cw id k with
   |some k'=>run n k' s
   |none=>.stuck
  | .ret=>.done s
  | .rf .. => .stuck
  | .any _=>.stuck
 |n+1,.ops []::k,s=>run n k s
 |n+1,.ops (o::l)::k,s=>
  let go (_:Unit):Out:=match BD A G s.t s.h o.i with
   | .call f args=>.call f args o.dst (.ops l::k) s
   |r=>Lo o.dst (.ops l::k) s.t (fun v h=>run n (.ops l::k) ⟨Bq s.t o.dst v,h⟩) r
  match o.guard with
  |none=>go ()
  |some (g,want)=>match BC s.t g with
   | .lit (.bool b)=>if b==want then go ()else run n (.ops l::k) ⟨Bq s.t o.dst BO,s.h⟩
   | .lit (.tuple _)=>run n (.ops l::k) ⟨Bq s.t o.dst BO,s.h⟩
   | .sb b=>.br b (.ops (o::l)::k) ⟨BN s.t g (.lit (.bool true)),s.h⟩ (.ops (o::l)::k) ⟨BN s.t g (.lit (.bool false)),s.h⟩
   |_=>.stuck
 |n+1,.blk _::k,s=>run n k s
 |_+1,.mark R::_,s=>.back R s
 |_+1,.lp c::k,s=>.again c k s
set_option linter.defProp false
def lG:=@List.getD_eq_getElem?_getD
def bF:=@Bool.false_eq_true
def lE:=@List.getElem?_eq_getElem
def lT:=@List.take_of_length_le
def lA:=@List.append_assoc
def lC:=@List.cons_append
def lN:=@List.nil_append
def lK:=@List.length_take
def lD:=@List.length_drop
end Go.Proofs.YtehgpabfgjofhaaGreatDoor.Em
