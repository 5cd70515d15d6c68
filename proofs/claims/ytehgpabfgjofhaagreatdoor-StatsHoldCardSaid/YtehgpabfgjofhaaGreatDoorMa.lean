/- No conditions. -/
import Derived.Test.YtehgpabfgjofhaaGreatDoorX44
import Derived.Test.YtehgpabfgjofhaaGreatDoorX22
import Derived.Test.YtehgpabfgjofhaaGreatDoorX32
import Derived.Test.YtehgpabfgjofhaaGreatDoorX35
import Derived.Test.YtehgpabfgjofhaaGreatDoorX34
import Derived.Test.YtehgpabfgjofhaaGreatDoorX37
import Derived.Test.YtehgpabfgjofhaaGreatDoorX38
import Derived.Test.YtehgpabfgjofhaaGreatDoorProg
import Derived.KernelRfl
set_option linter.unusedVariables false
set_option linter.unusedSimpArgs false
set_option maxRecDepth 100000
set_option maxHeartbeats 16000000
namespace Go.Proofs.YtehgpabfgjofhaaGreatDoor.Stats
open Go Go.Proofs.YtehgpabfgjofhaaGreatDoor Go.Proofs.YtehgpabfgjofhaaGreatDoor.Em Go.Proofs
theorem Tri.valA{P:Program}{G:List (List EV)}{f:FuncId}{args:List EV}{V:EV}(hV:clE V=true)(ha:clL args=true)(t:Tri P G f args [] fun v _=>v=V)(h:EH):Tri P G f args h fun v h'=>v=V/\h'=h:=
 Tri.litC (φ:=fun v=>v=V) (fun v hv=>by rw[hv];exact hV) ha t h
def leV:List Nat->Nat
 |[]=>0
 |b::l=>b+256*leV l
theorem Hx:∀l:List Nat,AllB l->leV l<256^l.length
 |[],_=>by simp[leV]
 |b::l,h=>by
  have h1:=Hx l fun x hx=>h x (by simp[hx])
  have h2:=h b (by simp)
  simp only[leV,List.length_cons,Nat.pow_succ];omega
theorem Tg:∀l m:List Nat,leV (l++m)=leV l+256^l.length*leV m
 |[],m=>by simp[leV]
 |b::l,m=>by
  simp only[lC,leV,Tg l m,List.length_cons,Nat.pow_succ];rw[Nat.mul_add,Nat.mul_comm (256^l.length) 256,Nat.mul_assoc];omega
theorem R7(b:List Nat)(i:Nat)(h:i<b.length):leV (b.take (i+1))=leV (b.take i)+256^i*b.getD i 0:=by
 rw[List.take_add_one,lE h,Tg,lK,Nat.min_eq_left (by omega)]
 simp[leV,lG,lE h]
theorem JV(n:Int)(h1:0<=n)(h2:n<=18446744073709551615):stdA.wr .u64 n=n:=by
 show IntKind.u64.wrap n=n
 simp only[IntKind.wrap,IntKind.signed,IntKind.bits]
 simp
 omega
theorem D7(n:Nat)(h:n<18446744073709551616):stdA.wr .u64 (n:Int)=(n:Int):=JV _ (by omega) (by omega)
theorem D8(x k:Nat)(hk:k<64)(h:x*2^k<18446744073709551616):stdA.sh .shl .u64 (x:Int) (k:Int)=((x*2^k:Nat):Int):=by
 show IntKind.u64.wrap ((x:Int)*2^(min (k:Int).toNat 64))=_
 rw[show min (k:Int).toNat 64=k by omega]
 have:((x:Int)*2^k)=((x*2^k:Nat):Int):=by push_cast;rfl
 rw[this]
 exact D7 _ h
theorem Vq(a x i:Nat)(ha:a<256^i)(hx:x<256)(hi:i<8):stdA.ib .or .u64 (a:Int) (stdA.sh .shl .u64 (stdA.wr .u64 (x:Int)) (stdA.ib .mul .i64 8 (i:Int)))=((a+256^i*x:Nat):Int):=by
 have hb:(256:Nat)^i*256<=256^8:=by
  have:(256:Nat)^i*256=256^(i+1):=by rw[Nat.pow_succ]
  rw[this];exact Nat.pow_le_pow_right (by decide) (by omega)
 have h8:(256:Nat)^8=18446744073709551616:=by decide
 have hxm:256^i*x<=256^i*255:=Nat.mul_le_mul_left _ (by omega)
 have hsum:a+256^i*x<18446744073709551616:=by omega
 have hp:(2:Nat)^(8*i)=256^i:=by rw[Nat.pow_mul]
 rw[D7 x (by omega),Dq 8 (i:Int) (by omega) (by omega)]
 have e0:stdA.sh .shl .u64 (x:Int) (8*(i:Int))=((256^i*x:Nat):Int):=by
  have:=D8 x (8*i) (by omega) (by rw[hp,Nat.mul_comm];omega)
  rw[hp,Nat.mul_comm x]at this;rw[<-this];rfl
 rw[e0]
 show IntKind.u64.wrap _=_
 have e:(BitVec.ofInt IntKind.u64.bits (a:Int) ||| BitVec.ofInt IntKind.u64.bits ((256^i*x:Nat):Int)).toNat=a+256^i*x:=by
  rw[BitVec.toNat_or]
  have e1:∀m:Nat,m<18446744073709551616->(BitVec.ofInt IntKind.u64.bits (m:Int)).toNat=m:=fun m hm=>by
   show (BitVec.ofInt 64 (m:Int)).toNat=m;rw[BitVec.ofInt_natCast,BitVec.toNat_ofNat];exact Nat.mod_eq_of_lt (by omega)
  rw[e1 a (by omega),e1 _ (by omega),Nat.or_comm,<-hp,<-Nat.two_pow_add_eq_or_of_lt (by rw[hp];exact ha),Nat.add_comm]
 rw[e]
 exact D7 _ hsum
def B5(w n:Nat):Int:=if n<2^(8*w-1)then (n:Int)else (n:Int)-2^(8*w)
theorem zAD(w n:Nat)(hw:w=1\/w=2\/w=4\/w=8)(hn:n<256^w) :
  stdA.sh .shr .i64 (stdA.wr .i64 (stdA.sh .shl .u64 (n:Int) (stdA.ib .sub .i64 64 (stdA.ib .mul .i64 8 (w:Int))))) (stdA.ib .sub .i64 64 (stdA.ib .mul .i64 8 (w:Int)))=B5 w n:=by
 rw[Dq 8 (w:Int) (by omega) (by omega),PK 64 _ (by omega) (by omega)]
 rcases hw with rfl|rfl|rfl|rfl
 ·have:stdA.sh .shl .u64 (n:Int) (64-8*((1:Nat):Int))=((n*2^56:Nat):Int):=by
   have:=D8 n 56 (by omega) (by simp at hn;omega)
   rw[<-this];rfl
  rw[this]
  have e:stdA.sh .shr .i64 (stdA.wr .i64 ((n*2^56:Nat):Int)) 56=(IntKind.i64.wrap ((n*2^56:Nat):Int))/2^56:=by
   show Int.fdiv _ (2^56)=_;rw[Int.fdiv_eq_ediv_of_nonneg _ (by decide)];rfl
  rw[show (64-8*((1:Nat):Int))=56 by omega,e]
  simp only[IntKind.wrap,IntKind.signed,IntKind.bits,B5]at *;simp at hn ⊢
  repeat' split
  all_goals omega
 ·have:stdA.sh .shl .u64 (n:Int) (64-8*((2:Nat):Int))=((n*2^48:Nat):Int):=by
   have:=D8 n 48 (by omega) (by simp at hn;omega)
   rw[<-this];rfl
  rw[this]
  have e:stdA.sh .shr .i64 (stdA.wr .i64 ((n*2^48:Nat):Int)) 48=(IntKind.i64.wrap ((n*2^48:Nat):Int))/2^48:=by
   show Int.fdiv _ (2^48)=_;rw[Int.fdiv_eq_ediv_of_nonneg _ (by decide)];rfl
  rw[show (64-8*((2:Nat):Int))=48 by omega,e]
  simp only[IntKind.wrap,IntKind.signed,IntKind.bits,B5]at *;simp at hn ⊢
  repeat' split
  all_goals omega
 ·have:stdA.sh .shl .u64 (n:Int) (64-8*((4:Nat):Int))=((n*2^32:Nat):Int):=by
   have:=D8 n 32 (by omega) (by simp at hn;omega)
   rw[<-this];rfl
  rw[this]
  have e:stdA.sh .shr .i64 (stdA.wr .i64 ((n*2^32:Nat):Int)) 32=(IntKind.i64.wrap ((n*2^32:Nat):Int))/2^32:=by
   show Int.fdiv _ (2^32)=_;rw[Int.fdiv_eq_ediv_of_nonneg _ (by decide)];rfl
  rw[show (64-8*((4:Nat):Int))=32 by omega,e]
  simp only[IntKind.wrap,IntKind.signed,IntKind.bits,B5]at *;simp at hn ⊢
  repeat' split
  all_goals omega
 ·have:stdA.sh .shl .u64 (n:Int) (64-8*((8:Nat):Int))=((n*2^0:Nat):Int):=by
   have:=D8 n 0 (by omega) (by simp at hn;omega)
   rw[<-this];rfl
  rw[this]
  have e:stdA.sh .shr .i64 (stdA.wr .i64 ((n*2^0:Nat):Int)) 0=(IntKind.i64.wrap ((n*2^0:Nat):Int))/2^0:=by
   show Int.fdiv _ (2^0)=_;rw[Int.fdiv_eq_ediv_of_nonneg _ (by decide)];rfl
  rw[show (64-8*((8:Nat):Int))=0 by omega,e]
  simp only[IntKind.wrap,IntKind.signed,IntKind.bits,B5]at *;simp at hn ⊢
  repeat' split
  all_goals omega
abbrev CF(n:Nat):={ c // Bm Tryz.prog n=some c }
def gs:List (List EV):=[[],[.lit (.string ⟨#[]⟩),.lit (.int .i64 0),.lit (.int .i64 0),.lit (.bool false),.lit (.string ⟨#[110,117,108,108]⟩),.lit (.int .i64 0),.lit (.int .i64 0),.lit (.bool false),.lit (.string ⟨#[98,111,111,108]⟩),.lit (.int .i64 0),.lit (.int .i64 2),.lit (.bool false),.lit (.string ⟨#[105,110,116,56]⟩),.lit (.int .i64 1),.lit (.int .i64 2),.lit (.bool true),.lit (.string ⟨#[105,110,116,49,54]⟩),.lit (.int .i64 2),.lit (.int .i64 2),.lit (.bool true),.lit (.string ⟨#[105,110,116,51,50]⟩),.lit (.int .i64 4),.lit (.int .i64 2),.lit (.bool true),.lit (.string ⟨#[105,110,116,54,52]⟩),.lit (.int .i64 8),.lit (.int .i64 2),.lit (.bool true),.lit (.string ⟨#[117,105,110,116,56]⟩),.lit (.int .i64 1),.lit (.int .i64 2),.lit (.bool true),.lit (.string ⟨#[117,105,110,116,49,54]⟩),.lit (.int .i64 2),.lit (.int .i64 2),.lit (.bool true),.lit (.string ⟨#[117,105,110,116,51,50]⟩),.lit (.int .i64 4),.lit (.int .i64 2),.lit (.bool true),.lit (.string ⟨#[117,105,110,116,54,52]⟩),.lit (.int .i64 8),.lit (.int .i64 2),.lit (.bool true),.lit (.string ⟨#[102,108,111,97,116,54,52]⟩),.lit (.int .i64 8),.lit (.int .i64 2),.lit (.bool false),.lit (.string ⟨#[116,101,120,116]⟩),.lit (.int .i64 0),.lit (.int .i64 3),.lit (.bool false),.lit (.string ⟨#[98,121,116,101,115]⟩),.lit (.int .i64 0),.lit (.int .i64 3),.lit (.bool false),.lit (.string ⟨#[102,105,120,101,100]⟩),.lit (.int .i64 0),.lit (.int .i64 2),.lit (.bool false),.lit (.string ⟨#[108,105,115,116]⟩),.lit (.int .i64 0),.lit (.int .i64 2),.lit (.bool false),.lit (.string ⟨#[115,112,97,110]⟩),.lit (.int .i64 0),.lit (.int .i64 1),.lit (.bool false),.lit (.string ⟨#[115,116,114,117,99,116]⟩),.lit (.int .i64 0),.lit (.int .i64 1),.lit (.bool false),.lit (.string ⟨#[99,104,111,105,99,101]⟩),.lit (.int .i64 0),.lit (.int .i64 2),.lit (.bool false),.lit (.string ⟨#[100,105,99,116]⟩),.lit (.int .i64 0),.lit (.int .i64 2),.lit (.bool false),.lit (.string ⟨#[114,117,110,115]⟩),.lit (.int .i64 0),.lit (.int .i64 0),.lit (.bool false)],[.lit (.int .u8 240),.lit (.int .u8 240),.lit (.int .u8 240),.lit (.int .u8 240),.lit (.int .u8 240),.lit (.int .u8 240),.lit (.int .u8 240),.lit (.int .u8 240),.lit (.int .u8 240),.lit (.int .u8 240),.lit (.int .u8 240),.lit (.int .u8 240),.lit (.int .u8 240),.lit (.int .u8 240),.lit (.int .u8 240),.lit (.int .u8 240),.lit (.int .u8 240),.lit (.int .u8 240),.lit (.int .u8 240),.lit (.int .u8 240),.lit (.int .u8 240),.lit (.int .u8 240),.lit (.int .u8 240),.lit (.int .u8 240),.lit (.int .u8 240),.lit (.int .u8 240),.lit (.int .u8 240),.lit (.int .u8 240),.lit (.int .u8 240),.lit (.int .u8 240),.lit (.int .u8 240),.lit (.int .u8 240),.lit (.int .u8 240),.lit (.int .u8 240),.lit (.int .u8 240),.lit (.int .u8 240),.lit (.int .u8 240),.lit (.int .u8 240),.lit (.int .u8 240),.lit (.int .u8 240),.lit (.int .u8 240),.lit (.int .u8 240),.lit (.int .u8 240),.lit (.int .u8 240),.lit (.int .u8 240),.lit (.int .u8 240),.lit (.int .u8 240),.lit (.int .u8 240),.lit (.int .u8 240),.lit (.int .u8 240),.lit (.int .u8 240),.lit (.int .u8 240),.lit (.int .u8 240),.lit (.int .u8 240),.lit (.int .u8 240),.lit (.int .u8 240),.lit (.int .u8 240),.lit (.int .u8 240),.lit (.int .u8 240),.lit (.int .u8 240),.lit (.int .u8 240),.lit (.int .u8 240),.lit (.int .u8 240),.lit (.int .u8 240),.lit (.int .u8 240),.lit (.int .u8 240),.lit (.int .u8 240),.lit (.int .u8 240),.lit (.int .u8 240),.lit (.int .u8 240),.lit (.int .u8 240),.lit (.int .u8 240),.lit (.int .u8 240),.lit (.int .u8 240),.lit (.int .u8 240),.lit (.int .u8 240),.lit (.int .u8 240),.lit (.int .u8 240),.lit (.int .u8 240),.lit (.int .u8 240),.lit (.int .u8 240),.lit (.int .u8 240),.lit (.int .u8 240),.lit (.int .u8 240),.lit (.int .u8 240),.lit (.int .u8 240),.lit (.int .u8 240),.lit (.int .u8 240),.lit (.int .u8 240),.lit (.int .u8 240),.lit (.int .u8 240),.lit (.int .u8 240),.lit (.int .u8 240),.lit (.int .u8 240),.lit (.int .u8 240),.lit (.int .u8 240),.lit (.int .u8 240),.lit (.int .u8 240),.lit (.int .u8 240),.lit (.int .u8 240),.lit (.int .u8 240),.lit (.int .u8 240),.lit (.int .u8 240),.lit (.int .u8 240),.lit (.int .u8 240),.lit (.int .u8 240),.lit (.int .u8 240),.lit (.int .u8 240),.lit (.int .u8 240),.lit (.int .u8 240),.lit (.int .u8 240),.lit (.int .u8 240),.lit (.int .u8 240),.lit (.int .u8 240),.lit (.int .u8 240),.lit (.int .u8 240),.lit (.int .u8 240),.lit (.int .u8 240),.lit (.int .u8 240),.lit (.int .u8 240),.lit (.int .u8 240),.lit (.int .u8 240),.lit (.int .u8 240),.lit (.int .u8 240),.lit (.int .u8 240),.lit (.int .u8 240),.lit (.int .u8 240),.lit (.int .u8 240),.lit (.int .u8 241),.lit (.int .u8 241),.lit (.int .u8 241),.lit (.int .u8 241),.lit (.int .u8 241),.lit (.int .u8 241),.lit (.int .u8 241),.lit (.int .u8 241),.lit (.int .u8 241),.lit (.int .u8 241),.lit (.int .u8 241),.lit (.int .u8 241),.lit (.int .u8 241),.lit (.int .u8 241),.lit (.int .u8 241),.lit (.int .u8 241),.lit (.int .u8 241),.lit (.int .u8 241),.lit (.int .u8 241),.lit (.int .u8 241),.lit (.int .u8 241),.lit (.int .u8 241),.lit (.int .u8 241),.lit (.int .u8 241),.lit (.int .u8 241),.lit (.int .u8 241),.lit (.int .u8 241),.lit (.int .u8 241),.lit (.int .u8 241),.lit (.int .u8 241),.lit (.int .u8 241),.lit (.int .u8 241),.lit (.int .u8 241),.lit (.int .u8 241),.lit (.int .u8 241),.lit (.int .u8 241),.lit (.int .u8 241),.lit (.int .u8 241),.lit (.int .u8 241),.lit (.int .u8 241),.lit (.int .u8 241),.lit (.int .u8 241),.lit (.int .u8 241),.lit (.int .u8 241),.lit (.int .u8 241),.lit (.int .u8 241),.lit (.int .u8 241),.lit (.int .u8 241),.lit (.int .u8 241),.lit (.int .u8 241),.lit (.int .u8 241),.lit (.int .u8 241),.lit (.int .u8 241),.lit (.int .u8 241),.lit (.int .u8 241),.lit (.int .u8 241),.lit (.int .u8 241),.lit (.int .u8 241),.lit (.int .u8 241),.lit (.int .u8 241),.lit (.int .u8 241),.lit (.int .u8 241),.lit (.int .u8 241),.lit (.int .u8 241),.lit (.int .u8 241),.lit (.int .u8 241),.lit (.int .u8 2),.lit (.int .u8 2),.lit (.int .u8 2),.lit (.int .u8 2),.lit (.int .u8 2),.lit (.int .u8 2),.lit (.int .u8 2),.lit (.int .u8 2),.lit (.int .u8 2),.lit (.int .u8 2),.lit (.int .u8 2),.lit (.int .u8 2),.lit (.int .u8 2),.lit (.int .u8 2),.lit (.int .u8 2),.lit (.int .u8 2),.lit (.int .u8 2),.lit (.int .u8 2),.lit (.int .u8 2),.lit (.int .u8 2),.lit (.int .u8 2),.lit (.int .u8 2),.lit (.int .u8 2),.lit (.int .u8 2),.lit (.int .u8 2),.lit (.int .u8 2),.lit (.int .u8 2),.lit (.int .u8 2),.lit (.int .u8 2),.lit (.int .u8 2),.lit (.int .u8 19),.lit (.int .u8 3),.lit (.int .u8 3),.lit (.int .u8 3),.lit (.int .u8 3),.lit (.int .u8 3),.lit (.int .u8 3),.lit (.int .u8 3),.lit (.int .u8 3),.lit (.int .u8 3),.lit (.int .u8 3),.lit (.int .u8 3),.lit (.int .u8 3),.lit (.int .u8 35),.lit (.int .u8 3),.lit (.int .u8 3),.lit (.int .u8 52),.lit (.int .u8 4),.lit (.int .u8 4),.lit (.int .u8 4),.lit (.int .u8 68),.lit (.int .u8 241),.lit (.int .u8 241),.lit (.int .u8 241),.lit (.int .u8 241),.lit (.int .u8 241),.lit (.int .u8 241),.lit (.int .u8 241),.lit (.int .u8 241),.lit (.int .u8 241),.lit (.int .u8 241),.lit (.int .u8 241)],[.lit (.int .u8 128),.lit (.int .u8 191),.lit (.int .u8 160),.lit (.int .u8 191),.lit (.int .u8 128),.lit (.int .u8 159),.lit (.int .u8 144),.lit (.int .u8 191),.lit (.int .u8 128),.lit (.int .u8 143),.lit (.int .u8 0),.lit (.int .u8 0),.lit (.int .u8 0),.lit (.int .u8 0),.lit (.int .u8 0),.lit (.int .u8 0),.lit (.int .u8 0),.lit (.int .u8 0),.lit (.int .u8 0),.lit (.int .u8 0),.lit (.int .u8 0),.lit (.int .u8 0),.lit (.int .u8 0),.lit (.int .u8 0),.lit (.int .u8 0),.lit (.int .u8 0),.lit (.int .u8 0),.lit (.int .u8 0),.lit (.int .u8 0),.lit (.int .u8 0),.lit (.int .u8 0),.lit (.int .u8 0)]]
def X3:CF 3:=by refine⟨?_,?h⟩;rotate_left;conv=>lhs;cbv
abbrev o(n:Nat)(i:EI):EOp:=⟨some n,i,none⟩
abbrev q(n:Nat):Operand:=.tmp n
abbrev oM(n m:Nat):EOp:=⟨some n,.mov (.tmp m),none⟩
abbrev oA(n k m:Nat):EOp:=⟨some n,.fieldAddr k (.tmp m),none⟩
abbrev oL(n m:Nat):EOp:=⟨some n,.load false 1 (.tmp m),none⟩
abbrev oS(k n m:Nat):EOp:=⟨none,.store k (.tmp n) (.tmp m),none⟩
abbrev og(n:Nat)(i:EI)(g:Nat)(b:Bool):EOp:=⟨some n,i,some (g,b)⟩
abbrev tI:Option TypeDesc:=some (.int .i64)
abbrev kI(n:Int):Operand:=.const (.int .i64 n)
abbrev kT:Operand:=.const (.bool true)
abbrev kF:Operand:=.const (.bool false)
abbrev sQ(l:List EOp)(c:EC):EC:=.seq (.ops l) c
abbrev zaZ:List Value:=[(.bool false),(.int .i64 0),(.string ⟨#[]⟩),(.slice none 0 0)]
abbrev Q1:Operand:=.tmp 1
abbrev Q2:Operand:=.tmp 2
abbrev Q27:Operand:=.tmp 27
abbrev Q28:Operand:=.tmp 28
abbrev Q32:Operand:=.tmp 32
abbrev Q30:Operand:=.tmp 30
abbrev Q33:Operand:=.tmp 33
abbrev Q34:Operand:=.tmp 34
abbrev Q41:Operand:=.tmp 41
abbrev Q42:Operand:=.tmp 42
abbrev Q43:Operand:=.tmp 43
abbrev Q46:Operand:=.tmp 46
abbrev Q47:Operand:=.tmp 47
abbrev Q48:Operand:=.tmp 48
abbrev Q51:Operand:=.tmp 51
abbrev Q52:Operand:=.tmp 52
abbrev Q55:Operand:=.tmp 55
abbrev Q56:Operand:=.tmp 56
abbrev Q37:Operand:=.tmp 37
abbrev Q61:Operand:=.tmp 61
abbrev Q62:Operand:=.tmp 62
abbrev Q12:Operand:=.tmp 12
abbrev Q66:Operand:=.tmp 66
abbrev Q65:Operand:=.tmp 65
abbrev Q67:Operand:=.tmp 67
abbrev Q35:Operand:=.tmp 35
abbrev Q10:Operand:=.tmp 10
abbrev Q71:Operand:=.tmp 71
abbrev Q74:Operand:=.tmp 74
abbrev Q76:Operand:=.tmp 76
abbrev Q77:Operand:=.tmp 77
abbrev Q79:Operand:=.tmp 79
abbrev Q6:Operand:=.tmp 6
abbrev Q78:Operand:=.tmp 78
abbrev Q75:Operand:=.tmp 75
abbrev Q73:Operand:=.tmp 73
abbrev Q86:Operand:=.tmp 86
abbrev Q84:Operand:=.tmp 84
abbrev Q87:Operand:=.tmp 87
abbrev Q88:Operand:=.tmp 88
abbrev Q91:Operand:=.tmp 91
abbrev Q92:Operand:=.tmp 92
abbrev Q93:Operand:=.tmp 93
abbrev Q95:Operand:=.tmp 95
abbrev Q15:Operand:=.tmp 15
abbrev Q16:Operand:=.tmp 16
abbrev Q99:Operand:=.tmp 99
abbrev Q98:Operand:=.tmp 98
abbrev Q97:Operand:=.tmp 97
abbrev Q17:Operand:=.tmp 17
abbrev Q5:Operand:=.tmp 5
abbrev Q23:Operand:=.tmp 23
abbrev Q38:Operand:=.tmp 38
abbrev Q44:Operand:=.tmp 44
abbrev Q49:Operand:=.tmp 49
abbrev Q57:Operand:=.tmp 57
abbrev Q81:Operand:=.tmp 81
abbrev Q82:Operand:=.tmp 82
abbrev Q0:Operand:=.tmp 0
abbrev Q19:Operand:=.tmp 19
abbrev Q22:Operand:=.tmp 22
abbrev Q24:Operand:=.tmp 24
abbrev Q26:Operand:=.tmp 26
abbrev Q25:Operand:=.tmp 25
abbrev Q31:Operand:=.tmp 31
abbrev Q3:Operand:=.tmp 3
abbrev Q4:Operand:=.tmp 4
abbrev Q39:Operand:=.tmp 39
abbrev Q45:Operand:=.tmp 45
abbrev Q60:Operand:=.tmp 60
abbrev Q63:Operand:=.tmp 63
abbrev Q68:Operand:=.tmp 68
abbrev Q58:Operand:=.tmp 58
abbrev Q72:Operand:=.tmp 72
abbrev Q85:Operand:=.tmp 85
abbrev Q83:Operand:=.tmp 83
abbrev Q90:Operand:=.tmp 90
abbrev Q94:Operand:=.tmp 94
abbrev Q96:Operand:=.tmp 96
abbrev Q36:Operand:=.tmp 36
abbrev Q64:Operand:=.tmp 64
abbrev Q69:Operand:=.tmp 69
abbrev Q70:Operand:=.tmp 70
abbrev Q80:Operand:=.tmp 80
abbrev Q9:Operand:=.tmp 9
abbrev Q13:Operand:=.tmp 13
abbrev Q7:Operand:=.tmp 7
abbrev Q8:Operand:=.tmp 8
abbrev Q18:Operand:=.tmp 18
abbrev Q11:Operand:=.tmp 11
abbrev Q21:Operand:=.tmp 21
abbrev Q20:Operand:=.tmp 20
abbrev Q53:Operand:=.tmp 53
abbrev Q54:Operand:=.tmp 54
abbrev Q59:Operand:=.tmp 59
abbrev Q89:Operand:=.tmp 89
abbrev Q14:Operand:=.tmp 14
abbrev Q40:Operand:=.tmp 40
abbrev Q50:Operand:=.tmp 50
abbrev Q29:Operand:=.tmp 29
def F3:FC:=X3.1
theorem F3_ok:Bm Tryz.prog 3=some F3:=X3.2
def X4:CF 4:=by refine⟨?_,?h⟩;rotate_left;conv=>lhs;cbv
def F4:FC:=X4.1
theorem F4_ok:Bm Tryz.prog 4=some F4:=X4.2
def X5:CF 5:=by refine⟨?_,?h⟩;rotate_left;conv=>lhs;cbv
def F5:FC:=X5.1
theorem F5_ok:Bm Tryz.prog 5=some F5:=X5.2
def X6:CF 6:=by refine⟨?_,?h⟩;rotate_left;conv=>lhs;cbv
def F6:FC:=X6.1
theorem F6_ok:Bm Tryz.prog 6=some F6:=X6.2
def X7:CF 7:=by refine⟨?_,?h⟩;rotate_left;conv=>lhs;cbv
def F7:FC:=X7.1
theorem F7_ok:Bm Tryz.prog 7=some F7:=X7.2
def X8:CF 8:=by refine⟨?_,?h⟩;rotate_left;conv=>lhs;cbv
def F8:FC:=X8.1
theorem F8_ok:Bm Tryz.prog 8=some F8:=X8.2
def X9:CF 9:=by refine⟨?_,?h⟩;rotate_left;conv=>lhs;cbv
def F9:FC:=X9.1
theorem F9_ok:Bm Tryz.prog 9=some F9:=X9.2
def X10:CF 10:=by refine⟨?_,?h⟩;rotate_left;conv=>lhs;cbv
def F10:FC:=X10.1
theorem F10_ok:Bm Tryz.prog 10=some F10:=X10.2
def X11:CF 11:=by refine⟨?_,?h⟩;rotate_left;conv=>lhs;cbv
def F11:FC:=X11.1
theorem F11_ok:Bm Tryz.prog 11=some F11:=X11.2
def X12:CF 12:=by refine⟨?_,?h⟩;rotate_left;conv=>lhs;cbv
def F12:FC:=X12.1
theorem F12_ok:Bm Tryz.prog 12=some F12:=X12.2
def X13:CF 13:=by refine⟨?_,?h⟩;rotate_left;conv=>lhs;cbv
def F13:FC:=X13.1
theorem F13_ok:Bm Tryz.prog 13=some F13:=X13.2
def X14:CF 14:=by refine⟨?_,?h⟩;rotate_left;conv=>lhs;cbv
def F14:FC:=X14.1
theorem F14_ok:Bm Tryz.prog 14=some F14:=X14.2
def X15:CF 15:=by refine⟨?_,?h⟩;rotate_left;conv=>lhs;cbv
def F15:FC:=X15.1
theorem F15_ok:Bm Tryz.prog 15=some F15:=X15.2
def X16:CF 16:=by refine⟨?_,?h⟩;rotate_left;conv=>lhs;cbv
def F16:FC:=X16.1
theorem F16_ok:Bm Tryz.prog 16=some F16:=X16.2
def X17:CF 17:=by refine⟨?_,?h⟩;rotate_left;conv=>lhs;cbv
def F17:FC:=X17.1
theorem F17_ok:Bm Tryz.prog 17=some F17:=X17.2
def X18:CF 18:=by refine⟨?_,?h⟩;rotate_left;conv=>lhs;cbv
def F18:FC:=X18.1
theorem F18_ok:Bm Tryz.prog 18=some F18:=X18.2
def X19:CF 19:=by refine⟨?_,?h⟩;rotate_left;conv=>lhs;cbv
def F19:FC:=X19.1
theorem F19_ok:Bm Tryz.prog 19=some F19:=X19.2
def X20:CF 20:=by refine⟨?_,?h⟩;rotate_left;conv=>lhs;cbv
def F20:FC:=X20.1
theorem F20_ok:Bm Tryz.prog 20=some F20:=X20.2
def X21:CF 21:=by refine⟨?_,?h⟩;rotate_left;conv=>lhs;cbv
def F21:FC:=X21.1
theorem F21_ok:Bm Tryz.prog 21=some F21:=X21.2
def X22:CF 22:=by refine⟨?_,?h⟩;rotate_left;conv=>lhs;cbv
def F22:FC:=X22.1
theorem F22_ok:Bm Tryz.prog 22=some F22:=X22.2
def X23:CF 23:=by refine⟨?_,?h⟩;rotate_left;conv=>lhs;cbv
def F23:FC:=X23.1
theorem F23_ok:Bm Tryz.prog 23=some F23:=X23.2
def X24:CF 24:=by refine⟨?_,?h⟩;rotate_left;conv=>lhs;cbv
def F24:FC:=X24.1
theorem F24_ok:Bm Tryz.prog 24=some F24:=X24.2
def X25:CF 25:=by refine⟨?_,?h⟩;rotate_left;conv=>lhs;cbv
def F25:FC:=X25.1
theorem F25_ok:Bm Tryz.prog 25=some F25:=X25.2
def X26:CF 26:=by refine⟨?_,?h⟩;rotate_left;conv=>lhs;cbv
def F26:FC:=X26.1
theorem F26_ok:Bm Tryz.prog 26=some F26:=X26.2
def X27:CF 27:=by refine⟨?_,?h⟩;rotate_left;conv=>lhs;cbv
def F27:FC:=X27.1
theorem F27_ok:Bm Tryz.prog 27=some F27:=X27.2
def X28:CF 28:=by refine⟨?_,?h⟩;rotate_left;conv=>lhs;cbv
def F28:FC:=X28.1
theorem F28_ok:Bm Tryz.prog 28=some F28:=X28.2
def X29:CF 29:=by refine⟨?_,?h⟩;rotate_left;conv=>lhs;cbv
def F29:FC:=X29.1
theorem F29_ok:Bm Tryz.prog 29=some F29:=X29.2
def X30:CF 30:=by refine⟨?_,?h⟩;rotate_left;conv=>lhs;cbv
def F30:FC:=X30.1
theorem F30_ok:Bm Tryz.prog 30=some F30:=X30.2
def X31:CF 31:=by refine⟨?_,?h⟩;rotate_left;conv=>lhs;cbv
def F31:FC:=X31.1
theorem F31_ok:Bm Tryz.prog 31=some F31:=X31.2
def X34:CF 34:=by refine⟨?_,?h⟩;rotate_left;conv=>lhs;cbv
def F34:FC:=X34.1
theorem F34_ok:Bm Tryz.prog 34=some F34:=X34.2
def X35:CF 35:=by refine⟨?_,?h⟩;rotate_left;conv=>lhs;cbv
def F35:FC:=X35.1
theorem F35_ok:Bm Tryz.prog 35=some F35:=X35.2
def X36:CF 36:=by refine⟨?_,?h⟩;rotate_left;conv=>lhs;cbv
def F36:FC:=X36.1
theorem F36_ok:Bm Tryz.prog 36=some F36:=X36.2
def X37:CF 37:=by refine⟨?_,?h⟩;rotate_left;conv=>lhs;cbv
def F37:FC:=X37.1
theorem F37_ok:Bm Tryz.prog 37=some F37:=X37.2
def X38:CF 38:=by refine⟨?_,?h⟩;rotate_left;conv=>lhs;cbv
def F38:FC:=X38.1
theorem F38_ok:Bm Tryz.prog 38=some F38:=X38.2
def X39:CF 39:=by refine⟨?_,?h⟩;rotate_left;conv=>lhs;cbv
def F39:FC:=X39.1
theorem F39_ok:Bm Tryz.prog 39=some F39:=X39.2
def X40:CF 40:=by refine⟨?_,?h⟩;rotate_left;conv=>lhs;cbv
def F40:FC:=X40.1
theorem F40_ok:Bm Tryz.prog 40=some F40:=X40.2
def X42:CF 42:=by refine⟨?_,?h⟩;rotate_left;conv=>lhs;cbv
def F42:FC:=X42.1
theorem F42_ok:Bm Tryz.prog 42=some F42:=X42.2
def X43:CF 43:=by refine⟨?_,?h⟩;rotate_left;conv=>lhs;cbv
def F43:FC:=X43.1
theorem F43_ok:Bm Tryz.prog 43=some F43:=X43.2
def X44:CF 44:=by refine⟨?_,?h⟩;rotate_left;conv=>lhs;cbv
def F44:FC:=X44.1
theorem F44_ok:Bm Tryz.prog 44=some F44:=X44.2
def X45:CF 45:=by refine⟨?_,?h⟩;rotate_left;conv=>lhs;cbv
def F45:FC:=X45.1
theorem F45_ok:Bm Tryz.prog 45=some F45:=X45.2
def X46:CF 46:=by refine⟨?_,?h⟩;rotate_left;conv=>lhs;cbv
def F46:FC:=X46.1
theorem F46_ok:Bm Tryz.prog 46=some F46:=X46.2
def X47:CF 47:=by refine⟨?_,?h⟩;rotate_left;conv=>lhs;cbv
def F47:FC:=X47.1
theorem F47_ok:Bm Tryz.prog 47=some F47:=X47.2
def X48:CF 48:=by refine⟨?_,?h⟩;rotate_left;conv=>lhs;cbv
def F48:FC:=X48.1
theorem F48_ok:Bm Tryz.prog 48=some F48:=X48.2
def X49:CF 49:=by refine⟨?_,?h⟩;rotate_left;conv=>lhs;cbv
def F49:FC:=X49.1
theorem F49_ok:Bm Tryz.prog 49=some F49:=X49.2
def X51:CF 51:=by refine⟨?_,?h⟩;rotate_left;conv=>lhs;cbv
def F51:FC:=X51.1
theorem F51_ok:Bm Tryz.prog 51=some F51:=X51.2
def X53:CF 53:=by refine⟨?_,?h⟩;rotate_left;conv=>lhs;cbv
def F53:FC:=X53.1
theorem F53_ok:Bm Tryz.prog 53=some F53:=X53.2
def X54:CF 54:=by refine⟨?_,?h⟩;rotate_left;conv=>lhs;cbv
def F54:FC:=X54.1
theorem F54_ok:Bm Tryz.prog 54=some F54:=X54.2
def X55:CF 55:=by refine⟨?_,?h⟩;rotate_left;conv=>lhs;cbv
def F55:FC:=X55.1
theorem F55_ok:Bm Tryz.prog 55=some F55:=X55.2
def X56:CF 56:=by refine⟨?_,?h⟩;rotate_left;conv=>lhs;cbv
def F56:FC:=X56.1
theorem F56_ok:Bm Tryz.prog 56=some F56:=X56.2
def X57:CF 57:=by refine⟨?_,?h⟩;rotate_left;conv=>lhs;cbv
def F57:FC:=X57.1
theorem F57_ok:Bm Tryz.prog 57=some F57:=X57.2
def X58:CF 58:=by refine⟨?_,?h⟩;rotate_left;conv=>lhs;cbv
def F58:FC:=X58.1
theorem F58_ok:Bm Tryz.prog 58=some F58:=X58.2
def X59:CF 59:=by refine⟨?_,?h⟩;rotate_left;conv=>lhs;cbv
def F59:FC:=X59.1
theorem F59_ok:Bm Tryz.prog 59=some F59:=X59.2
def X60:CF 60:=by refine⟨?_,?h⟩;rotate_left;conv=>lhs;cbv
def F60:FC:=X60.1
theorem F60_ok:Bm Tryz.prog 60=some F60:=X60.2
def F61 : FC := ⟨180, [.cell 8 true 4, .tmp 9], (sQ [o 5 (.box Q1), o 6 (.box Q2), o 8 (.alloc zaZ), o 9 (.mov kF)] (sQ [o 10 (.alloc zaZ)] (.seq (sQ [oA 25 2 5, oA 26 0 25, oL 27 26] (.block 0 (sQ [o 29 (.bin .eql Q27 (kI 17) tI), oM 28 29] (.cond Q28 (.seq (sQ [o 11 (.mov (kI 0))] (.block 1 (.loop (.seq (sQ [oM 30 11, oA 31 4 6, oL 32 31, o 33 (.len 1 Q32), o 34 (.bin .lss Q30 Q33 tI)]
 (.cond Q34 .skip (.exit 1)))
 (.seq (.block 2 (sQ [oM 38 0, oA 39 2 5, oA 40 4 39, oL 41 40, oM 42 11, o 43 (.indexAddr 7 Q41 Q42), o 44 (.load true 7 Q43), oA 45 4 6, oL 46 45, oM 47 11, o 48 (.indexAddr 6 Q46 Q47), o 49 (.load true 6 Q48), oA 50 4 6, oL 51 50, oM 52 11, o 53 (.indexAddr 6 Q51 Q52), oA 54 1 53, oL 55 54, oM 56 3, o 57 (.bin .add Q55 Q56 tI), o 58 (.call 38 [Q38, Q44, Q49, Q57]), oM 37 58, o 59 (.extract Q37 0), o 60 (.extract Q37 1), o 12 (.alloc zaZ), oS 4 12 59, oM 13 60]
 (.seq (sQ [oM 61 13, o 62 (.un .not Q61)] (.cond Q62 (sQ [o 63 (.build zaZ []), oS 4 8 63, o 9 (.mov kF)] .ret) .skip)) (.ops [oA 64 3 10, oL 65 64, o 66 (.load true 4 Q12), o 67 (.buildSlice 4 1 zaZ [(0, 4, Q66)]), o 68 (.append 4 56 Q65 Q67), oA 69 3 10, oS 1 69 68])))) (.ops [oM 35 11, o 36 (.bin .add Q35 (kI 1) tI), oM 11 36])))))) (sQ [o 70 (.load true 4 Q10), oS 4 8 70, o 9 (.mov kT)]
 .ret)) (sQ [o 72 (.bin .eql Q27 (kI 18) tI), oM 71 72] (.cond Q71 (sQ [oA 73 3 6, oL 74 73, o 75 (.indexAddr 1 Q74 (kI 0)), oL 76 75, oM 77 3, o 78 (.indexAddr 1 Q76 Q77), oL 79 78, o 80 (.conv .i64 Q79), o 81 (.load true 6 Q6), oM 82 3, o 83 (.call 86 [Q81, Q82]), ⟨none, .again 79 false 1 Q78, none⟩, ⟨none, .again 76 false 1 Q75, none⟩, ⟨none, .again 74 false 1 Q73, none⟩, oM 14 80, oM 15 83]
 (.seq (sQ [oM 84 14, oA 85 4 6, oL 86 85, o 87 (.len 1 Q86), o 88 (.bin .geq Q84 Q87 tI)] (.cond Q88 (sQ [o 89 (.load true 4 Q10), oS 4 8 89, o 9 (.mov kF)] .ret) .skip)) (sQ [oA 90 4 6, oL 91 90, oM 92 14, o 93 (.indexAddr 6 Q91 Q92), o 94 (.load true 6 Q93), o 16 (.alloc [.int .i64 0, .int .i64 0, .int .i64 0, .slice none 0 0, .slice none 0 0, .slice none 0 0]), oS 6 16 94]
 (.seq (sQ [oM 95 15, o 96 (.bin .lss Q95 (kI 0) tI), oM 97 96, og 98 (.mov Q15) 97 false, og 99 (.fieldAddr 0 Q16) 97 false, og 100 (.load false 1 Q99) 97 false, og 101 (.bin .geq Q98 (q 100) tI) 97 false, o 102 (.pick Q97 kT (q 101))] (.cond (q 102) (sQ [o 103 (.load true 4 Q10), oS 4 8 103, o 9 (.mov kF)] .ret) .skip))
 (sQ [oM 105 0, oA 106 2 5, oA 107 4 106, oL 108 107, oM 109 14, o 110 (.indexAddr 7 (q 108) (q 109)), o 111 (.load true 7 (q 110)), o 112 (.load true 6 Q16), oA 113 1 16, oL 114 113, oM 115 15, o 116 (.bin .add (q 114) (q 115) tI), o 117 (.call 38 [.tmp 105, .tmp 111, .tmp 112, .tmp 116]), oM 104 117, o 118 (.extract (q 104) 0), o 119 (.extract (q 104) 1), o 17 (.alloc zaZ), oS 4 17 118, oM 18 119]
 (.seq (sQ [oM 120 18, o 121 (.un .not (q 120))] (.cond (q 121) (sQ [o 122 (.build zaZ []), oS 4 8 122, o 9 (.mov kF)] .ret) .skip)) (sQ [oM 123 14, oA 124 1 10, oS 1 124 123] (sQ [oA 125 3 10, oL 126 125, o 127 (.load true 4 Q17), o 128 (.buildSlice 4 1 zaZ [(0, 4, (q 127))]), o 129 (.append 4 56 (q 126) (q 128)), oA 130 3 10, oS 1 130 129]
 (sQ [o 131 (.load true 4 Q10), oS 4 8 131, o 9 (.mov kT)] .ret))))))))) .skip)))))) (sQ [o 133 (.load true 7 Q5), o 134 (.load true 6 Q6), oM 135 3, o 136 (.call 88 [.tmp 133, .tmp 134, .tmp 135]), oM 132 136, o 137 (.extract (q 132) 0), o 138 (.extract (q 132) 1), o 139 (.extract (q 132) 2), oM 19 137, oM 20 138, oM 21 139] (.seq (sQ [oM 140 21, o 141 (.un .not (q 140))] (.cond (q 141)
 (sQ [o 142 (.load true 4 Q10), oS 4 8 142, o 9 (.mov kF)] .ret) .skip)) (.seq (sQ [oM 143 19, oM 22 143] (.block 3 (.loop (.seq (sQ [oM 144 22, oM 145 20, o 146 (.bin .lss (q 144) (q 145) tI)] (.cond (q 146) .skip (.exit 3)))
 (.seq (.block 4 (sQ [oM 150 0, oA 151 2 5, oA 152 4 151, oL 153 152, o 154 (.indexAddr 7 (q 153) (kI 0)), o 155 (.load true 7 (q 154)), oA 156 4 6, oL 157 156, o 158 (.indexAddr 6 (q 157) (kI 0)), o 159 (.load true 6 (q 158)), oA 160 4 6, oL 161 160, o 162 (.indexAddr 6 (q 161) (kI 0)), oA 163 1 162, oL 164 163, oM 165 22, o 166 (.bin .add (q 164) (q 165) tI), o 167 (.call 38 [.tmp 150, .tmp 155, .tmp 159, .tmp 166]), oM 149 167, o 168 (.extract (q 149) 0), o 169 (.extract (q 149) 1), o 23 (.alloc zaZ), oS 4 23 168, oM 24 169]
 (.seq (sQ [oM 170 24, o 171 (.un .not (q 170))] (.cond (q 171) (sQ [o 172 (.build zaZ []), oS 4 8 172, o 9 (.mov kF)] .ret) .skip)) (.ops [oA 173 3 10, oL 174 173, o 175 (.load true 4 Q23), o 176 (.buildSlice 4 1 zaZ [(0, 4, (q 175))]), o 177 (.append 4 56 (q 174) (q 176)), oA 178 3 10, oS 1 178 177])))) (.ops [oM 147 22, o 148 (.bin .add (q 147) (kI 1) tI), oM 22 148]))))))
 (sQ [o 179 (.load true 4 Q10), oS 4 8 179, o 9 (.mov kT)] .ret)))))))⟩
theorem F61_ok:Bm Tryz.prog 61=some F61:=by kernel_rfl
def X62:CF 62:=by refine⟨?_,?h⟩;rotate_left;conv=>lhs;cbv
def F62:FC:=X62.1
theorem F62_ok:Bm Tryz.prog 62=some F62:=X62.2
def X63:CF 63:=by refine⟨?_,?h⟩;rotate_left;conv=>lhs;cbv
def F63:FC:=X63.1
theorem F63_ok:Bm Tryz.prog 63=some F63:=X63.2
def X64:CF 64:=by refine⟨?_,?h⟩;rotate_left;conv=>lhs;cbv
def F64:FC:=X64.1
theorem F64_ok:Bm Tryz.prog 64=some F64:=X64.2
def X65:CF 65:=by refine⟨?_,?h⟩;rotate_left;conv=>lhs;cbv
def F65:FC:=X65.1
theorem F65_ok:Bm Tryz.prog 65=some F65:=X65.2
def X66:CF 66:=by refine⟨?_,?h⟩;rotate_left;conv=>lhs;cbv
def F66:FC:=X66.1
theorem F66_ok:Bm Tryz.prog 66=some F66:=X66.2
def X67:CF 67:=by refine⟨?_,?h⟩;rotate_left;conv=>lhs;cbv
def F67:FC:=X67.1
theorem F67_ok:Bm Tryz.prog 67=some F67:=X67.2
def X68:CF 68:=by refine⟨?_,?h⟩;rotate_left;conv=>lhs;cbv
def F68:FC:=X68.1
theorem F68_ok:Bm Tryz.prog 68=some F68:=X68.2
def X69:CF 69:=by refine⟨?_,?h⟩;rotate_left;conv=>lhs;cbv
def F69:FC:=X69.1
theorem F69_ok:Bm Tryz.prog 69=some F69:=X69.2
def X70:CF 70:=by refine⟨?_,?h⟩;rotate_left;conv=>lhs;cbv
def F70:FC:=X70.1
theorem F70_ok:Bm Tryz.prog 70=some F70:=X70.2
def X71:CF 71:=by refine⟨?_,?h⟩;rotate_left;conv=>lhs;cbv
def F71:FC:=X71.1
theorem F71_ok:Bm Tryz.prog 71=some F71:=X71.2
def X72:CF 72:=by refine⟨?_,?h⟩;rotate_left;conv=>lhs;cbv
def F72:FC:=X72.1
theorem F72_ok:Bm Tryz.prog 72=some F72:=X72.2
def X73:CF 73:=by refine⟨?_,?h⟩;rotate_left;conv=>lhs;cbv
def F73:FC:=X73.1
theorem F73_ok:Bm Tryz.prog 73=some F73:=X73.2
def X74:CF 74:=by refine⟨?_,?h⟩;rotate_left;conv=>lhs;cbv
def F74:FC:=X74.1
theorem F74_ok:Bm Tryz.prog 74=some F74:=X74.2
def X75:CF 75:=by refine⟨?_,?h⟩;rotate_left;conv=>lhs;cbv
def F75:FC:=X75.1
theorem F75_ok:Bm Tryz.prog 75=some F75:=X75.2
def F76 : FC := ⟨207, [.tmp 6], (sQ [o 3 (.box Q0), o 4 (.box Q1), o 6 (.mov (.const (.slice none 0 0)))] (sQ [oA 19 2 3, o 20 (.load true 5 Q19), o 7 (.alloc [.int .i64 0, .int .i64 0, .int .i64 0, .int .i64 0, .slice none 0 0]), oS 5 7 20] (sQ [oA 21 0 4, oL 22 21, o 23 (.mkSlice 1 8 [.int .i64 0] Q22 Q22), oM 8 23] (sQ [o 9 (.mov (kI 0))]
 (.seq (sQ [oM 24 8, o 25 (.len 1 Q24), o 26 (.mov (kI 0))] (.block 0 (.loop (sQ [o 27 (.bin .lss Q26 Q25 tI)] (.seq (.cond Q27 .skip (.exit 0)) (.seq (.block 1 (sQ [oM 28 26, oM 10 28] (sQ [oA 29 1 4, oL 30 29, oM 31 10, o 32 (.bin .add Q30 Q31 tI), oM 11 32] (sQ [oM 33 8, oM 34 10, o 35 (.indexAddr 1 Q33 Q34), ⟨none, .store 1 Q35 (kI 16), none⟩]
 (.seq (sQ [o 36 (.load true 7 Q3), o 37 (.load true 6 Q4), oM 38 11, o 39 (.call 99 [Q36, Q37, Q38])] (.cond Q39 (.exit 1) .skip)) (sQ [o 12 (.mov (kI 0)), o 13 (.mov (kI 0))] (.seq (sQ [oA 40 0 7, oL 41 40] (.block 2 (sQ [o 43 (.bin .eql Q41 (kI 14) tI), oM 42 43] (.cond Q42
 (.ops [oM 44 8, oM 45 10, o 46 (.indexAddr 1 Q44 Q45), oL 47 46, oA 48 1 7, oL 49 48, o 50 (.bin .add Q47 Q49 tI), o 51 (.indexAddr 1 Q44 Q45), oS 1 51 50]) (.seq (sQ [o 53 (.bin .eql Q41 (kI 12) tI), oM 52 53] (.cond Q52 .skip (.ops [o 54 (.bin .eql Q41 (kI 13) tI), oM 52 54]))) (.cond Q52
 (.ops [oM 55 8, oM 56 10, o 57 (.indexAddr 1 Q55 Q56), oL 58 57, oA 59 3 4, oL 60 59, o 61 (.indexAddr 1 Q60 (kI 1)), oL 62 61, oM 63 11, o 64 (.bin .add Q63 (kI 1) tI), oA 66 3 4, oL 67 66, o 68 (.indexAddr 1 Q67 (kI 1)), oL 69 68, oM 70 11, o 65 (.call 98 [Q62, Q64]), ⟨none, .again 69 false 1 Q68, none⟩, ⟨none, .again 67 false 1 Q66, none⟩, ⟨none, .again 58 false 1 Q57, none⟩, o 71 (.call 98 [Q69, Q70]), ⟨none, .again 58 false 1 Q57, none⟩, o 72 (.bin .sub Q65 Q71 tI), o 73 (.bin .add Q58 Q72 tI), o 74 (.indexAddr 1 Q55 Q56), oS 1 74 73])
 (sQ [o 76 (.bin .eql Q41 (kI 15) tI), oM 75 76] (.cond Q75 (.ops [oA 77 3 4, oL 78 77, o 79 (.indexAddr 1 Q78 (kI 1)), oL 80 79, oM 81 11, oA 83 3 4, oL 84 83, o 85 (.indexAddr 1 Q84 (kI 1)), oL 86 85, oM 87 11, o 88 (.bin .add Q87 (kI 1) tI), o 82 (.call 98 [Q80, Q81]), ⟨none, .again 86 false 1 Q85, none⟩, ⟨none, .again 84 false 1 Q83, none⟩, o 89 (.call 98 [Q86, Q88]), oM 12 82, oM 13 89])
 (sQ [o 91 (.bin .eql Q41 (kI 16) tI), oM 90 91] (.cond Q90 (.ops [oM 92 11, oA 93 1 7, oL 94 93, o 95 (.bin .mul Q92 Q94 tI), oM 96 11, o 97 (.bin .add Q96 (kI 1) tI), oA 98 1 7, oL 99 98, o 100 (.bin .mul Q97 Q99 tI), oM 12 95, oM 13 100]) (sQ [o 102 (.bin .eql Q41 (kI 17) tI), oM 101 102] (.cond (q 101) (sQ [oM 103 2, o 104 (.len 1 (q 103)), o 105 (.mov (kI 0))]
 (.block 3 (.loop (sQ [o 106 (.bin .lss (q 105) (q 104) tI)] (.seq (.cond (q 106) .skip (.exit 3)) (.seq (.block 4 (sQ [o 107 (.indexAddr 1 (q 103) (q 105)), oL 108 107, oM 15 108]
 (.ops [oM 109 8, oM 110 10, o 111 (.indexAddr 1 (q 109) (q 110)), oL 112 111, oM 113 15, oM 114 11, o 115 (.indexAddr 1 (q 113) (q 114)), oL 116 115, o 117 (.bin .add (q 112) (q 116) tI), o 118 (.indexAddr 1 (q 109) (q 110)), oS 1 118 117]))) (.ops [o 119 (.bin .add (q 105) (kI 1) tI), oM 105 119]))))))) (sQ [o 121 (.bin .eql Q41 (kI 18) tI), oM 120 121] (.cond (q 120)
 (.ops [oM 122 8, oM 123 10, o 124 (.indexAddr 1 (q 122) (q 123)), oL 125 124, oM 126 2, oA 127 3 4, oL 128 127, o 129 (.indexAddr 1 (q 128) (kI 0)), oL 130 129, oM 131 11, o 132 (.indexAddr 1 (q 130) (q 131)), oL 133 132, o 134 (.indexAddr 1 (q 126) (q 133)), oL 135 134, oA 136 3 4, oL 137 136, o 138 (.indexAddr 1 (q 137) (kI 1)), oL 139 138, oM 140 11, o 141 (.call 98 [.tmp 139, .tmp 140]), ⟨none, .again 135 false 1 (q 134), none⟩, ⟨none, .again 133 false 1 (q 132), none⟩, ⟨none, .again 130 false 1 (q 129), none⟩, ⟨none, .again 128 false 1 (q 127), none⟩, ⟨none, .again 125 false 1 (q 124), none⟩, o 142 (.indexAddr 1 (q 135) (q 141)), oL 143 142, o 144 (.bin .add (q 125) (q 143) tI), o 145 (.indexAddr 1 (q 122) (q 123)), oS 1 145 144])
 (sQ [o 147 (.bin .eql Q41 (kI 19) tI), oM 146 147] (.cond (q 146)
 (.ops [oM 148 8, oM 149 10, oM 150 2, o 151 (.indexAddr 1 (q 150) (kI 0)), oL 152 151, o 153 (.load true 7 Q3), o 154 (.load true 6 Q4), oM 155 11, o 156 (.call 100 [.tmp 153, .tmp 154, .tmp 155]), ⟨none, .again 152 false 1 (q 151), none⟩, o 157 (.indexAddr 1 (q 152) (q 156)), oL 158 157, o 159 (.indexAddr 1 (q 148) (q 149)), oS 1 159 158]) (sQ [o 161 (.bin .eql Q41 (kI 20) tI), oM 160 161]
 (.cond (q 160) (sQ [oA 162 4 4, oL 163 162, o 164 (.indexAddr 6 (q 163) (kI 0)), o 165 (.load true 6 (q 164)), o 16 (.alloc [.int .i64 0, .int .i64 0, .int .i64 0, .slice none 0 0, .slice none 0 0, .slice none 0 0]), oS 6 16 165]
 (.seq (.block 5 (.loop (.seq (sQ [oA 166 3 16, oL 167 166, o 168 (.indexAddr 1 (q 167) (kI 1)), oL 169 168, oA 170 1 16, oL 171 170, oM 172 9, o 173 (.bin .add (q 171) (q 172) tI), oM 175 11, o 174 (.call 98 [.tmp 169, .tmp 173]), o 176 (.bin .leq (q 174) (q 175) tI)] (.cond (q 176) .skip (.exit 5))) (.block 6 (.ops [oM 177 9, o 178 (.bin .add (q 177) (kI 1) tI), oM 9 178])))))
 (.ops [oM 179 8, oM 180 10, oM 181 2, o 182 (.indexAddr 1 (q 181) (kI 1)), oL 183 182, oM 184 9, o 185 (.indexAddr 1 (q 183) (q 184)), oL 186 185, o 187 (.indexAddr 1 (q 179) (q 180)), oS 1 187 186]))) .skip)))))))))))))))))) (sQ [oM 188 2, oM 189 12, oM 190 13, o 191 (.call 101 [.tmp 188, .tmp 189, .tmp 190]), o 192 (.len 1 (q 191)), o 193 (.mov (kI 0))]
 (.block 7 (.loop (sQ [o 194 (.bin .lss (q 193) (q 192) tI)] (.seq (.cond (q 194) .skip (.exit 7)) (.seq (.block 8 (sQ [o 195 (.indexAddr 1 (q 191) (q 193)), oL 196 195, oM 18 196] (.ops [oM 197 8, oM 198 10, o 199 (.indexAddr 1 (q 197) (q 198)), oL 200 199, oM 201 18, o 202 (.bin .add (q 200) (q 201) tI), o 203 (.indexAddr 1 (q 197) (q 198)), oS 1 203 202])))
 (.ops [o 204 (.bin .add (q 193) (kI 1) tI), oM 193 204])))))))))))))) (.ops [o 205 (.bin .add Q26 (kI 1) tI), oM 26 205]))))))) (sQ [oM 206 8, oM 6 206] .ret))))))⟩
theorem F76_ok:Bm Tryz.prog 76=some F76:=by kernel_rfl
def F77 : FC := ⟨21, [.cell 6 true 4], (sQ [o 6 (.alloc zaZ)] (.seq (sQ [oM 7 0, oM 8 1, o 9 (.call 102 [Q7, Q8])] (.cond Q9 (sQ [oM 10 2, o 11 (.call 103 [Q10, (kI 16)])] (sQ [o 12 (.build zaZ [(0, 1, kT)]), oS 4 6 12] .ret)) .skip))
 (sQ [oM 13 0, o 14 (.nilCheck Q13), oA 15 16 14, oL 16 15, oM 17 0, oM 18 1, oM 19 2, o 20 (.invoke Q16 "colonnade/array.read" [(137, 155), (138, 162), (139, 165), (140, 166), (141, 167), (142, 169), (143, 171)] [Q17, Q18, Q19]), oS 4 6 20] .ret)))⟩
theorem F77_ok:Bm Tryz.prog 77=some F77:=by kernel_rfl
def F79 : FC := ⟨219, [.tmp 6], (sQ [o 4 (.box Q1), o 5 (.box Q2), o 6 (.mov kF)] (sQ [oM 8 0, o 9 (.nilCheck Q8), oA 10 0 9, oL 11 10, o 12 (.bin .sub Q11 (kI 16) tI), o 13 (.nilCheck Q8), oA 14 0 13, oS 1 14 12]
 (.seq (sQ [oM 15 0, o 16 (.nilCheck Q15), oA 17 0 16, oL 18 17, o 19 (.bin .lss Q18 (kI 0) tI), oM 20 19, og 21 (.fieldAddr 2 Q5) 20 false, og 22 (.load false 1 Q21) 20 false, og 23 (.len 0 Q22) 20 false, og 24 (.mov Q0) 20 false, og 25 (.nilCheck Q24) 20 false, og 26 (.fieldAddr 0 Q25) 20 false, og 27 (.load false 1 Q26) 20 false, og 28 (.bin .gtr Q23 Q27 tI) 20 false, o 29 (.pick Q20 kT Q28), oM 30 29, og 31 (.fieldAddr 3 Q5) 30 false, og 32 (.load false 1 Q31) 30 false, og 33 (.len 1 Q32) 30 false, og 34 (.bin .gtr Q33 (kI 4096) tI) 30 false, o 35 (.pick Q30 kT Q34)]
 (.cond Q35 (sQ [o 6 (.mov kF)] .ret) .skip)) (sQ [oM 36 0, o 37 (.nilCheck Q36), oA 38 0 37, oL 39 38, oA 40 2 5, oL 41 40, o 42 (.len 0 Q41), o 43 (.bin .sub Q39 Q42 tI), o 44 (.nilCheck Q36), oA 45 0 44, oS 1 45 43] (.seq (sQ [oA 46 0 5, oL 47 46] (.cond Q47
 (sQ [oA 48 1 5, oL 49 48, o 50 (.bin .eql Q49 (kI 0) tI), oM 51 50, og 52 (.fieldAddr 2 Q5) 51 true, og 53 (.load false 1 Q52) 51 true, ⟨some 54, .bin .eql Q53 (.const (.string ⟨#[]⟩)) (some .string), some (51, true)⟩, o 55 (.pick Q51 Q54 kF), oM 56 55, og 57 (.fieldAddr 3 Q5) 56 true, og 58 (.load false 1 Q57) 56 true, og 59 (.len 1 Q58) 56 true, og 60 (.bin .eql Q59 (kI 0) tI) 56 true, o 61 (.pick Q56 Q60 kF), oM 62 61, og 63 (.load true 7 Q4) 62 true, og 64 (.call 104 [Q63]) 62 true, o 65 (.pick Q62 Q64 kF), oM 6 65]
 .ret) .skip)) (sQ [oA 66 2 4, o 67 (.load true 5 Q66), o 7 (.alloc [.int .i64 0, .int .i64 0, .int .i64 0, .int .i64 0, .slice none 0 0]), oS 5 7 67] (.seq (sQ [oA 68 0 7, oL 69 68] (.block 0 (.seq (sQ [o 71 (.bin .eql Q69 (kI 19) tI), oM 70 71] (.cond Q70 .skip (.ops [o 72 (.bin .eql Q69 (kI 20) tI), oM 70 72]))) (.cond Q70
 (sQ [oM 73 0, o 74 (.nilCheck Q73), oA 75 0 74, oL 76 75, oA 77 2 5, oL 78 77, o 79 (.len 0 Q78), o 80 (.bin .add (kI 16) Q79 tI), o 81 (.bin .add Q76 Q80 tI), o 82 (.nilCheck Q73), oA 83 0 82, oS 1 83 81] (sQ [oM 84 0, oA 85 4 7, oL 86 85, o 87 (.indexAddr 7 Q86 (kI 0)), o 88 (.load true 7 Q87), o 89 (.load true 4 Q5), o 90 (.call 79 [Q84, Q88, Q89]), oM 6 90] .ret))
 (sQ [o 92 (.bin .eql Q69 (kI 18) tI), oM 91 92] (.cond Q91
 (sQ [oA 93 2 5, oL 94 93, o 95 (.bin .eql Q94 (.const (.string ⟨#[]⟩)) (some .string)), oM 96 95, og 97 (.fieldAddr 1 Q5) 96 true, og 98 (.load false 1 Q97) 96 true, og 99 (.bin .geq Q98 (kI 0) tI) 96 true, o 100 (.pick Q96 Q99 kF), oM 101 100, og 102 (.fieldAddr 1 Q5) 101 true, og 103 (.load false 1 (q 102)) 101 true, og 104 (.fieldAddr 4 Q7) 101 true, og 105 (.load false 1 (q 104)) 101 true, og 106 (.len 1 (q 105)) 101 true, og 107 (.bin .lss (q 103) (q 106) tI) 101 true, o 108 (.pick (q 101) (q 107) kF), oM 109 108, og 110 (.fieldAddr 3 Q5) 109 true, og 111 (.load false 1 (q 110)) 109 true, og 112 (.len 1 (q 111)) 109 true, og 113 (.bin .eql (q 112) (kI 1) tI) 109 true, o 114 (.pick (q 109) (q 113) kF), oM 115 114, og 116 (.mov Q0) 115 true, og 117 (.fieldAddr 4 Q7) 115 true, og 118 (.load false 1 (q 117)) 115 true, og 119 (.fieldAddr 1 Q5) 115 true, og 120 (.load false 1 (q 119)) 115 true, og 121 (.indexAddr 7 (q 118) (q 120)) 115 true, og 122 (.load true 7 (q 121)) 115 true, og 123 (.fieldAddr 3 Q5) 115 true, og 124 (.load false 1 (q 123)) 115 true, og 125 (.indexAddr 4 (q 124) (kI 0)) 115 true, og 126 (.load true 4 (q 125)) 115 true, og 127 (.call 79 [.tmp 116, .tmp 122, .tmp 126]) 115 true, o 128 (.pick (q 115) (q 127) kF), oM 6 128]
 .ret) (.seq (sQ [o 130 (.bin .eql Q69 (kI 15) tI), oM 129 130] (.cond (q 129) .skip (sQ [o 131 (.bin .eql Q69 (kI 16) tI), oM 129 131] (.cond (q 129) .skip (.ops [o 132 (.bin .eql Q69 (kI 17) tI), oM 129 132]))))) (.cond (q 129)
 (sQ [oA 133 1 5, oL 134 133, o 135 (.bin .eql (q 134) (kI 0) tI), oM 136 135, og 137 (.fieldAddr 2 Q5) 136 true, og 138 (.load false 1 (q 137)) 136 true, ⟨some 139, .bin .eql (q 138) (.const (.string ⟨#[]⟩)) (some .string), some (136, true)⟩, o 140 (.pick (q 136) (q 139) kF), oM 141 140, og 142 (.mov Q0) 141 true, og 143 (.load true 5 Q7) 141 true, og 144 (.fieldAddr 3 Q5) 141 true, og 145 (.load false 1 (q 144)) 141 true, og 146 (.call 105 [.tmp 142, .tmp 143, .tmp 145]) 141 true, o 147 (.pick (q 141) (q 146) kF), oM 6 147]
 .ret) (.seq (sQ [o 149 (.bin .eql Q69 (kI 12) tI), oM 148 149] (.cond (q 148) .skip (sQ [o 150 (.bin .eql Q69 (kI 13) tI), oM 148 150] (.cond (q 148) .skip (.ops [o 151 (.bin .eql Q69 (kI 14) tI), oM 148 151]))))) (.cond (q 148)
 (sQ [oA 152 1 5, oL 153 152, o 154 (.bin .eql (q 153) (kI 0) tI), oM 155 154, og 156 (.fieldAddr 3 Q5) 155 true, og 157 (.load false 1 (q 156)) 155 true, og 158 (.len 1 (q 157)) 155 true, og 159 (.bin .eql (q 158) (kI 0) tI) 155 true, o 160 (.pick (q 155) (q 159) kF), oM 161 160, og 162 (.fieldAddr 0 Q7) 161 true, og 163 (.load false 1 (q 162)) 161 true, og 164 (.bin .neq (q 163) (kI 12) tI) 161 true, og 165 (.mov (q 164)) 161 true, og 166 (.fieldAddr 2 Q5) 165 false, og 167 (.load false 1 (q 166)) 165 false, og 168 (.call 106 [.tmp 167]) 165 false, og 169 (.pick (q 165) kT (q 168)) 161 true, o 170 (.pick (q 161) (q 169) kF), oM 171 170, og 172 (.fieldAddr 0 Q7) 171 true, og 173 (.load false 1 (q 172)) 171 true, og 174 (.bin .neq (q 173) (kI 14) tI) 171 true, og 175 (.mov (q 174)) 171 true, og 176 (.fieldAddr 2 Q5) 175 false, og 177 (.load false 1 (q 176)) 175 false, og 178 (.len 0 (q 177)) 175 false, og 179 (.fieldAddr 1 Q7) 175 false, og 180 (.load false 1 (q 179)) 175 false, og 181 (.bin .eql (q 178) (q 180) tI) 175 false, og 182 (.pick (q 175) kT (q 181)) 171 true, o 183 (.pick (q 171) (q 182) kF), oM 6 183]
 .ret) .skip)))))))))) (.seq (sQ [oA 184 2 5, oL 185 184, o 186 (.bin .neq (q 185) (.const (.string ⟨#[]⟩)) (some .string)), oM 187 186, og 188 (.fieldAddr 3 Q5) 187 false, og 189 (.load false 1 (q 188)) 187 false, og 190 (.len 1 (q 189)) 187 false, og 191 (.bin .gtr (q 190) (kI 0) tI) 187 false, o 192 (.pick (q 187) kT (q 191))] (.cond (q 192) (sQ [o 6 (.mov kF)] .ret) .skip))
 (.seq (.block 1 (sQ [oA 194 0 7, oL 195 194, o 196 (.bin .eql (q 195) (kI 2) tI), oM 193 196] (.cond (q 193) (sQ [oA 197 1 5, oL 198 197, o 199 (.bin .eql (q 198) (kI 0) tI), oM 200 199, og 201 (.fieldAddr 1 Q5) 200 false, og 202 (.load false 1 (q 201)) 200 false, og 203 (.bin .eql (q 202) (kI 1) tI) 200 false, o 204 (.pick (q 200) kT (q 203)), oM 6 204] .ret)
 (sQ [oA 206 0 7, oL 207 206, o 208 (.bin .eql (q 207) (kI 11) tI), oM 205 208] (.cond (q 205) (sQ [o 6 (.mov kT)] .ret) .skip)))))
 (sQ [oA 209 0 7, oL 210 209, o 211 (.call 107 [.tmp 210]), oM 212 211, og 213 (.fieldAddr 0 Q7) 212 true, og 214 (.load false 1 (q 213)) 212 true, og 215 (.fieldAddr 1 Q5) 212 true, og 216 (.load false 1 (q 215)) 212 true, og 217 (.call 108 [.tmp 214, .tmp 216]) 212 true, o 218 (.pick (q 212) (q 217) kF), oM 6 218] .ret))))))))))⟩
theorem F79_ok:Bm Tryz.prog 79=some F79:=by kernel_rfl
def X80:CF 80:=by refine⟨?_,?h⟩;rotate_left;conv=>lhs;cbv
def F80:FC:=X80.1
theorem F80_ok:Bm Tryz.prog 80=some F80:=X80.2
def X81:CF 81:=by refine⟨?_,?h⟩;rotate_left;conv=>lhs;cbv
def F81:FC:=X81.1
theorem F81_ok:Bm Tryz.prog 81=some F81:=X81.2
def X82:CF 82:=by refine⟨?_,?h⟩;rotate_left;conv=>lhs;cbv
def F82:FC:=X82.1
theorem F82_ok:Bm Tryz.prog 82=some F82:=X82.2
def X84:CF 84:=by refine⟨?_,?h⟩;rotate_left;conv=>lhs;cbv
def F84:FC:=X84.1
theorem F84_ok:Bm Tryz.prog 84=some F84:=X84.2
def X85:CF 85:=by refine⟨?_,?h⟩;rotate_left;conv=>lhs;cbv
def F85:FC:=X85.1
theorem F85_ok:Bm Tryz.prog 85=some F85:=X85.2
def X86:CF 86:=by refine⟨?_,?h⟩;rotate_left;conv=>lhs;cbv
def F86:FC:=X86.1
theorem F86_ok:Bm Tryz.prog 86=some F86:=X86.2
def X87:CF 87:=by refine⟨?_,?h⟩;rotate_left;conv=>lhs;cbv
def F87:FC:=X87.1
theorem F87_ok:Bm Tryz.prog 87=some F87:=X87.2
def X88:CF 88:=by refine⟨?_,?h⟩;rotate_left;conv=>lhs;cbv
def F88:FC:=X88.1
theorem F88_ok:Bm Tryz.prog 88=some F88:=X88.2
def X89:CF 89:=by refine⟨?_,?h⟩;rotate_left;conv=>lhs;cbv
def F89:FC:=X89.1
theorem F89_ok:Bm Tryz.prog 89=some F89:=X89.2
def X90:CF 90:=by refine⟨?_,?h⟩;rotate_left;conv=>lhs;cbv
def F90:FC:=X90.1
theorem F90_ok:Bm Tryz.prog 90=some F90:=X90.2
def X91:CF 91:=by refine⟨?_,?h⟩;rotate_left;conv=>lhs;cbv
def F91:FC:=X91.1
theorem F91_ok:Bm Tryz.prog 91=some F91:=X91.2
def X92:CF 92:=by refine⟨?_,?h⟩;rotate_left;conv=>lhs;cbv
def F92:FC:=X92.1
theorem F92_ok:Bm Tryz.prog 92=some F92:=X92.2
def X93:CF 93:=by refine⟨?_,?h⟩;rotate_left;conv=>lhs;cbv
def F93:FC:=X93.1
theorem F93_ok:Bm Tryz.prog 93=some F93:=X93.2
def X94:CF 94:=by refine⟨?_,?h⟩;rotate_left;conv=>lhs;cbv
def F94:FC:=X94.1
theorem F94_ok:Bm Tryz.prog 94=some F94:=X94.2
def X95:CF 95:=by refine⟨?_,?h⟩;rotate_left;conv=>lhs;cbv
def F95:FC:=X95.1
theorem F95_ok:Bm Tryz.prog 95=some F95:=X95.2
def X96:CF 96:=by refine⟨?_,?h⟩;rotate_left;conv=>lhs;cbv
def F96:FC:=X96.1
theorem F96_ok:Bm Tryz.prog 96=some F96:=X96.2
def X97:CF 97:=by refine⟨?_,?h⟩;rotate_left;conv=>lhs;cbv
def F97:FC:=X97.1
theorem F97_ok:Bm Tryz.prog 97=some F97:=X97.2
def X98:CF 98:=by refine⟨?_,?h⟩;rotate_left;conv=>lhs;cbv
def F98:FC:=X98.1
theorem F98_ok:Bm Tryz.prog 98=some F98:=X98.2
def X99:CF 99:=by refine⟨?_,?h⟩;rotate_left;conv=>lhs;cbv
def F99:FC:=X99.1
theorem F99_ok:Bm Tryz.prog 99=some F99:=X99.2
def X100:CF 100:=by refine⟨?_,?h⟩;rotate_left;conv=>lhs;cbv
def F100:FC:=X100.1
theorem F100_ok:Bm Tryz.prog 100=some F100:=X100.2
def X101:CF 101:=by refine⟨?_,?h⟩;rotate_left;conv=>lhs;cbv
def F101:FC:=X101.1
theorem F101_ok:Bm Tryz.prog 101=some F101:=X101.2
def X102:CF 102:=by refine⟨?_,?h⟩;rotate_left;conv=>lhs;cbv
def F102:FC:=X102.1
theorem F102_ok:Bm Tryz.prog 102=some F102:=X102.2
def X103:CF 103:=by refine⟨?_,?h⟩;rotate_left;conv=>lhs;cbv
def F103:FC:=X103.1
theorem F103_ok:Bm Tryz.prog 103=some F103:=X103.2
def F106 : FC := ⟨169, [.tmp 2], (sQ [o 2 (.mov kF)] (.seq (.block 0 (.loop (.seq (sQ [oM 7 0, o 8 (.len 0 Q7), o 9 (.bin .gtr Q8 (kI 0) tI)] (.cond Q9 .skip (.exit 0))) (.block 1 (sQ [oM 10 0, o 11 (.indexStr Q10 (kI 0)), oM 3 11] (.seq (sQ [oM 12 3, o 13 (.bin .lss Q12 (.const (.int .u8 128)) (some (.int .u8)))] (.cond Q13 (sQ [oM 14 0, o 15 (.sliceStr Q14 (some (kI 1)) none), oM 0 15]
 (.seq (sQ [oM 16 0, o 17 (.len 0 Q16), o 18 (.bin .gtr Q17 (kI 8) tI), oM 19 18, og 20 (.mov Q0) 19 true, og 21 (.call 126 [Q20]) 19 true, og 22 (.bin .and Q21 (.const (.int .u64 9259542123273814144)) (some (.int .u64))) 19 true, og 23 (.bin .eql Q22 (.const (.int .u64 0)) (some (.int .u64))) 19 true, o 24 (.pick Q19 Q23 kF)] (.cond Q24
 (sQ [oM 25 0, o 26 (.sliceStr Q25 (some (kI 8)) none), oM 0 26]
 (sQ [oM 27 0, o 28 (.len 0 Q27), o 29 (.bin .gtr Q28 (kI 16) tI), oM 30 29, og 31 (.mov Q0) 30 true, og 33 (.mov Q0) 30 true, og 34 (.sliceStr Q33 (some (kI 8)) none) 30 true, og 32 (.call 126 [Q31]) 30 true, og 35 (.call 126 [Q34]) 30 true, og 36 (.bin .or Q32 Q35 (some (.int .u64))) 30 true, og 37 (.bin .and Q36 (.const (.int .u64 9259542123273814144)) (some (.int .u64))) 30 true, og 38 (.bin .eql Q37 (.const (.int .u64 0)) (some (.int .u64))) 30 true, o 39 (.pick Q30 Q38 kF)]
 (.cond Q39 (sQ [oM 40 0, o 41 (.sliceStr Q40 (some (kI 16)) none), oM 0 41]
 (.block 2 (.loop (.seq (sQ [oM 42 0, o 43 (.len 0 Q42), o 44 (.bin .gtr Q43 (kI 32) tI), oM 45 44, og 46 (.mov Q0) 45 true, og 48 (.mov Q0) 45 true, og 49 (.sliceStr Q48 (some (kI 8)) none) 45 true, og 52 (.mov Q0) 45 true, og 53 (.sliceStr Q52 (some (kI 16)) none) 45 true, og 55 (.mov Q0) 45 true, og 56 (.sliceStr Q55 (some (kI 24)) none) 45 true, og 47 (.call 126 [Q46]) 45 true, og 50 (.call 126 [Q49]) 45 true, og 51 (.bin .or Q47 Q50 (some (.int .u64))) 45 true, og 54 (.call 126 [Q53]) 45 true, og 57 (.call 126 [Q56]) 45 true, og 58 (.bin .or Q54 Q57 (some (.int .u64))) 45 true, og 59 (.bin .or Q51 Q58 (some (.int .u64))) 45 true, og 60 (.bin .and Q59 (.const (.int .u64 9259542123273814144)) (some (.int .u64))) 45 true, og 61 (.bin .eql Q60 (.const (.int .u64 0)) (some (.int .u64))) 45 true, o 62 (.pick Q45 Q61 kF)]
 (.cond Q62 .skip (.exit 2))) (.block 3 (.ops [oM 63 0, o 64 (.sliceStr Q63 (some (kI 32)) none), oM 0 64])))))) .skip))) .skip)) (.exit 1))) .skip)) (sQ [oM 65 3, o 66 (.indexAddrArr 1 256 (.global 2) Q65), oL 67 66, oM 4 67] (sQ [oM 68 4, o 69 (.bin .and Q68 (.const (.int .u8 7)) (some (.int .u8))), o 70 (.conv .i64 Q69), oM 5 70]
 (sQ [oM 71 4, o 72 (.bin .shr Q71 (.const (.int .u64 4)) (some (.int .u8))), o 73 (.indexAddrArr 2 16 (.global 3) Q72), o 74 (.load true 2 Q73), o 6 (.alloc [.int .u8 0, .int .u8 0]), oS 2 6 74] (sQ [oM 75 5] (.block 4 (sQ [o 77 (.bin .eql Q75 (kI 2) tI), oM 76 77] (.cond Q76
 (.seq (sQ [oM 78 0, o 79 (.len 0 Q78), o 80 (.bin .lss Q79 (kI 2) tI), oM 81 80, og 82 (.mov Q0) 81 false, og 83 (.indexStr Q82 (kI 1)) 81 false, og 84 (.fieldAddr 0 Q6) 81 false, og 85 (.load false 1 Q84) 81 false, og 86 (.bin .lss Q83 Q85 (some (.int .u8))) 81 false, o 87 (.pick Q81 kT Q86), oM 88 87, og 89 (.fieldAddr 1 Q6) 88 false, og 90 (.load false 1 Q89) 88 false, og 91 (.mov Q0) 88 false, og 92 (.indexStr Q91 (kI 1)) 88 false, og 93 (.bin .lss Q90 Q92 (some (.int .u8))) 88 false, o 94 (.pick Q88 kT Q93)]
 (.cond Q94 (sQ [o 2 (.mov kF)] .ret) .skip)) (.ops [oM 95 0, o 96 (.sliceStr Q95 (some (kI 2)) none), oM 0 96])) (sQ [o 98 (.bin .eql Q75 (kI 3) tI), oM 97 98] (.cond Q97
 (.seq (sQ [oM 99 0, o 100 (.len 0 Q99), o 101 (.bin .lss (q 100) (kI 3) tI), oM 102 101, og 103 (.mov Q0) 102 false, og 104 (.indexStr (q 103) (kI 1)) 102 false, og 105 (.fieldAddr 0 Q6) 102 false, og 106 (.load false 1 (q 105)) 102 false, og 107 (.bin .lss (q 104) (q 106) (some (.int .u8))) 102 false, o 108 (.pick (q 102) kT (q 107)), oM 109 108, og 110 (.fieldAddr 1 Q6) 109 false, og 111 (.load false 1 (q 110)) 109 false, og 112 (.mov Q0) 109 false, og 113 (.indexStr (q 112) (kI 1)) 109 false, og 114 (.bin .lss (q 111) (q 113) (some (.int .u8))) 109 false, o 115 (.pick (q 109) kT (q 114)), oM 116 115, og 117 (.mov Q0) 116 false, og 118 (.indexStr (q 117) (kI 2)) 116 false, og 119 (.bin .lss (q 118) (.const (.int .u8 128)) (some (.int .u8))) 116 false, o 120 (.pick (q 116) kT (q 119)), oM 121 120, og 122 (.mov Q0) 121 false, og 123 (.indexStr (q 122) (kI 2)) 121 false, og 124 (.bin .lss (.const (.int .u8 191)) (q 123) (some (.int .u8))) 121 false, o 125 (.pick (q 121) kT (q 124))]
 (.cond (q 125) (sQ [o 2 (.mov kF)] .ret) .skip)) (.ops [oM 126 0, o 127 (.sliceStr (q 126) (some (kI 3)) none), oM 0 127])) (sQ [o 129 (.bin .eql Q75 (kI 4) tI), oM 128 129] (.cond (q 128)
 (.seq (sQ [oM 130 0, o 131 (.len 0 (q 130)), o 132 (.bin .lss (q 131) (kI 4) tI), oM 133 132, og 134 (.mov Q0) 133 false, og 135 (.indexStr (q 134) (kI 1)) 133 false, og 136 (.fieldAddr 0 Q6) 133 false, og 137 (.load false 1 (q 136)) 133 false, og 138 (.bin .lss (q 135) (q 137) (some (.int .u8))) 133 false, o 139 (.pick (q 133) kT (q 138)), oM 140 139, og 141 (.fieldAddr 1 Q6) 140 false, og 142 (.load false 1 (q 141)) 140 false, og 143 (.mov Q0) 140 false, og 144 (.indexStr (q 143) (kI 1)) 140 false, og 145 (.bin .lss (q 142) (q 144) (some (.int .u8))) 140 false, o 146 (.pick (q 140) kT (q 145)), oM 147 146, og 148 (.mov Q0) 147 false, og 149 (.indexStr (q 148) (kI 2)) 147 false, og 150 (.bin .lss (q 149) (.const (.int .u8 128)) (some (.int .u8))) 147 false, o 151 (.pick (q 147) kT (q 150)), oM 152 151, og 153 (.mov Q0) 152 false, og 154 (.indexStr (q 153) (kI 2)) 152 false, og 155 (.bin .lss (.const (.int .u8 191)) (q 154) (some (.int .u8))) 152 false, o 156 (.pick (q 152) kT (q 155)), oM 157 156, og 158 (.mov Q0) 157 false, og 159 (.indexStr (q 158) (kI 3)) 157 false, og 160 (.bin .lss (q 159) (.const (.int .u8 128)) (some (.int .u8))) 157 false, o 161 (.pick (q 157) kT (q 160)), oM 162 161, og 163 (.mov Q0) 162 false, og 164 (.indexStr (q 163) (kI 3)) 162 false, og 165 (.bin .lss (.const (.int .u8 191)) (q 164) (some (.int .u8))) 162 false, o 166 (.pick (q 162) kT (q 165))]
 (.cond (q 166) (sQ [o 2 (.mov kF)] .ret) .skip)) (.ops [oM 167 0, o 168 (.sliceStr (q 167) (some (kI 4)) none), oM 0 168])) (sQ [o 2 (.mov kF)] .ret)))))))))))))))))) (sQ [o 2 (.mov kT)] .ret)))⟩
theorem F106_ok:Bm Tryz.prog 106=some F106:=by kernel_rfl
def X107:CF 107:=by refine⟨?_,?h⟩;rotate_left;conv=>lhs;cbv
def F107:FC:=X107.1
theorem F107_ok:Bm Tryz.prog 107=some F107:=X107.2
def X108:CF 108:=by refine⟨?_,?h⟩;rotate_left;conv=>lhs;cbv
def F108:FC:=X108.1
theorem F108_ok:Bm Tryz.prog 108=some F108:=X108.2
def X109:CF 109:=by refine⟨?_,?h⟩;rotate_left;conv=>lhs;cbv
def F109:FC:=X109.1
theorem F109_ok:Bm Tryz.prog 109=some F109:=X109.2
def X110:CF 110:=by refine⟨?_,?h⟩;rotate_left;conv=>lhs;cbv
def F110:FC:=X110.1
theorem F110_ok:Bm Tryz.prog 110=some F110:=X110.2
def X112:CF 112:=by refine⟨?_,?h⟩;rotate_left;conv=>lhs;cbv
def F112:FC:=X112.1
theorem F112_ok:Bm Tryz.prog 112=some F112:=X112.2
def X113:CF 113:=by refine⟨?_,?h⟩;rotate_left;conv=>lhs;cbv
def F113:FC:=X113.1
theorem F113_ok:Bm Tryz.prog 113=some F113:=X113.2
def X114:CF 114:=by refine⟨?_,?h⟩;rotate_left;conv=>lhs;cbv
def F114:FC:=X114.1
theorem F114_ok:Bm Tryz.prog 114=some F114:=X114.2
def X115:CF 115:=by refine⟨?_,?h⟩;rotate_left;conv=>lhs;cbv
def F115:FC:=X115.1
theorem F115_ok:Bm Tryz.prog 115=some F115:=X115.2
def X116:CF 116:=by refine⟨?_,?h⟩;rotate_left;conv=>lhs;cbv
def F116:FC:=X116.1
theorem F116_ok:Bm Tryz.prog 116=some F116:=X116.2
def X117:CF 117:=by refine⟨?_,?h⟩;rotate_left;conv=>lhs;cbv
def F117:FC:=X117.1
theorem F117_ok:Bm Tryz.prog 117=some F117:=X117.2
def X118:CF 118:=by refine⟨?_,?h⟩;rotate_left;conv=>lhs;cbv
def F118:FC:=X118.1
theorem F118_ok:Bm Tryz.prog 118=some F118:=X118.2
def X119:CF 119:=by refine⟨?_,?h⟩;rotate_left;conv=>lhs;cbv
def F119:FC:=X119.1
theorem F119_ok:Bm Tryz.prog 119=some F119:=X119.2
def F120 : FC := ⟨188, [.tmp 2], (sQ [o 2 (.mov kF)] (sQ [oM 7 0, oM 8 0, o 9 (.len 1 Q8), oM 10 0, o 11 (.len 1 Q10), o 12 (.slice 1 Q7 none (some Q9) (some Q11)), oM 0 12] (.seq (.block 0 (.loop (.seq (sQ [oM 13 0, o 14 (.len 1 Q13), o 15 (.bin .gtr Q14 (kI 0) tI)] (.cond Q15 .skip (.exit 0))) (.block 1 (sQ [oM 16 0, o 17 (.indexAddr 1 Q16 (kI 0)), oL 18 17, oM 3 18]
 (.seq (sQ [oM 19 3, o 20 (.bin .lss Q19 (.const (.int .u8 128)) (some (.int .u8)))] (.cond Q20 (sQ [oM 21 0, o 22 (.slice 1 Q21 (some (kI 1)) none none), oM 0 22]
 (.seq (sQ [oM 23 0, o 24 (.len 1 Q23), o 25 (.bin .gtr Q24 (kI 8) tI), oM 26 25, og 27 (.mov Q0) 26 true, og 28 (.call 130 [Q27]) 26 true, og 29 (.bin .and Q28 (.const (.int .u64 9259542123273814144)) (some (.int .u64))) 26 true, og 30 (.bin .eql Q29 (.const (.int .u64 0)) (some (.int .u64))) 26 true, o 31 (.pick Q26 Q30 kF)] (.cond Q31
 (sQ [oM 32 0, o 33 (.slice 1 Q32 (some (kI 8)) none none), oM 0 33]
 (sQ [oM 34 0, o 35 (.len 1 Q34), o 36 (.bin .gtr Q35 (kI 16) tI), oM 37 36, og 38 (.mov Q0) 37 true, og 40 (.mov Q0) 37 true, og 41 (.slice 1 Q40 (some (kI 8)) none none) 37 true, og 39 (.call 130 [Q38]) 37 true, og 42 (.call 130 [Q41]) 37 true, og 43 (.bin .or Q39 Q42 (some (.int .u64))) 37 true, og 44 (.bin .and Q43 (.const (.int .u64 9259542123273814144)) (some (.int .u64))) 37 true, og 45 (.bin .eql Q44 (.const (.int .u64 0)) (some (.int .u64))) 37 true, o 46 (.pick Q37 Q45 kF)]
 (.cond Q46 (sQ [oM 47 0, o 48 (.slice 1 Q47 (some (kI 16)) none none), oM 0 48]
 (.block 2 (.loop (.seq (sQ [oM 49 0, o 50 (.len 1 Q49), o 51 (.bin .gtr Q50 (kI 32) tI), oM 52 51, og 53 (.mov Q0) 52 true, og 55 (.mov Q0) 52 true, og 56 (.slice 1 Q55 (some (kI 8)) none none) 52 true, og 59 (.mov Q0) 52 true, og 60 (.slice 1 Q59 (some (kI 16)) none none) 52 true, og 62 (.mov Q0) 52 true, og 63 (.slice 1 Q62 (some (kI 24)) none none) 52 true, og 54 (.call 130 [Q53]) 52 true, og 57 (.call 130 [Q56]) 52 true, og 58 (.bin .or Q54 Q57 (some (.int .u64))) 52 true, og 61 (.call 130 [Q60]) 52 true, og 64 (.call 130 [Q63]) 52 true, og 65 (.bin .or Q61 Q64 (some (.int .u64))) 52 true, og 66 (.bin .or Q58 Q65 (some (.int .u64))) 52 true, og 67 (.bin .and Q66 (.const (.int .u64 9259542123273814144)) (some (.int .u64))) 52 true, og 68 (.bin .eql Q67 (.const (.int .u64 0)) (some (.int .u64))) 52 true, o 69 (.pick Q52 Q68 kF)]
 (.cond Q69 .skip (.exit 2))) (.block 3 (.ops [oM 70 0, o 71 (.slice 1 Q70 (some (kI 32)) none none), oM 0 71])))))) .skip))) .skip)) (.exit 1))) .skip)) (sQ [oM 72 3, o 73 (.indexAddrArr 1 256 (.global 2) Q72), oL 74 73, oM 4 74] (sQ [oM 75 4, o 76 (.bin .and Q75 (.const (.int .u8 7)) (some (.int .u8))), o 77 (.conv .i64 Q76), oM 5 77]
 (sQ [oM 78 4, o 79 (.bin .shr Q78 (.const (.int .u64 4)) (some (.int .u8))), o 80 (.indexAddrArr 2 16 (.global 3) Q79), o 81 (.load true 2 Q80), o 6 (.alloc [.int .u8 0, .int .u8 0]), oS 2 6 81] (sQ [oM 82 5] (.block 4 (sQ [o 84 (.bin .eql Q82 (kI 2) tI), oM 83 84] (.cond Q83
 (.seq (sQ [oM 85 0, o 86 (.len 1 Q85), o 87 (.bin .lss Q86 (kI 2) tI), oM 88 87, og 89 (.mov Q0) 88 false, og 90 (.indexAddr 1 Q89 (kI 1)) 88 false, og 91 (.load false 1 Q90) 88 false, og 92 (.fieldAddr 0 Q6) 88 false, og 93 (.load false 1 Q92) 88 false, og 94 (.bin .lss Q91 Q93 (some (.int .u8))) 88 false, o 95 (.pick Q88 kT Q94), oM 96 95, og 97 (.fieldAddr 1 Q6) 96 false, og 98 (.load false 1 Q97) 96 false, og 99 (.mov Q0) 96 false, og 100 (.indexAddr 1 Q99 (kI 1)) 96 false, og 101 (.load false 1 (q 100)) 96 false, og 102 (.bin .lss Q98 (q 101) (some (.int .u8))) 96 false, o 103 (.pick Q96 kT (q 102))]
 (.cond (q 103) (sQ [o 2 (.mov kF)] .ret) .skip)) (.ops [oM 104 0, o 105 (.slice 1 (q 104) (some (kI 2)) none none), oM 0 105])) (sQ [o 107 (.bin .eql Q82 (kI 3) tI), oM 106 107] (.cond (q 106)
 (.seq (sQ [oM 108 0, o 109 (.len 1 (q 108)), o 110 (.bin .lss (q 109) (kI 3) tI), oM 111 110, og 112 (.mov Q0) 111 false, og 113 (.indexAddr 1 (q 112) (kI 1)) 111 false, og 114 (.load false 1 (q 113)) 111 false, og 115 (.fieldAddr 0 Q6) 111 false, og 116 (.load false 1 (q 115)) 111 false, og 117 (.bin .lss (q 114) (q 116) (some (.int .u8))) 111 false, o 118 (.pick (q 111) kT (q 117)), oM 119 118, og 120 (.fieldAddr 1 Q6) 119 false, og 121 (.load false 1 (q 120)) 119 false, og 122 (.mov Q0) 119 false, og 123 (.indexAddr 1 (q 122) (kI 1)) 119 false, og 124 (.load false 1 (q 123)) 119 false, og 125 (.bin .lss (q 121) (q 124) (some (.int .u8))) 119 false, o 126 (.pick (q 119) kT (q 125)), oM 127 126, og 128 (.mov Q0) 127 false, og 129 (.indexAddr 1 (q 128) (kI 2)) 127 false, og 130 (.load false 1 (q 129)) 127 false, og 131 (.bin .lss (q 130) (.const (.int .u8 128)) (some (.int .u8))) 127 false, o 132 (.pick (q 127) kT (q 131)), oM 133 132, og 134 (.mov Q0) 133 false, og 135 (.indexAddr 1 (q 134) (kI 2)) 133 false, og 136 (.load false 1 (q 135)) 133 false, og 137 (.bin .lss (.const (.int .u8 191)) (q 136) (some (.int .u8))) 133 false, o 138 (.pick (q 133) kT (q 137))]
 (.cond (q 138) (sQ [o 2 (.mov kF)] .ret) .skip)) (.ops [oM 139 0, o 140 (.slice 1 (q 139) (some (kI 3)) none none), oM 0 140])) (sQ [o 142 (.bin .eql Q82 (kI 4) tI), oM 141 142] (.cond (q 141)
 (.seq (sQ [oM 143 0, o 144 (.len 1 (q 143)), o 145 (.bin .lss (q 144) (kI 4) tI), oM 146 145, og 147 (.mov Q0) 146 false, og 148 (.indexAddr 1 (q 147) (kI 1)) 146 false, og 149 (.load false 1 (q 148)) 146 false, og 150 (.fieldAddr 0 Q6) 146 false, og 151 (.load false 1 (q 150)) 146 false, og 152 (.bin .lss (q 149) (q 151) (some (.int .u8))) 146 false, o 153 (.pick (q 146) kT (q 152)), oM 154 153, og 155 (.fieldAddr 1 Q6) 154 false, og 156 (.load false 1 (q 155)) 154 false, og 157 (.mov Q0) 154 false, og 158 (.indexAddr 1 (q 157) (kI 1)) 154 false, og 159 (.load false 1 (q 158)) 154 false, og 160 (.bin .lss (q 156) (q 159) (some (.int .u8))) 154 false, o 161 (.pick (q 154) kT (q 160)), oM 162 161, og 163 (.mov Q0) 162 false, og 164 (.indexAddr 1 (q 163) (kI 2)) 162 false, og 165 (.load false 1 (q 164)) 162 false, og 166 (.bin .lss (q 165) (.const (.int .u8 128)) (some (.int .u8))) 162 false, o 167 (.pick (q 162) kT (q 166)), oM 168 167, og 169 (.mov Q0) 168 false, og 170 (.indexAddr 1 (q 169) (kI 2)) 168 false, og 171 (.load false 1 (q 170)) 168 false, og 172 (.bin .lss (.const (.int .u8 191)) (q 171) (some (.int .u8))) 168 false, o 173 (.pick (q 168) kT (q 172)), oM 174 173, og 175 (.mov Q0) 174 false, og 176 (.indexAddr 1 (q 175) (kI 3)) 174 false, og 177 (.load false 1 (q 176)) 174 false, og 178 (.bin .lss (q 177) (.const (.int .u8 128)) (some (.int .u8))) 174 false, o 179 (.pick (q 174) kT (q 178)), oM 180 179, og 181 (.mov Q0) 180 false, og 182 (.indexAddr 1 (q 181) (kI 3)) 180 false, og 183 (.load false 1 (q 182)) 180 false, og 184 (.bin .lss (.const (.int .u8 191)) (q 183) (some (.int .u8))) 180 false, o 185 (.pick (q 180) kT (q 184))]
 (.cond (q 185) (sQ [o 2 (.mov kF)] .ret) .skip)) (.ops [oM 186 0, o 187 (.slice 1 (q 186) (some (kI 4)) none none), oM 0 187])) (sQ [o 2 (.mov kF)] .ret)))))))))))))))))) (sQ [o 2 (.mov kT)] .ret))))⟩
theorem F120_ok:Bm Tryz.prog 120=some F120:=by kernel_rfl
def X121:CF 121:=by refine⟨?_,?h⟩;rotate_left;conv=>lhs;cbv
def F121:FC:=X121.1
theorem F121_ok:Bm Tryz.prog 121=some F121:=X121.2
def X122:CF 122:=by refine⟨?_,?h⟩;rotate_left;conv=>lhs;cbv
def F122:FC:=X122.1
theorem F122_ok:Bm Tryz.prog 122=some F122:=X122.2
def X123:CF 123:=by refine⟨?_,?h⟩;rotate_left;conv=>lhs;cbv
def F123:FC:=X123.1
theorem F123_ok:Bm Tryz.prog 123=some F123:=X123.2
def X124:CF 124:=by refine⟨?_,?h⟩;rotate_left;conv=>lhs;cbv
def F124:FC:=X124.1
theorem F124_ok:Bm Tryz.prog 124=some F124:=X124.2
def X125:CF 125:=by refine⟨?_,?h⟩;rotate_left;conv=>lhs;cbv
def F125:FC:=X125.1
theorem F125_ok:Bm Tryz.prog 125=some F125:=X125.2
def F126 : FC := ⟨59, [.tmp 2], (sQ [o 2 (.mov (.const (.int .u64 0)))] (.seq (.cond kF
 (sQ [oM 3 0, o 4 (.indexStr Q3 (kI 0)), o 5 (.conv .u64 Q4), oM 6 0, o 7 (.indexStr Q6 (kI 1)), o 8 (.conv .u64 Q7), o 9 (.bin .shl Q8 (.const (.int .u64 8)) (some (.int .u64))), o 10 (.bin .or Q5 Q9 (some (.int .u64))), oM 11 0, o 12 (.indexStr Q11 (kI 2)), o 13 (.conv .u64 Q12), o 14 (.bin .shl Q13 (.const (.int .u64 16)) (some (.int .u64))), o 15 (.bin .or Q10 Q14 (some (.int .u64))), oM 16 0, o 17 (.indexStr Q16 (kI 3)), o 18 (.conv .u64 Q17), o 19 (.bin .shl Q18 (.const (.int .u64 24)) (some (.int .u64))), o 20 (.bin .or Q15 Q19 (some (.int .u64))), oM 2 20]
 .ret) .skip)
 (sQ [oM 21 0, o 22 (.indexStr Q21 (kI 0)), o 23 (.conv .u64 Q22), oM 24 0, o 25 (.indexStr Q24 (kI 1)), o 26 (.conv .u64 Q25), o 27 (.bin .shl Q26 (.const (.int .u64 8)) (some (.int .u64))), o 28 (.bin .or Q23 Q27 (some (.int .u64))), oM 29 0, o 30 (.indexStr Q29 (kI 2)), o 31 (.conv .u64 Q30), o 32 (.bin .shl Q31 (.const (.int .u64 16)) (some (.int .u64))), o 33 (.bin .or Q28 Q32 (some (.int .u64))), oM 34 0, o 35 (.indexStr Q34 (kI 3)), o 36 (.conv .u64 Q35), o 37 (.bin .shl Q36 (.const (.int .u64 24)) (some (.int .u64))), o 38 (.bin .or Q33 Q37 (some (.int .u64))), oM 39 0, o 40 (.indexStr Q39 (kI 4)), o 41 (.conv .u64 Q40), o 42 (.bin .shl Q41 (.const (.int .u64 32)) (some (.int .u64))), o 43 (.bin .or Q38 Q42 (some (.int .u64))), oM 44 0, o 45 (.indexStr Q44 (kI 5)), o 46 (.conv .u64 Q45), o 47 (.bin .shl Q46 (.const (.int .u64 40)) (some (.int .u64))), o 48 (.bin .or Q43 Q47 (some (.int .u64))), oM 49 0, o 50 (.indexStr Q49 (kI 6)), o 51 (.conv .u64 Q50), o 52 (.bin .shl Q51 (.const (.int .u64 48)) (some (.int .u64))), o 53 (.bin .or Q48 Q52 (some (.int .u64))), oM 54 0, o 55 (.indexStr Q54 (kI 7)), o 56 (.conv .u64 Q55), o 57 (.bin .shl Q56 (.const (.int .u64 56)) (some (.int .u64))), o 58 (.bin .or Q53 Q57 (some (.int .u64))), oM 2 58]
 .ret)))⟩
theorem F126_ok:Bm Tryz.prog 126=some F126:=by kernel_rfl
def X127:CF 127:=by refine⟨?_,?h⟩;rotate_left;conv=>lhs;cbv
def F127:FC:=X127.1
theorem F127_ok:Bm Tryz.prog 127=some F127:=X127.2
def X128:CF 128:=by refine⟨?_,?h⟩;rotate_left;conv=>lhs;cbv
def F128:FC:=X128.1
theorem F128_ok:Bm Tryz.prog 128=some F128:=X128.2
def X129:CF 129:=by refine⟨?_,?h⟩;rotate_left;conv=>lhs;cbv
def F129:FC:=X129.1
theorem F129_ok:Bm Tryz.prog 129=some F129:=X129.2
def F130 : FC := ⟨71, [.tmp 2], (sQ [o 2 (.mov (.const (.int .u64 0)))] (.seq (.cond kF
 (sQ [oM 3 0, o 4 (.indexAddr 1 Q3 (kI 0)), oL 5 4, o 6 (.conv .u64 Q5), oM 7 0, o 8 (.indexAddr 1 Q7 (kI 1)), oL 9 8, o 10 (.conv .u64 Q9), o 11 (.bin .shl Q10 (.const (.int .u64 8)) (some (.int .u64))), o 12 (.bin .or Q6 Q11 (some (.int .u64))), oM 13 0, o 14 (.indexAddr 1 Q13 (kI 2)), oL 15 14, o 16 (.conv .u64 Q15), o 17 (.bin .shl Q16 (.const (.int .u64 16)) (some (.int .u64))), o 18 (.bin .or Q12 Q17 (some (.int .u64))), oM 19 0, o 20 (.indexAddr 1 Q19 (kI 3)), oL 21 20, o 22 (.conv .u64 Q21), o 23 (.bin .shl Q22 (.const (.int .u64 24)) (some (.int .u64))), o 24 (.bin .or Q18 Q23 (some (.int .u64))), oM 2 24]
 .ret) .skip)
 (sQ [oM 25 0, o 26 (.indexAddr 1 Q25 (kI 0)), oL 27 26, o 28 (.conv .u64 Q27), oM 29 0, o 30 (.indexAddr 1 Q29 (kI 1)), oL 31 30, o 32 (.conv .u64 Q31), o 33 (.bin .shl Q32 (.const (.int .u64 8)) (some (.int .u64))), o 34 (.bin .or Q28 Q33 (some (.int .u64))), oM 35 0, o 36 (.indexAddr 1 Q35 (kI 2)), oL 37 36, o 38 (.conv .u64 Q37), o 39 (.bin .shl Q38 (.const (.int .u64 16)) (some (.int .u64))), o 40 (.bin .or Q34 Q39 (some (.int .u64))), oM 41 0, o 42 (.indexAddr 1 Q41 (kI 3)), oL 43 42, o 44 (.conv .u64 Q43), o 45 (.bin .shl Q44 (.const (.int .u64 24)) (some (.int .u64))), o 46 (.bin .or Q40 Q45 (some (.int .u64))), oM 47 0, o 48 (.indexAddr 1 Q47 (kI 4)), oL 49 48, o 50 (.conv .u64 Q49), o 51 (.bin .shl Q50 (.const (.int .u64 32)) (some (.int .u64))), o 52 (.bin .or Q46 Q51 (some (.int .u64))), oM 53 0, o 54 (.indexAddr 1 Q53 (kI 5)), oL 55 54, o 56 (.conv .u64 Q55), o 57 (.bin .shl Q56 (.const (.int .u64 40)) (some (.int .u64))), o 58 (.bin .or Q52 Q57 (some (.int .u64))), oM 59 0, o 60 (.indexAddr 1 Q59 (kI 6)), oL 61 60, o 62 (.conv .u64 Q61), o 63 (.bin .shl Q62 (.const (.int .u64 48)) (some (.int .u64))), o 64 (.bin .or Q58 Q63 (some (.int .u64))), oM 65 0, o 66 (.indexAddr 1 Q65 (kI 7)), oL 67 66, o 68 (.conv .u64 Q67), o 69 (.bin .shl Q68 (.const (.int .u64 56)) (some (.int .u64))), o 70 (.bin .or Q64 Q69 (some (.int .u64))), oM 2 70]
 .ret)))⟩
theorem F130_ok:Bm Tryz.prog 130=some F130:=by kernel_rfl
def X131:CF 131:=by refine⟨?_,?h⟩;rotate_left;conv=>lhs;cbv
def F131:FC:=X131.1
theorem F131_ok:Bm Tryz.prog 131=some F131:=X131.2
def X132:CF 132:=by refine⟨?_,?h⟩;rotate_left;conv=>lhs;cbv
def F132:FC:=X132.1
theorem F132_ok:Bm Tryz.prog 132=some F132:=X132.2
def X133:CF 133:=by refine⟨?_,?h⟩;rotate_left;conv=>lhs;cbv
def F133:FC:=X133.1
theorem F133_ok:Bm Tryz.prog 133=some F133:=X133.2
def X134:CF 134:=by refine⟨?_,?h⟩;rotate_left;conv=>lhs;cbv
def F134:FC:=X134.1
theorem F134_ok:Bm Tryz.prog 134=some F134:=X134.2
def X135:CF 135:=by refine⟨?_,?h⟩;rotate_left;conv=>lhs;cbv
def F135:FC:=X135.1
theorem F135_ok:Bm Tryz.prog 135=some F135:=X135.2
def X136:CF 136:=by refine⟨?_,?h⟩;rotate_left;conv=>lhs;cbv
def F136:FC:=X136.1
theorem F136_ok:Bm Tryz.prog 136=some F136:=X136.2
def X155:CF 155:=by refine⟨?_,?h⟩;rotate_left;conv=>lhs;cbv
def F155:FC:=X155.1
theorem F155_ok:Bm Tryz.prog 155=some F155:=X155.2
def X156:CF 156:=by refine⟨?_,?h⟩;rotate_left;conv=>lhs;cbv
def F156:FC:=X156.1
theorem F156_ok:Bm Tryz.prog 156=some F156:=X156.2
def X157:CF 157:=by refine⟨?_,?h⟩;rotate_left;conv=>lhs;cbv
def F157:FC:=X157.1
theorem F157_ok:Bm Tryz.prog 157=some F157:=X157.2
def X158:CF 158:=by refine⟨?_,?h⟩;rotate_left;conv=>lhs;cbv
def F158:FC:=X158.1
theorem F158_ok:Bm Tryz.prog 158=some F158:=X158.2
def X159:CF 159:=by refine⟨?_,?h⟩;rotate_left;conv=>lhs;cbv
def F159:FC:=X159.1
theorem F159_ok:Bm Tryz.prog 159=some F159:=X159.2
def X160:CF 160:=by refine⟨?_,?h⟩;rotate_left;conv=>lhs;cbv
def F160:FC:=X160.1
theorem F160_ok:Bm Tryz.prog 160=some F160:=X160.2
def X161:CF 161:=by refine⟨?_,?h⟩;rotate_left;conv=>lhs;cbv
def F161:FC:=X161.1
theorem F161_ok:Bm Tryz.prog 161=some F161:=X161.2
def X162:CF 162:=by refine⟨?_,?h⟩;rotate_left;conv=>lhs;cbv
def F162:FC:=X162.1
theorem F162_ok:Bm Tryz.prog 162=some F162:=X162.2
def X163:CF 163:=by refine⟨?_,?h⟩;rotate_left;conv=>lhs;cbv
def F163:FC:=X163.1
theorem F163_ok:Bm Tryz.prog 163=some F163:=X163.2
def X164:CF 164:=by refine⟨?_,?h⟩;rotate_left;conv=>lhs;cbv
def F164:FC:=X164.1
theorem F164_ok:Bm Tryz.prog 164=some F164:=X164.2
def X165:CF 165:=by refine⟨?_,?h⟩;rotate_left;conv=>lhs;cbv
def F165:FC:=X165.1
theorem F165_ok:Bm Tryz.prog 165=some F165:=X165.2
def X166:CF 166:=by refine⟨?_,?h⟩;rotate_left;conv=>lhs;cbv
def F166:FC:=X166.1
theorem F166_ok:Bm Tryz.prog 166=some F166:=X166.2
def X167:CF 167:=by refine⟨?_,?h⟩;rotate_left;conv=>lhs;cbv
def F167:FC:=X167.1
theorem F167_ok:Bm Tryz.prog 167=some F167:=X167.2
def X168:CF 168:=by refine⟨?_,?h⟩;rotate_left;conv=>lhs;cbv
def F168:FC:=X168.1
theorem F168_ok:Bm Tryz.prog 168=some F168:=X168.2
def X169:CF 169:=by refine⟨?_,?h⟩;rotate_left;conv=>lhs;cbv
def F169:FC:=X169.1
theorem F169_ok:Bm Tryz.prog 169=some F169:=X169.2
def X170:CF 170:=by refine⟨?_,?h⟩;rotate_left;conv=>lhs;cbv
def F170:FC:=X170.1
theorem F170_ok:Bm Tryz.prog 170=some F170:=X170.2
def X171:CF 171:=by refine⟨?_,?h⟩;rotate_left;conv=>lhs;cbv
def F171:FC:=X171.1
theorem F171_ok:Bm Tryz.prog 171=some F171:=X171.2
def D32:DF:=⟨14,[.cell 4 true 4,.tmp 5,.cell 6 false 1],
 [(.ops [⟨(some 4),.alloc [(.bool false),(.int .i64 0),(.string ⟨#[]⟩),(.slice none 0 0)],none⟩,
  ⟨(some 5),.mov (.const (.int .i64 0)),none⟩,
  ⟨(some 6),.alloc [(.int .i64 0)],none⟩])],
 [],(.func 50),[(.tmp 6)],
 [(.seq (.ops [⟨(some 7),.alloc [(.int .i64 0)],none⟩,
  ⟨none,.store 1 (.tmp 7) (.const (.int .i64 4194304)),none⟩])
 (.seq (.ops [⟨(some 8),.mov (.tmp 0),none⟩,
  ⟨(some 9),.mov (.tmp 1),none⟩,
  ⟨(some 10),.call 51 [(.tmp 8),(.tmp 9),(.tmp 7)],none⟩,
  ⟨none,.store 4 (.tmp 4) (.tmp 10),none⟩])
 (.seq (.ops [⟨(some 11),.load true 4 (.tmp 4),none⟩,
  ⟨(some 12),.load false 1 (.tmp 7),none⟩,
  ⟨(some 13),.bin .sub (.const (.int .i64 4194304)) (.tmp 12) (some (.int .i64)),none⟩,
  ⟨none,.store 4 (.tmp 4) (.tmp 11),none⟩,
  ⟨none,.again 12 false 1 (.tmp 7),none⟩,
  ⟨(some 5),.mov (.tmp 13),none⟩,
  ⟨none,.store 1 (.tmp 6) (.const (.int .i64 0)),none⟩])
 .ret)))]⟩
theorem R3:HL Tryz.prog 32=some D32:=by kernel_rfl
def R50:RF:=⟨18,[],(some (some 5)),
 [⟨(some 2),.mov (.tmp 5),none⟩],
 [(.seq (.ops [⟨(some 6),.mov (.tmp 2),none⟩,
  ⟨(some 7),.bin .neq (.tmp 6) (.const .nilIface) (some (.interface #[])),none⟩])
 (.cond (.tmp 7)
 (.seq (.seq (.ops [⟨(some 9),.mov (.tmp 2),none⟩,
  ⟨(some 10),.bad,none⟩,
  ⟨(some 8),.mov (.tmp 10),none⟩,
  ⟨(some 11),.extract (.tmp 8) 0,none⟩,
  ⟨(some 12),.extract (.tmp 8) 1,none⟩,
  ⟨(some 3),.alloc [],none⟩,
  ⟨none,.store 0 (.tmp 3) (.tmp 11),none⟩,
  ⟨(some 4),.mov (.tmp 12),none⟩])
 (.seq (.ops [⟨(some 13),.mov (.tmp 4),none⟩,
  ⟨(some 14),.un .not (.tmp 13),none⟩])
 (.cond (.tmp 14)
 (.ops [⟨(some 15),.mov (.tmp 2),none⟩,
  ⟨none,.bad,none⟩])
 .skip)))
 (.ops [⟨(some 16),.mov (.tmp 0),none⟩,
  ⟨(some 17),.nilCheck (.tmp 16),none⟩,
  ⟨none,.store 1 (.tmp 17) (.const (.int .i64 7)),none⟩]))
 .skip))]⟩
theorem Rs:Hp Tryz.prog 50=some R50:=by kernel_rfl
def U0:List (Nat×FC):=[(4,F4),(5,F5),(10,F10),(11,F11),(12,F12),(13,F13),(14,F14),(15,F15),(16,F16),(17,F17),(26,F26),(27,F27),(28,F28),(29,F29),(30,F30),(31,F31),(34,F34),(42,F42),(43,F43),(45,F45),(46,F46),(47,F47),(48,F48),(49,F49),(51,F51),(53,F53),(54,F54),(55,F55),(63,F63),(64,F64),(65,F65),(66,F66),(67,F67),(69,F69),(70,F70),(71,F71),(72,F72),(73,F73),(76,F76),(77,F77),(79,F79),(82,F82),(91,F91),(92,F92),(93,F93),(94,F94),(95,F95),(96,F96),(99,F99),(101,F101),(102,F102),(103,F103),(107,F107),(108,F108),(110,F110),(115,F115),(116,F116),(117,F117),(118,F118),(119,F119),(121,F121),(122,F122),(123,F123),(124,F124),(125,F125),(127,F127),(128,F128),(129,F129),(131,F131),(132,F132),(133,F133),(134,F134),(135,F135),(136,F136),(158,F158),(159,F159),(160,F160),(161,F161),(168,F168),(171,F171)]
theorem zAB:Jt (Bm Tryz.prog) U0:=⟨F4_ok,F5_ok,F10_ok,F11_ok,F12_ok,F13_ok,F14_ok,F15_ok,F16_ok,F17_ok,F26_ok,F27_ok,F28_ok,F29_ok,F30_ok,F31_ok,F34_ok,F42_ok,F43_ok,F45_ok,F46_ok,F47_ok,F48_ok,F49_ok,F51_ok,F53_ok,F54_ok,F55_ok,F63_ok,F64_ok,F65_ok,F66_ok,F67_ok,F69_ok,F70_ok,F71_ok,F72_ok,F73_ok,F76_ok,F77_ok,F79_ok,F82_ok,F91_ok,F92_ok,F93_ok,F94_ok,F95_ok,F96_ok,F99_ok,F101_ok,F102_ok,F103_ok,F107_ok,F108_ok,F110_ok,F115_ok,F116_ok,F117_ok,F118_ok,F119_ok,F121_ok,F122_ok,F123_ok,F124_ok,F125_ok,F127_ok,F128_ok,F129_ok,F131_ok,F132_ok,F133_ok,F134_ok,F135_ok,F136_ok,F158_ok,F159_ok,F160_ok,F161_ok,F168_ok,F171_ok,trivial⟩
def TW:List (Nat×DF):=[(32,D32)]
theorem zCH:Jt (HL Tryz.prog) TW:=⟨R3,trivial⟩
def TD:List (Nat×RF):=[(50,R50)]
theorem ZC:Jt (Hp Tryz.prog) TD:=⟨Rs,trivial⟩
def tab:Tab:=⟨IB U0,IB TW,IB TD⟩
theorem WN:tab.OK Tryz.prog:=⟨K9 zAB,K9 zCH,K9 ZC⟩
theorem hd:Hd Tryz.prog gs:=zB8 (by kernel_rfl)
theorem zEr:NX gs tab 100000 5 []=some (.sb true):=by kernel_rfl
theorem zDz(h:EH):Tri Tryz.prog gs 5 [] h fun v h'=>v = .sb true/\h'=h:=
 Tri.litC (φ:=fun v=>v = .sb true) (fun v hv=>by rw[hv];rfl) rfl ((Tri.closed hd WN (zCD zEr) rfl).2.mono fun v h' hx=>hx.1) h
inductive Fld where
 |mk (nm:ByteArray) (nul:Bool) (kind width id idx:Int) (kids:List Fld)
mutual
def Bo:Fld->List EV
 | .mk nm nul k w i x kids=>[.lit (.string nm),.lit (.bool nul),.lit (.int .i64 k),.lit (.int .i64 w),.lit (.int .i64 i),.lit (.int .i64 x),.isl kids.length none (Bl kids)]
def Bl:List Fld->List EV
 |[]=>[]
 |f::l=>Bo f++Bl l
end
def BH(n:Int):Prop:= -9223372036854775808<=n/\n<=9223372036854775807
mutual
def okF:Fld->Prop
 | .mk nm nul k w i x kids=>nm.size<=140737488351232/\BH k/\BH w/\BH i/\BH x/\kids.length<=140737488351232/\Gg kids
def Gg:List Fld->Prop
 |[]=>True
 |f::l=>okF f/\Gg l
end
inductive Val where
 |mk (null:Bool) (num:Int) (text:ByteArray) (kids:List Val)
mutual
def BK:Val->List EV
 | .mk b n t l=>[.lit (.bool b),.lit (.int .i64 n),.lit (.string t),.isl l.length none (BE l)]
def BE:List Val->List EV
 |[]=>[]
 |v::l=>BK v++BE l
end
mutual
def okV:Val->Prop
 | .mk b n t l=>BH n/\t.size<=140737488351232/\l.length<=140737488351232/\Wl l
def Wl:List Val->Prop
 |[]=>True
 |v::l=>okV v/\Wl l
end
theorem G1(f:Fld):(Bo f).length=7:=by cases f;rfl
theorem zD6(v:Val):(BK v).length=4:=by cases v;rfl
theorem Lx:∀l:List Fld,(Bl l).length=7*l.length
 |[]=>rfl
 |f::l=>by simp only[Bl,List.length_append,G1,Lx l,List.length_cons];omega
theorem Ec:∀l:List Val,(BE l).length=4*l.length
 |[]=>rfl
 |v::l=>by simp only[BE,List.length_append,zD6,Ec l,List.length_cons];omega
theorem Kz{α:Type}{n:Nat}{cells:α->List EV}{cellss:List α->List EV}{ok:α->Prop}{oks:List α->Prop}(h0:cellss []=[])(h1:∀a l,cellss (a::l)=cells a++cellss l)(o0:oks [])(o1:∀a l,ok a->oks l->oks (a::l)) :
  ∀(len:Nat) (c:List EV),c.length=len*n->(∀i,i<len->∃a,(c.drop (i*n)).take n=cells a/\ok a)->∃l:List α,l.length=len/\c=cellss l/\oks l
 |0,c,hl,_=>⟨[],rfl,by rw[h0];exact List.length_eq_zero_iff.1 (by omega),o0⟩
 |len+1,c,hl,h=>by
  obtain⟨a,e1,e2⟩:=h 0 (by omega)
  obtain⟨l,k1,k2,k3⟩:=Kz (n:=n) h0 h1 o0 o1 len (c.drop n) (by rw[lD,hl,Nat.add_mul];omega) (fun i hi=>by
   obtain⟨b,q1,q2⟩:=h (i+1) (by omega)
   refine⟨b,?_,q2⟩;rw[List.drop_drop,<-q1];congr 2;rw[Nat.add_mul];omega)
  refine⟨a::l,by simp[k1],?_,o1 a l e2 k3⟩
  rw[h1,<-e1,<-k2];simp
def tys:List TypeId:=[26,24,22,33,31,35,72,70,99,62,5,3,2,9,4]
theorem DB{c:List EV}{x:EV}(h:c.take 1=[x]):c=x::c.drop 1:=by
 match c,h with
 |y::l,h=>simp at h;subst h;rfl
theorem YJ:Tryz.prog.cellsOf 4=1:=by kernel_rfl
theorem Hr:Tryz.prog.cellsOf 3=1:=by kernel_rfl
theorem zDx:Tryz.prog.cellsOf 9=1:=by kernel_rfl
theorem zAt:Tryz.prog.cellsOf 26=7:=by kernel_rfl
theorem ZE:Tryz.prog.cellsOf 24=5:=by kernel_rfl
theorem YO:Tryz.prog.cellsOf 22=1:=by kernel_rfl
theorem zCk:∀(m:Nat) (c:List EV),HasT Tryz.prog m 26 c->∃f,c=Bo f/\okF f:=by
 intro m
 induction m using Nat.strongRecOn with
 |_ m ih=>
 intro c h
 obtain⟨m1,rfl,g1⟩:=HasT.struct Tryz.underlying26 h
 obtain⟨_,h1,g2⟩:=HasTF.cons g1 rfl zDx
 obtain⟨_,h2,g3⟩:=HasTF.cons g2 rfl YJ
 obtain⟨_,h3,g4⟩:=HasTF.cons g3 rfl ZE
 have h4:=HasTF.nil g4
 obtain⟨nm,e1,q1⟩:=HasT.str Tryz.underlying9 h1
 obtain⟨nul,e2⟩:=HasT.bool Tryz.underlying4 h2
 obtain⟨m2,rfl,g5⟩:=HasT.struct Tryz.underlying24 h3
 obtain⟨_,h5,g6⟩:=HasTF.cons g5 rfl Hr
 obtain⟨_,h6,g7⟩:=HasTF.cons g6 rfl Hr
 obtain⟨_,h7,g8⟩:=HasTF.cons g7 rfl Hr
 obtain⟨_,h8,g9⟩:=HasTF.cons g8 rfl Hr
 obtain⟨_,h9,g10⟩:=HasTF.cons g9 rfl YO
 have h10:=HasTF.nil g10
 obtain⟨k,e5,q5⟩:=HasT.int Tryz.underlying3 h5
 obtain⟨w,e6,q6⟩:=HasT.int Tryz.underlying3 h6
 obtain⟨i,e7,q7⟩:=HasT.int Tryz.underlying3 h7
 obtain⟨x,e8,q8⟩:=HasT.int Tryz.underlying3 h8
 obtain⟨m3,len,l,rfl,e9,q9,hl,hk⟩:=HasT.slice Tryz.underlying22 zAt h9
 obtain⟨kids,k1,k2,k3⟩:=Kz (n:=7) (cells:=Bo) (cellss:=Bl) (ok:=okF) (oks:=Gg) rfl (fun _ _=>rfl) trivial (fun _ _ a b=>⟨a,b⟩) len l hl (fun i hi=>ih m3 (by omega) _ (hk i hi))
 refine⟨.mk nm nul k w i x kids,?_,q1,q5,q6,q7,q8,by omega,k3⟩
 have d1:=DB e1
 have d2:=DB e2
 have d5:=DB e5
 have d6:=DB e6
 have d7:=DB e7
 have d8:=DB e8
 have d9:=DB e9
 have d10:((c.drop 1).drop 1)=((c.drop 1).drop 1).take 5++[]:=by
  conv=>lhs;rw[<-List.take_append_drop 5 ((c.drop 1).drop 1),h4]
 rw[d1,d2,d10,d5,d6,d7,d8,d9,h10,<-k1,k2]
 rfl
def bs(s:ByteArray)(i:Nat):Int:=stdA.bat s i
def Jc(c:Int):Prop:=97<=c/\c<=122\/65<=c/\c<=90\/48<=c/\c<=57\/c=95
def HU(s:ByteArray):Prop:=0<s.size/\s.size<=48/\(∀i,i<s.size->Jc (bs s i))/\¬(48<=bs s 0/\bs s 0<=57)
def Fld.nm:Fld->ByteArray | .mk a _ _ _ _ _ _=>a
def Fld.nul:Fld->Bool | .mk _ a _ _ _ _ _=>a
def Fld.kind:Fld->Int | .mk _ _ a _ _ _ _=>a
def Fld.width:Fld->Int | .mk _ _ _ a _ _ _=>a
def Fld.id:Fld->Int | .mk _ _ _ _ a _ _=>a
def Fld.idx:Fld->Int | .mk _ _ _ _ _ a _=>a
def Fld.kids:Fld->List Fld | .mk _ _ _ _ _ _ a=>a
def Dl(l:List Fld):Bool:=match l with|[]=>false|f::_=>f.nul
def Cl(k w i x:Int)(n:Nat):Prop:=
 1<=k/\k<=20/\
  if k=14 then 1<=w/\w<=16/\i=0/\x=0/\n=0
  else if k=15\/k=20 then w=0/\i=0/\x=0/\n=1
  else if k=16 then 1<=w/\w<=64/\i=0/\x=0/\n=1
  else if k=17 then w=0/\i=0/\x=0/\n<=32
  else if k=18 then w=0/\i=0/\x=0/\1<=n/\n<=32
  else if k=19 then w=0/\0<=i/\i<32/\3<=x/\x<=10/\n=1
  else w=0/\i=0/\x=0/\n=0
def I5(nul:Bool)(k:Int)(kids:List Fld):Prop:=(k=1->nul=true)/\(k=18->nul=false)/\(k=20->nul=Dl kids)
structure Pl where
 path:List Nat
 ahead:List Fld
 f:Fld
 inD:Bool
mutual
def Cq(path:List Nat)(ahead:List Fld)(inD:Bool):Fld->List Pl
 | .mk a b k w i x kids=>⟨path++[ahead.length],ahead,.mk a b k w i x kids,inD⟩::(if path.length<64 then BM (path++[ahead.length]) [] (inD||decide (k=19)) kids else [])
def BM(path:List Nat)(ahead:List Fld)(inD:Bool):List Fld->List Pl
 |[]=>[]
 |f::l=>Cq path ahead inD f++BM path (ahead++[f]) inD l
end
def okN(prev:List Pl)(p:Pl):Prop:=
 p.path.length<=64/\HU p.f.nm/\(∀g∈p.ahead,g.nm≠p.f.nm)/\Cl p.f.kind p.f.width p.f.id p.f.idx p.f.kids.length/\I5 p.f.nul p.f.kind p.f.kids/\
 ¬(p.inD=true/\(p.f.kind=19\/p.f.kind=20))/\¬(p.f.kind=19/\(Dl p.f.kids=true\/∃o∈prev,o.f.kind=19/\o.f.id=p.f.id))
def Ce(prev:List Pl):List Pl->Prop
 |[]=>True
 |p::l=>prev.length<256/\okN prev p/\Ce (prev++[p]) l
theorem Gh:∀(l m prev:List Pl),Ce prev (l++m)↔Ce prev l/\Ce (prev++l) m
 |[],m,prev=>by simp[Ce]
 |p::l,m,prev=>by
  have:=Gh l m (prev++[p]);simp only[lC,Ce,this,lA,lN,and_assoc]
theorem Up.agg3'{a b c a':EV}(h:Up a a'):Up (.agg [a,b,c]) (.agg [a',b,c]):=fun w I ρ cv hr=>by
 cases hr with
 |agg _ cc vs hl hc=>
  refine .agg _ _ _ (by simpa using hl) fun j x v he hv=>?_
  match j,he with
  |0,he=>simp at he;subst he;exact h _ _ _ _ (hc 0 _ v rfl hv)
  |1,he=>simp at he;subst he;exact hc 1 _ v rfl hv
  |2,he=>simp at he;subst he;exact hc 2 _ v rfl hv
def vw(b:List Nat):EV:=.agg [isB b,.lit (.int .i64 0),.lit (.pointer none)]
theorem zAE(b:List Nat)(h:EH):Tri Tryz.prog gs 132 [isB b] h fun v h'=>v=vw b/\h'=h:=by
 refine Tri.valA rfl rfl (Tri.up (R:=fun v _=>Up v (vw b)) ?_ fun v h' hu=>⟨_,rfl,hu⟩) h
 unfold vw isB
 obtain⟨n,hn⟩:∃n,n=b.length:=⟨_,rfl⟩
 obtain⟨c,hc⟩:∃c,c=Br b:=⟨_,rfl⟩
 rw[<-hn,<-hc]
 refine Bj F132_ok fun I0 ρ0 w0 Q hρ hQ=>?_
 obtain⟨A,hA⟩:∃A,A=stdA:=⟨_,rfl⟩
 with_reducible refine Be hA hd hQ 200 ?hk ?_
 case hk=>trivial
 conv=>arg 9;cbv
 try simp only[OK]
 repeat' first|((with_reducible refine⟨fun hbr=>?_,fun hbr=>?_⟩)<;>(try simp(disch:=omega)only[hA,Ba]at hbr)<;>(try (with_reducible exfalso;omega)))|((with_reducible refine Bd hA hd hQ 200 ?hk ?_);(case hk=>trivial);(conv=>arg 9;cbv);(try simp only[OK]))|((with_reducible refine Bp ?hn ?_);(case hn=>((simp(disch:=omega)only[hA,Ba])<;>omega)))
 ·exact fI_ rfl (Up.agg3' (by rw[hbr];exact Up.refl _))
 ·refine fI_ rfl (Up.agg3' ?_)
  rw[hA];exact Up.cap n _ c
theorem ZP(b:List Nat)(h:EH):Tri Tryz.prog gs 133 [vw b,.lit (.pointer none)] h fun v h'=>v=vw b/\h'=h:=by
 unfold vw isB
 generalize b.length=n,Br b=c
 refine Tri.valA rfl rfl (Bj F133_ok fun I0 ρ0 w0 Q hρ hQ=>?_) h
 obtain⟨A,hA⟩:∃A,A=stdA:=⟨_,rfl⟩
 with_reducible refine Be hA hd hQ 200 ?hk ?_
 case hk=>trivial
 conv=>arg 9;cbv
 try simp only[OK]
 exact fI_ rfl rfl
theorem LW(b:List Nat)(p k:Int)(hb:b.length<=65536)(hp:BH p)(hk:BH k)(h:EH):Tri Tryz.prog gs 134 [vw b,.lit (.int .i64 p),.lit (.int .i64 k)] h fun v h'=>IsP (0<=p/\0<=k/\p+k<=b.length) v/\h'=h:=by
 unfold vw isB
 unfold BH at hp hk
 generalize b.length=n,Br b=c at *
 refine Tri.boolC rfl (Bj F134_ok fun I0 ρ0 w0 Q hρ hQ=>?_) h
 obtain⟨A,hA⟩:∃A,A=stdA:=⟨_,rfl⟩
 with_reducible refine Be hA hd hQ 200 ?hk ?_
 case hk=>trivial
 conv=>arg 9;cbv
 try simp only[OK]
 repeat' first|((with_reducible refine⟨fun hbr=>?_,fun hbr=>?_⟩)<;>(try simp(disch:=omega)only[hA,Ba]at hbr)<;>(try (with_reducible exfalso;omega)))|((with_reducible refine Bd hA hd hQ 200 ?hk ?_);(case hk=>trivial);(conv=>arg 9;cbv);(try simp only[OK]))
 all_goals (try (with_reducible refine FinR.self ?_;first|refine FinR.bl rfl ?_|refine FinR.bs rfl ?_|refine FinR.blh rfl ?_ rfl|refine FinR.bsh rfl ?_ rfl))
 all_goals (try simp(disch:=omega)only[hA,Ba,bF,false_iff])
 all_goals omega
theorem Pt(b:List Nat)(p k:Nat)(hb:b.length<=65536)(hpk:p+k<=b.length)(h:EH) :
  Tri Tryz.prog gs 135 [vw b,.lit (.int .i64 p),.lit (.int .i64 k)] h fun v h'=>v=isB ((b.drop p).take k)/\h'=h:=by
 refine Tri.valA rfl rfl (Tri.up (R:=fun v _=>Up v (isB ((b.drop p).take k))) ?_ fun v h' hu=>⟨_,rfl,hu⟩) h
 unfold vw isB
 obtain⟨n,hn⟩:∃n,n=b.length:=⟨_,rfl⟩
 obtain⟨c,hc⟩:∃c,c=Br b:=⟨_,rfl⟩
 obtain⟨p',hp⟩:∃q:Int,q=p:=⟨_,rfl⟩
 obtain⟨k',hk⟩:∃q:Int,q=k:=⟨_,rfl⟩
 rw[<-hn,<-hc,<-hp,<-hk]
 refine Bj F135_ok fun I0 ρ0 w0 Q hρ hQ=>?_
 obtain⟨A,hA⟩:∃A,A=stdA:=⟨_,rfl⟩
 with_reducible refine Be hA hd hQ 200 ?hk ?_
 case hk=>trivial
 conv=>arg 9;cbv
 try simp only[OK]
 repeat' first|((with_reducible refine⟨fun hbr=>?_,fun hbr=>?_⟩)<;>(try simp(disch:=omega)only[hA,Ba]at hbr)<;>(try (with_reducible exfalso;omega)))|((with_reducible refine Bd hA hd hQ 200 ?hk ?_);(case hk=>trivial);(conv=>arg 9;cbv);(try simp only[OK]))|((with_reducible refine Bp ?hn ?_);(case hn=>((simp(disch:=omega)only[hA,Ba])<;>omega)))
 ·refine fI_ rfl ?_
  have hb0:b=[]:=List.length_eq_zero_iff.1 (by omega)
  subst hb0;rw[hc];simp only[List.drop_nil,List.take_nil];exact Up.refl _
 ·refine fI_ rfl ?_
  have e1:A.sub (A.tn (A.ib .add .i64 p' k')) (A.tn p')=((b.drop p).take k).length:=by
   rw[lK,lD];simp(disch:=omega)only[hA,Ba];omega
  have e2:A.drp (A.mul (A.tn p') 1) c=Br (b.drop p):=by
   simp(disch:=omega)only[hA,Ba];rw[hc,GW,hp,Int.toNat_natCast]
  refine Up.trans (b:=.isl ((b.drop p).take k).length none (Br (b.drop p))) ?_ ?_
  ·rw[<-e1,<-e2]
   exact Up.cap _ _ _
  ·have:=Up.pre ((b.drop p).take k).length none (Br (b.drop p)) k
   rw[Ki]at this;exact this
theorem zCc(w:Int)(h:EH):Tri Tryz.prog gs 160 [.lit (.int .i64 w)] h fun v h'=>IsP (w=1\/w=2\/w=4\/w=8) v/\h'=h:=by
 refine Tri.boolC rfl (Bj F160_ok fun I0 ρ0 w0 Q hρ hQ=>?_) h
 obtain⟨A,hA⟩:∃A,A=stdA:=⟨_,rfl⟩
 with_reducible refine Be hA hd hQ 200 ?hk ?_
 case hk=>trivial
 conv=>arg 9;cbv
 try simp only[OK]
 repeat' first|((with_reducible refine⟨fun hbr=>?_,fun hbr=>?_⟩)<;>(try simp(disch:=omega)only[hA,Ba]at hbr)<;>(try (with_reducible exfalso;omega)))|((with_reducible refine Bd hA hd hQ 200 ?hk ?_);(case hk=>trivial);(conv=>arg 9;cbv);(try simp only[OK]))
 all_goals (try (with_reducible refine FinR.self ?_;first|refine FinR.bl rfl ?_|refine FinR.bs rfl ?_|refine FinR.blh rfl ?_ rfl|refine FinR.bsh rfl ?_ rfl))
 all_goals (try simp(disch:=omega)only[hA,Ba,true_iff,eq_self])
 all_goals omega
theorem zAv(b:List Nat)(hb:b.length<=8)(ha:AllB b)(h:EH):Tri Tryz.prog gs 161 [isB b] h fun v h'=>v = .lit (.int .u64 (leV b:Nat))/\h'=h:=by
 refine Tri.valA rfl rfl ?_ h
 unfold isB
 obtain⟨M,hM⟩:∃n,n=b.length:=⟨_,rfl⟩
 obtain⟨d,hd'⟩:∃c,c=Br b:=⟨_,rfl⟩
 rw[<-hM,<-hd']
 refine Bj F161_ok fun I0 ρ0 w0 Q hρ hQ=>?_
 obtain⟨A,hA⟩:∃A,A=stdA:=⟨_,rfl⟩
 with_reducible refine Be hA hd hQ 200 ?hk ?_
 case hk=>trivial
 conv=>arg 9;cbv
 try simp only[OK]
 repeat' first|(with_reducible refine OKK.loop ?_)
 refine oK_ (msk 22 [3,6,7,8]) ?_
 refine oL_ (fun m st=>∃(i a:Int),st=⟨mkT 22 [(3,.lit (.int .u64 a)),(6,.isl M none d),(7,.lit (.int .i64 (A.ofn M))),(8,.lit (.int .i64 i))],[]⟩/\m=(M-i).toNat/\0<=i/\i<=M/\a=(leV (b.take i.toNat):Nat))
  (fun m st hs' ih=>?_) ⟨0,0,rfl,rfl,by omega,by omega,rfl⟩
 obtain⟨i,a,rfl,hm,hi1,hi2,hav⟩:=hs'
 obtain⟨x,hx⟩:∃x:Int,x=(b.getD i.toNat 0:Nat):=⟨_,rfl⟩
 have hL:i<M->List.take 1 (List.drop (A.idx 0 i 1) d)=[.lit (.int .u8 x)]:=fun h=>by
  obtain⟨y,y1,y2⟩:=IK hd' i.toNat (by omega)
  rw[hA,B3,Nat.zero_add,Nat.mul_one,y1,y2,hx]
 with_reducible refine Be hA hd hQ 200 ?hk ?_
 case hk=>trivial
 conv=>arg 9;cbv
 try simp only[OK]
 repeat' first|(with_reducible refine OKK.again ?_)|((with_reducible refine⟨fun hbr=>?_,fun hbr=>?_⟩)<;>(try simp(disch:=omega)only[hA,Ba]at hbr)<;>(try (with_reducible exfalso;omega)))|((with_reducible refine Bd hA hd hQ 200 ?hk ?_);(case hk=>trivial);(conv=>arg 9;cbv);(try simp only[OK]))|((with_reducible refine Bp ?hn ?_);(case hn=>((simp(disch:=omega)only[hA,Ba])<;>omega)))|((refine⟨_,_,?l1,(hL (by omega)),rfl,?_⟩);(case l1=>exact rfl))
 ·have hxl:b.getD i.toNat 0<256:=ha.get _
  have hal:leV (b.take i.toNat)<256^i.toNat:=by
   have:=Hx _ (ha.take i.toNat)
   rwa [lK,Nat.min_eq_left (by omega)]at this
  refine oK_ (msk 22 [3,6,7,8]) (OKs.mv [] [] (by rw[hρ];rfl) ⟨by simp,by simp[Bc],by simp⟩ (ih _ _ ⟨_,_,rfl,rfl,?_,?_,?_⟩ ?_))
  ·simp(disch:=omega)only[hA,Ba]<;>omega
  ·simp(disch:=omega)only[hA,Ba]<;>omega
  ·show A.ib .or .u64 a (A.sh .shl .u64 (A.wr .u64 x) (A.ib .mul .i64 8 i))=(leV (b.take (A.ib .add .i64 i 1).toNat):Nat)
   rw[show (A.ib .add .i64 i 1).toNat=i.toNat+1 by simp(disch:=omega)only[hA,Ba]<;>omega,R7 b _ (by omega),hav,hx,hA,show i=(i.toNat:Int) by omega]
   exact Vq _ _ _ hal hxl (by omega)
  ·simp(disch:=omega)only[hA,Ba]<;>omega
 ·refine⟨_,rfl,?_⟩
  show EV.lit (.int .u64 a)=_;rw[hav,lT (by omega)]
theorem Tc(b:List Nat)(p w:Nat)(hb:b.length<=65536)(ha:AllB b)(hw:w=1\/w=2\/w=4\/w=8)(hpw:p+w<=b.length)(h:EH) :
  Tri Tryz.prog gs 159 [vw b,.lit (.int .i64 p),.lit (.int .i64 w)] h fun v h'=>v = .tup [.lit (.int .u64 (leV ((b.drop p).take w):Nat)),.lit (.int .i64 0)]/\h'=h:=by
 have h1:=zCc w
 have h2:=LW b p w hb (by unfold BH;omega) (by unfold BH;omega)
 have h3:=Pt b p w hb hpw
 have h4:=zAv ((b.drop p).take w) (by rw[lK];omega) ((ha.drop p).take w)
 have c1:(w:Int)=1\/(w:Int)=2\/(w:Int)=4\/(w:Int)=8:=by omega
 have c2:0<=(p:Int)/\0<=(w:Int)/\(p:Int)+w<=b.length:=by omega
 generalize ((w:Int)=1\/(w:Int)=2\/(w:Int)=4\/(w:Int)=8)=P1 at h1 c1
 generalize (0<=(p:Int)/\0<=(w:Int)/\(p:Int)+w<=b.length)=P2 at h2 c2
 generalize leV ((b.drop p).take w)=x at h4 ⊢
 obtain⟨y,hy⟩:∃y:Int,y=(x:Int):=⟨_,rfl⟩
 rw[<-hy]at h4 ⊢
 obtain⟨m,d,hmd⟩:∃m d,isB ((b.drop p).take w) = .isl m none d:=⟨_,_,rfl⟩
 rw[hmd]at h3 h4
 clear hmd
 unfold vw isB at *
 generalize (p:Int)=p',(w:Int)=w',b.length=n,Br b=c at *
 refine Tri.valA rfl rfl (Bj F159_ok fun I0 ρ0 w0 Q hρ hQ=>?_) h
 obtain⟨A,hA⟩:∃A,A=stdA:=⟨_,rfl⟩
 with_reducible refine Be hA hd hQ 200 ?hk ?_
 case hk=>trivial
 conv=>arg 9;cbv
 try simp only[OK]
 repeat' first|((with_reducible refine⟨fun hbr=>?_,fun hbr=>?_⟩)<;>(try simp(disch:=omega)only[hA,Ba,reduceCtorEq]at hbr)<;>(try (with_reducible exfalso;omega)))|((with_reducible refine Bd hA hd hQ 200 ?hk ?_);(case hk=>trivial);(conv=>arg 9;cbv);(try simp only[OK]))|((with_reducible refine cO ?hg ?_);(case hg=>with_reducible exact Bb F160_ok);(refine tM (h1 _) fun v hh hx=>?_);(obtain⟨⟨b,hv,hb⟩,he⟩:=hx;subst hv;subst he;cases b<;>simp(disch:=omega)only[bF,true_iff,false_iff,eq_self]at hb)<;>(try (with_reducible exfalso;omega)))|((with_reducible refine cO ?hg ?_);(case hg=>with_reducible exact Bb F134_ok);(refine tM (h2 _) fun v hh hx=>?_);(obtain⟨⟨b,hv,hb⟩,he⟩:=hx;subst hv;subst he;cases b<;>simp(disch:=omega)only[bF,true_iff,false_iff,eq_self]at hb)<;>(try (with_reducible exfalso;omega)))|((with_reducible refine cO ?hg ?_);(case hg=>with_reducible exact Bb F135_ok);refine tM (h3 _) ?_;rintro _ _ ⟨rfl,rfl⟩)|((with_reducible refine cO ?hg ?_);(case hg=>with_reducible exact Bb F161_ok);refine tM (h4 _) ?_;rintro _ _ ⟨rfl,rfl⟩)
 all_goals first
  |exact absurd c1 (by assumption)
  |exact absurd c2 (by assumption)
  |exact fI_ rfl rfl
  |trace_state
theorem Kk(b:List Nat)(p w:Nat)(hb:b.length<=65536)(ha:AllB b)(hw:w=1\/w=2\/w=4\/w=8)(hpw:p+w<=b.length)(h:EH) :
  Tri Tryz.prog gs 158 [vw b,.lit (.int .i64 p),.lit (.int .i64 w)] h fun v h'=>v = .tup [.lit (.int .i64 (B5 w (leV ((b.drop p).take w)))),.lit (.int .i64 0)]/\h'=h:=by
 have h1:=Tc b p w hb ha hw hpw
 have hlt:leV ((b.drop p).take w)<256^w:=by
  have:=Hx _ ((ha.drop p).take w)
  rwa [lK,lD,Nat.min_eq_left (by omega)]at this
 have hs:=zAD w _ hw hlt
 generalize B5 w (leV ((b.drop p).take w))=S at *
 generalize ((leV ((b.drop p).take w):Nat):Int)=y at *
 have hw8:0<=(w:Int)/\(w:Int)<=8:=by omega
 have hw1:(w:Int)=1\/(w:Int)=2\/(w:Int)=4\/(w:Int)=8:=by omega
 unfold vw isB at *
 generalize (p:Int)=p',(w:Int)=w',b.length=n,Br b=c at *
 refine Tri.valA rfl rfl (Bj F158_ok fun I0 ρ0 w0 Q hρ hQ=>?_) h
 obtain⟨A,hA⟩:∃A,A=stdA:=⟨_,rfl⟩
 with_reducible refine Be hA hd hQ 200 ?hk ?_
 case hk=>trivial
 conv=>arg 9;cbv
 try simp only[OK]
 repeat' first|((with_reducible refine⟨fun hbr=>?_,fun hbr=>?_⟩)<;>(try simp(disch:=omega)only[hA,Ba]at hbr)<;>(try (with_reducible exfalso;omega)))|((with_reducible refine Bd hA hd hQ 200 ?hk ?_);(case hk=>trivial);(conv=>arg 9;cbv);(try simp only[OK]))|((with_reducible refine Bp ?hn ?_);(case hn=>((simp(disch:=omega)only[hA,Ba])<;>omega)))|((with_reducible refine cO ?hg ?_);(case hg=>with_reducible exact Bb F159_ok);refine tM (h1 _) ?_;rintro _ _ ⟨rfl,rfl⟩)
 refine fI_ rfl ?_
 rw[<-hs,hA]
 rfl
theorem Pb(b:List Nat)(p:Nat)(hb:b.length<=65536)(hp:p<b.length)(h:EH) :
  Tri Tryz.prog gs 125 [vw b,.lit (.int .i64 p)] h fun v h'=>v = .tup [.lit (.int .u8 (b.getD p 0:Nat)),.lit (.int .i64 0)]/\h'=h:=by
 have h2:=LW b p 1 hb (by unfold BH;omega) (by unfold BH;omega)
 have h3:=Pt b p 1 hb (by omega)
 have c2:0<=(p:Int)/\0<=(1:Int)/\(p:Int)+1<=b.length:=by omega
 generalize (0<=(p:Int)/\0<=(1:Int)/\(p:Int)+1<=b.length)=P2 at h2 c2
 have e:(b.drop p).take 1=[b.getD p 0]:=by
  rw[List.drop_eq_getElem_cons hp,lG,lE hp];rfl
 rw[e]at h3
 generalize b.getD p 0=x at h3 ⊢
 unfold vw isB at *
 simp only[List.length_singleton,Br,List.map_cons,List.map_nil,Gp]at h3
 generalize (x:Int)=y at h3 ⊢
 rw[show ((1:Nat):Int)=1 from rfl]at h3
 change ∀h:EH,Tri Tryz.prog gs 135 [.agg [.isl b.length none (Br b),.lit (.int .i64 0),.lit (.pointer none)],.lit (.int .i64 p),.lit (.int .i64 1)] h fun v h'=>v = .isl 1 none [.lit (.int .u8 y)]/\h'=h at h3
 generalize (p:Int)=p',b.length=n,Br b=c at *
 refine Tri.valA rfl rfl (Bj F125_ok fun I0 ρ0 w0 Q hρ hQ=>?_) h
 obtain⟨A,hA⟩:∃A,A=stdA:=⟨_,rfl⟩
 have hL:List.take 1 (List.drop (A.idx 0 0 1) ([.lit (.int .u8 y)]:List EV))=[.lit (.int .u8 y)]:=by rw[hA];rfl
 with_reducible refine Be hA hd hQ 200 ?hk ?_
 case hk=>trivial
 conv=>arg 9;cbv
 try simp only[OK]
 repeat' first|((with_reducible refine⟨fun hbr=>?_,fun hbr=>?_⟩)<;>(try simp(disch:=omega)only[hA,Ba,reduceCtorEq]at hbr)<;>(try (with_reducible exfalso;omega)))|((with_reducible refine Bd hA hd hQ 200 ?hk ?_);(case hk=>trivial);(conv=>arg 9;cbv);(try simp only[OK]))|((with_reducible refine Bp ?hn ?_);(case hn=>((simp(disch:=omega)only[hA,Ba])<;>omega)))|((refine⟨_,_,?l1,hL,rfl,?_⟩);(case l1=>exact rfl))|((with_reducible refine cO ?hg ?_);(case hg=>with_reducible exact Bb F134_ok);(refine tM (h2 _) fun v hh hx=>?_);(obtain⟨⟨b,hv,hb⟩,he⟩:=hx;subst hv;subst he;cases b<;>simp(disch:=omega)only[bF,true_iff,false_iff,eq_self]at hb)<;>(try (with_reducible exfalso;omega)))|((with_reducible refine cO ?hg ?_);(case hg=>with_reducible exact Bb F135_ok);refine tM (h3 _) ?_;rintro _ _ ⟨rfl,rfl⟩)
 all_goals first
  |exact absurd c2 (by assumption)
  |exact fI_ rfl rfl
  |trace_state
theorem Wu(b:List Nat)(p k:Nat)(hb:b.length<=65536)(ha:AllB b)(hpk:p+k<=b.length)(h:EH) :
  Tri Tryz.prog gs 157 [vw b,.lit (.int .i64 p),.lit (.int .i64 k)] h fun v h'=>v = .tup [.lit (.string (CH ((b.drop p).take k))),.lit (.int .i64 0)]/\h'=h:=by
 have h2:=LW b p k hb (by unfold BH;omega) (by unfold BH;omega)
 have h3:=Pt b p k hb hpk
 have c2:0<=(p:Int)/\0<=(k:Int)/\(p:Int)+k<=b.length:=by omega
 generalize (0<=(p:Int)/\0<=(k:Int)/\(p:Int)+k<=b.length)=P2 at h2 c2
 have hab:=(ha.drop p).take k
 generalize (b.drop p).take k=X at *
 have hdec:stdA.dec (stdA.tak X.length (Br X))=CH X:=by
  rw[C7,lT (by rw[JK];omega),Lu]
 have hbyt:stdA.byt X.length (Br X)=true:=Ku hab (Nat.le_refl _)
 unfold vw isB at *
 generalize CH X=S at *
 generalize X.length=xn,Br X=xc,(p:Int)=p',(k:Int)=k',b.length=n,Br b=c at *
 refine Tri.valA rfl rfl (Bj F157_ok fun I0 ρ0 w0 Q hρ hQ=>?_) h
 obtain⟨A,hA⟩:∃A,A=stdA:=⟨_,rfl⟩
 rw[<-hA]at hdec hbyt
 with_reducible refine Be hA hd hQ 200 ?hk ?_
 case hk=>trivial
 conv=>arg 9;cbv
 try simp only[OK]
 repeat' first|((with_reducible refine⟨fun hbr=>?_,fun hbr=>?_⟩)<;>(try simp(disch:=omega)only[hA,Ba,reduceCtorEq]at hbr)<;>(try (with_reducible exfalso;omega)))|((with_reducible refine Bd hA hd hQ 200 ?hk ?_);(case hk=>trivial);(conv=>arg 9;cbv);(try simp only[OK]))|((with_reducible refine cO ?hg ?_);(case hg=>with_reducible exact Bb F134_ok);(refine tM (h2 _) fun v hh hx=>?_);(obtain⟨⟨b,hv,hb⟩,he⟩:=hx;subst hv;subst he;cases b<;>simp(disch:=omega)only[bF,true_iff,false_iff,eq_self]at hb)<;>(try (with_reducible exfalso;omega)))|((with_reducible refine cO ?hg ?_);(case hg=>with_reducible exact Bb F135_ok);refine tM (h3 _) ?_;rintro _ _ ⟨rfl,rfl⟩)
 all_goals first
  |exact absurd c2 (by assumption)
  |(refine⟨hbyt,fI_ rfl ?_⟩;rw[<-hdec,hA];rfl)
  |exact fI_ rfl rfl
  |trace_state
inductive Dat where
 |mk (len ofs nuls:Int) (bufs:List (List Nat)) (kids dict:List Dat)
def Dat.len:Dat->Int | .mk a _ _ _ _ _=>a
def Dat.ofs:Dat->Int | .mk _ a _ _ _ _=>a
def Dat.nuls:Dat->Int | .mk _ _ a _ _ _=>a
def Dat.bufs:Dat->List (List Nat) | .mk _ _ _ a _ _=>a
def Dat.kids:Dat->List Dat | .mk _ _ _ _ a _=>a
def Dat.dict:Dat->List Dat | .mk _ _ _ _ _ a=>a
def Bf:Dat:=.mk 0 0 0 [] [] []
def Bx(l:List (List Nat)):List EV:=l.map isB
mutual
def Bs:Dat->List EV
 | .mk len ofs nuls bufs kids dict=>[.lit (.int .i64 len),.lit (.int .i64 ofs),.lit (.int .i64 nuls),.isl bufs.length none (Bx bufs),.isl kids.length none (Bi kids),.isl dict.length none (Bi dict)]
def Bi:List Dat->List EV
 |[]=>[]
 |d::l=>Bs d++Bi l
end
theorem BL(d:Dat):Bs d=[.lit (.int .i64 d.len),.lit (.int .i64 d.ofs),.lit (.int .i64 d.nuls),.isl d.bufs.length none (Bx d.bufs),.isl d.kids.length none (Bi d.kids),.isl d.dict.length none (Bi d.dict)]:=by cases d;rfl
theorem Nj(d:Dat):(Bs d).length=6:=by cases d;rfl
theorem Vs:∀l:List Dat,(Bi l).length=6*l.length
 |[]=>rfl
 |d::l=>by simp only[Bi,List.length_append,Nj,Vs l,List.length_cons];omega
def LI(b:List Nat):Prop:=b.length<=140737488351232/\AllB b
mutual
def okA:Dat->Prop
 | .mk len ofs nuls bufs kids dict=>BH len/\BH ofs/\BH nuls/\bufs.length<=140737488351232/\(∀b∈bufs,LI b)/\kids.length<=140737488351232/\GS kids/\dict.length<=140737488351232/\GS dict
def GS:List Dat->Prop
 |[]=>True
 |d::l=>okA d/\GS l
end
def Cr(k:Int):Prop:=k≠1/\k≠18/\k≠20
instance (k:Int):Decidable (Cr k):=by unfold Cr;exact inferInstance
def Dat.buf(d:Dat)(j:Nat):List Nat:=d.bufs.getD j []
def Ch(b:List Nat)(r:Nat):Nat:=b.getD (r/8) 0/2^(r%8)%2
def BJ(k:Int)(d:Dat)(r:Nat):Bool:=if k=1 then true else if Cr k/\(d.buf 0).length≠0 then Ch (d.buf 0) r==0 else false
def BW(b:List Nat)(at' w:Nat):Nat:=leV ((b.drop at').take w)
def Bt(d:Dat)(i:Nat):Int:=B5 4 (BW (d.buf 1) (4*i) 4)
def Bk(k:Int):Nat:=if k=3\/k=7 then 1 else if k=4\/k=8 then 2 else if k=5\/k=9 then 4 else if k=6\/k=10\/k=11 then 8 else 0
def CI(k:Int)(b:List Nat)(r:Nat):Int:=
 if k<=6 then B5 (Bk k) (BW b (r*Bk k) (Bk k))else if k=10\/k=11 then B5 8 (BW b (r*8) 8)else (BW b (r*Bk k) (Bk k):Nat)
def txt(b:List Nat)(p q:Nat):ByteArray:=CH ((b.drop p).take (q-p))
def CB(e:Dat)(i:Nat):Int:=Bt e (e.ofs.toNat+i)
def GF(d:Dat)(r:Nat):Nat:=((List.range (d.kids.getD 0 Bf).len.toNat).find? fun i=>decide ((r:Int)<CB (d.kids.getD 0 Bf) i)).getD 0
def Bw:Val:=.mk true 0 ⟨#[]⟩ []
def Iz(n:Int):Val:=.mk false n ⟨#[]⟩ []
def Gy(s:ByteArray):Val:=.mk false 0 s []
def EG(n:Int)(l:List Val):Val:=.mk false n ⟨#[]⟩ l
def Dp(g:Nat->Val×Nat)(p q:Nat):List (Val×Nat):=(List.range (q-p)).map fun i=>g (p+i)
def BA(l:List Nat):Nat:=l.foldr (· + ·) 0
def Eb(k w x:Int)(d:Dat)(g:List (Nat->Val×Nat))(r:Nat):Val×Nat:=
 let part (j:Nat):Nat->Val×Nat:=g.getD j fun _=>(Bw,16)
 if BJ k d r then (Bw,16)
 else if k=2 then (Iz (Ch (d.buf 1) r),16)
 else if k<=11 then (Iz (CI k (d.buf 1) r),16)
 else if k<=13 then (Gy (txt (d.buf 2) (Bt d r).toNat (Bt d (r+1)).toNat),16+((Bt d (r+1)).toNat-(Bt d r).toNat))
 else if k=14 then (Gy (txt (d.buf 1) (r*w.toNat) ((r+1)*w.toNat)),16+w.toNat)
 else if k=15 then
  let l:=Dp (part 0) (Bt d r).toNat (Bt d (r+1)).toNat
  (EG 0 (l.map (·.1)),16+BA (l.map (·.2)))
 else if k=16 then
  let l:=Dp (part 0) (r*w.toNat) ((r+1)*w.toNat)
  (EG 0 (l.map (·.1)),16+BA (l.map (·.2)))
 else if k=17 then
  let l:=g.map fun h=>h r
  (EG 0 (l.map (·.1)),16+BA (l.map (·.2)))
 else if k=18 then
  let c:=(d.buf 0).getD r 0
  let y:=part c (Bt d r).toNat
  (EG c [y.1],16+y.2)
 else if k=19 then part 0 (BW (d.buf 1) (r*Bk x) (Bk x))
 else part 0 (GF d r)
def Dat.parts(k:Int)(d:Dat):List Dat:=if k=19 then d.dict else if k=20 then d.kids.drop 1 else d.kids
mutual
def BB:Fld->Dat->Nat->Val×Nat
 | .mk nm nul k w i x kids,d=>Eb k w x d (Cv kids (d.parts k))
def Cv:List Fld->List Dat->List (Nat->Val×Nat)
 |[],_=>[]
 |_::_,[]=>[]
 |f::fs,d::ds=>(fun i=>BB f d (d.ofs.toNat+i))::Cv fs ds
end
def CM(f:Fld)(d:Dat):List (Val×Nat):=(List.range d.len.toNat).map fun i=>BB f d (d.ofs.toNat+i)
theorem Db(a:Int)(h1:0<=a)(h2:a<=9223372036854775807):stdA.ib .quo .i64 a 8=a/8:=by
 show IntKind.i64.wrap (a.tdiv 8)=_
 rw[Int.tdiv_eq_ediv_of_nonneg h1]
 exact D6 _ (by omega) (by omega)
theorem DT(a:Int)(h1:0<=a)(h2:a<=9223372036854775807):stdA.ib .rem .i64 a 8=a%8:=by
 show a.tmod 8=_
 rw[Int.tmod_eq_emod_of_nonneg h1]
theorem Ph(x k:Nat)(hx:x<256)(hk:k<8):stdA.ib .and .u8 (stdA.sh .shr .u8 (x:Int) (k:Int)) 1=((x/2^k%2:Nat):Int):=by
 have e:stdA.sh .shr .u8 (x:Int) (k:Int)=((x/2^k:Nat):Int):=by
  show Int.fdiv _ (2^min (k:Int).toNat 8)=_;rw[show min (k:Int).toNat 8=k by omega,Int.fdiv_eq_ediv_of_nonneg _ (by exact_mod_cast Nat.zero_le (2^k))]
  push_cast;rfl
 rw[e]
 have hm:x/2^k<256:=Nat.lt_of_le_of_lt (Nat.div_le_self _ _) hx
 generalize x/2^k=m at hm ⊢
 show IntKind.u8.wrap _=_
 have e2:(BitVec.ofInt IntKind.u8.bits (m:Int) &&& BitVec.ofInt IntKind.u8.bits 1).toNat=m%2:=by
  rw[BitVec.toNat_and]
  have e1:(BitVec.ofInt IntKind.u8.bits (m:Int)).toNat=m:=by
   show (BitVec.ofInt 8 (m:Int)).toNat=m;rw[BitVec.ofInt_natCast,BitVec.toNat_ofNat];exact Nat.mod_eq_of_lt (by omega)
  rw[e1];exact Nat.and_one_is_mod m
 rw[e2]
 exact Nh _ (by omega) (by omega)
theorem Y3(b:List Nat)(r:Nat)(hb:b.length<=65536)(ha:AllB b)(hr:r<8*b.length)(h:EH):Tri Tryz.prog gs 131 [isB b,.lit (.int .i64 r)] h fun v h'=>IsP (Ch b r=1) v/\h'=h:=by
 have hlk:=DO b (r/8) (by omega)
 have hx:=ha.get (r/8)
 have hsb:=Ph (b.getD (r/8) 0) (r%8) hx (by omega)
 unfold Ch
 generalize b.getD (r/8) 0=x at *
 unfold isB
 obtain⟨n,hn⟩:∃n,n=b.length:=⟨_,rfl⟩
 obtain⟨c,hc⟩:∃n,n=Br b:=⟨_,rfl⟩
 obtain⟨r',hr'⟩:∃q:Int,q=r:=⟨_,rfl⟩
 rw[<-hn,<-hc,<-hr']
 rw[<-hc]at hlk
 obtain⟨y,hy⟩:∃y:Int,y=x:=⟨_,rfl⟩
 have hlk2:∀A,A=stdA->List.take 1 (List.drop (A.idx 0 (A.ib .quo .i64 r' 8) 1) c)=[.lit (.int .u8 y)]:=fun A hA=>by
  rw[hA,Db _ (by omega) (by omega),B3,show 0+(r'/8).toNat * 1=r/8 by omega,hlk,hy];rfl
 refine Tri.boolC rfl (Bj F131_ok fun I0 ρ0 w0 Q hρ hQ=>?_) h
 obtain⟨A,hA⟩:∃A,A=stdA:=⟨_,rfl⟩
 have hlk3:=hlk2 A hA
 with_reducible refine Be hA hd hQ 200 ?hk ?_
 case hk=>trivial
 conv=>arg 9;cbv
 try simp only[OK]
 repeat' first|((with_reducible refine Bd hA hd hQ 200 ?hk ?_);(case hk=>trivial);(conv=>arg 9;cbv);(try simp only[OK]))|((with_reducible refine Bp ?hn ?_);(case hn=>((simp(disch:=omega)only[hA,Ba,Db,DT])<;>omega)))|((refine⟨_,_,?l1,hlk3,rfl,?_⟩);(case l1=>exact rfl))
 refine FinR.bs rfl ?_
 show A.ic .eql (A.ib .and .u8 (A.sh .shr .u8 y (A.ib .rem .i64 r' 8)) 1) 1=true↔_
 rw[hA,Sa,DT _ (by omega) (by omega),hy,show r'%8=((r%8:Nat):Int) by omega,hsb]
 generalize x/2^(r%8)%2=m
 rw[decide_eq_true_eq]
 constructor<;>intro h<;>omega
theorem YM(b:List Nat)(r:Nat)(hb:b.length<=65536)(ha:AllB b)(hr:r<8*b.length)(h:EH) :
  Tri Tryz.prog gs 122 [isB b,.lit (.int .i64 r)] h fun v h'=>(∃t:Bool,v = .tup [.sb t,.lit (.int .i64 0)]/\(t=true↔Ch b r=1))/\h'=h:=by
 have h1:=Y3 b r hb ha hr
 have c1:(r:Int)/8<b.length:=by omega
 have c2:(r:Int)<=524288:=by omega
 have c3:0<=(r:Int):=by omega
 generalize (Ch b r=1)=P at *
 unfold isB at *
 generalize (r:Int)=r',b.length=n,Br b=c at *
 refine Tri.litC (φ:=fun v=>∃t:Bool,v = .tup [.sb t,.lit (.int .i64 0)]/\(t=true↔P)) (fun v ⟨t,e,_⟩=>by rw[e];rfl) rfl (Bj F122_ok fun I0 ρ0 w0 Q hρ hQ=>?_) h
 obtain⟨A,hA⟩:∃A,A=stdA:=⟨_,rfl⟩
 with_reducible refine Be hA hd hQ 200 ?hk ?_
 case hk=>trivial
 conv=>arg 9;cbv
 try simp only[OK]
 repeat' first|((with_reducible refine⟨fun hbr=>?_,fun hbr=>?_⟩)<;>(try simp(disch:=omega)only[hA,Ba,Db]at hbr)<;>(try (with_reducible exfalso;omega)))|((with_reducible refine Bd hA hd hQ 200 ?hk ?_);(case hk=>trivial);(conv=>arg 9;cbv);(try simp only[OK]))|((with_reducible refine Bp ?hn ?_);(case hn=>((simp(disch:=omega)only[hA,Ba])<;>omega)))|((with_reducible refine cO ?hg ?_);(case hg=>with_reducible exact Bb F131_ok);(refine tM (h1 _) fun v hh hx=>?_);(obtain⟨⟨t,hv,ht⟩,hh'⟩:=hx;subst hv;subst hh'))
 exact fI_ rfl ⟨_,rfl,ht⟩
theorem zCi(n:Int)(h0:0<=n)(h1:n<=1000000)(h:EH):Tri Tryz.prog gs 117 [.lit (.int .i64 n)] h fun v h'=>IsN .i64 (fun x=>x=(n+7)/8) v/\h'=h:=by
 refine Tri.intC rfl (Bj F117_ok fun I0 ρ0 w0 Q hρ hQ=>?_) h
 obtain⟨A,hA⟩:∃A,A=stdA:=⟨_,rfl⟩
 with_reducible refine Be hA hd hQ 200 ?hk ?_
 case hk=>trivial
 conv=>arg 9;cbv
 try simp only[OK]
 repeat' first|((with_reducible refine⟨fun hbr=>?_,fun hbr=>?_⟩)<;>(try simp(disch:=omega)only[hA,Ba]at hbr)<;>(try (with_reducible exfalso;omega)))|((with_reducible refine Bd hA hd hQ 200 ?hk ?_);(case hk=>trivial);(conv=>arg 9;cbv);(try simp only[OK]))|((with_reducible refine Bp ?hn ?_);(case hn=>((simp(disch:=omega)only[hA,Ba])<;>omega)))
 all_goals (try (with_reducible refine FinR.self ?_;first|refine FinR.n rfl ?_|refine FinR.nh rfl ?_ rfl))
 all_goals (try simp(disch:=omega)only[hA,Ba,Db])
 all_goals omega
theorem TR(k:Int)(h:EH):Tri Tryz.prog gs 121 [.lit (.int .i64 k)] h fun v h'=>IsP (Cr k) v/\h'=h:=by
 unfold Cr
 refine Tri.boolC rfl (Bj F121_ok fun I0 ρ0 w0 Q hρ hQ=>?_) h
 obtain⟨A,hA⟩:∃A,A=stdA:=⟨_,rfl⟩
 with_reducible refine Be hA hd hQ 200 ?hk ?_
 case hk=>trivial
 conv=>arg 9;cbv
 try simp only[OK]
 repeat' first|((with_reducible refine⟨fun hbr=>?_,fun hbr=>?_⟩)<;>(try simp(disch:=omega)only[hA,Ba]at hbr)<;>(try (with_reducible exfalso;omega)))|((with_reducible refine Bd hA hd hQ 200 ?hk ?_);(case hk=>trivial);(conv=>arg 9;cbv);(try simp only[OK]))
 all_goals (try (with_reducible refine FinR.self ?_;first|refine FinR.bl rfl ?_|refine FinR.bs rfl ?_|refine FinR.blh rfl ?_ rfl|refine FinR.bsh rfl ?_ rfl))
 all_goals (try simp(disch:=omega)only[hA,Ba,bF,false_iff])
 all_goals omega
theorem S5(k:Int)(h:EH):Tri Tryz.prog gs 123 [.lit (.int .i64 k)] h fun v h'=>IsN .i64 (fun x=>x=(Bk k:Nat)) v/\h'=h:=by
 refine Tri.intC rfl (Bj F123_ok fun I0 ρ0 w0 Q hρ hQ=>?_) h
 obtain⟨A,hA⟩:∃A,A=stdA:=⟨_,rfl⟩
 with_reducible refine Be hA hd hQ 200 ?hk ?_
 case hk=>trivial
 conv=>arg 9;cbv
 try simp only[OK]
 repeat' first|((with_reducible refine⟨fun hbr=>?_,fun hbr=>?_⟩)<;>(try simp(disch:=omega)only[hA,Ba]at hbr)<;>(try (with_reducible exfalso;omega)))|((with_reducible refine Bd hA hd hQ 200 ?hk ?_);(case hk=>trivial);(conv=>arg 9;cbv);(try simp only[OK]))
 all_goals (try (with_reducible refine FinR.self ?_;first|refine FinR.n rfl ?_|refine FinR.nh rfl ?_ rfl))
 all_goals (try simp(disch:=omega)only[hA,OK,Ba,Int.reduceToNat,Db,DT,bF,true_iff,false_iff,eq_self,iff_true,iff_false])
 all_goals (unfold Bk;(repeat' split)<;>omega)
theorem zBR(c:Int)(h:EH):Tri Tryz.prog gs 91 [.lit (.int .u8 c)] h fun v h'=>IsP (Jc c) v/\h'=h:=by
 refine Tri.boolC rfl (Bj F91_ok fun I0 ρ0 w0 Q hρ hQ=>?_) h
 obtain⟨A,hA⟩:∃A,A=stdA:=⟨_,rfl⟩
 with_reducible refine Be hA hd hQ 200 ?hk ?_
 case hk=>trivial
 conv=>arg 9;cbv
 try simp only[OK]
 repeat' first|((with_reducible refine⟨fun hbr=>?_,fun hbr=>?_⟩)<;>(try simp(disch:=omega)only[hA,Ba]at hbr)<;>(try (with_reducible exfalso;omega)))|((with_reducible refine Bd hA hd hQ 200 ?hk ?_);(case hk=>trivial);(conv=>arg 9;cbv);(try simp only[OK]))
 all_goals refine⟨_,rfl,_,(by first|exact .inl rfl|exact .inr rfl),?_⟩
 all_goals (try simp(disch:=omega)only[hA,Ba,true_iff,eq_self,Jc])
 all_goals first|omega|(simp<;>omega)|(simp_all<;>omega)
theorem zCE(k:Int)(h:EH):Tri Tryz.prog gs 93 [.lit (.int .i64 k)] h fun v h'=>IsP (1<=k/\k<=20) v/\h'=h:=by
 refine Tri.boolC rfl (Bj F93_ok fun I0 ρ0 w0 Q hρ hQ=>?_) h
 obtain⟨A,hA⟩:∃A,A=stdA:=⟨_,rfl⟩
 with_reducible refine Be hA hd hQ 200 ?hk ?_
 case hk=>trivial
 conv=>arg 9;cbv
 try simp only[OK]
 repeat' first|((with_reducible refine⟨fun hbr=>?_,fun hbr=>?_⟩)<;>(try simp(disch:=omega)only[hA,Ba]at hbr)<;>(try (with_reducible exfalso;omega)))|((with_reducible refine Bd hA hd hQ 200 ?hk ?_);(case hk=>trivial);(conv=>arg 9;cbv);(try simp only[OK]))
 all_goals refine⟨_,rfl,_,(by first|exact .inl rfl|exact .inr rfl),?_⟩
 all_goals (try simp(disch:=omega)only[hA,Ba,bF,false_iff])
 all_goals first|omega|(simp<;>omega)|(simp_all<;>omega)
theorem Jq(k:Int)(h:EH):Tri Tryz.prog gs 17 [.lit (.int .i64 k)] h fun v h'=>IsP (12<=k/\k<=14) v/\h'=h:=by
 refine Tri.boolC rfl (Bj F17_ok fun I0 ρ0 w0 Q hρ hQ=>?_) h
 obtain⟨A,hA⟩:∃A,A=stdA:=⟨_,rfl⟩
 with_reducible refine Be hA hd hQ 200 ?hk ?_
 case hk=>trivial
 conv=>arg 9;cbv
 try simp only[OK]
 repeat' first|((with_reducible refine⟨fun hbr=>?_,fun hbr=>?_⟩)<;>(try simp(disch:=omega)only[hA,Ba]at hbr)<;>(try (with_reducible exfalso;omega)))|((with_reducible refine Bd hA hd hQ 200 ?hk ?_);(case hk=>trivial);(conv=>arg 9;cbv);(try simp only[OK]))
 all_goals refine⟨_,rfl,_,(by first|exact .inl rfl|exact .inr rfl),?_⟩
 all_goals (try simp(disch:=omega)only[hA,Ba,bF,false_iff])
 all_goals first|omega|(simp<;>omega)|(simp_all<;>omega)
theorem zCM(k:Int)(h:EH):Tri Tryz.prog gs 15 [.lit (.int .i64 k)] h fun v h'=>IsP (2<=k/\k<=14) v/\h'=h:=by
 refine Tri.boolC rfl (Bj F15_ok fun I0 ρ0 w0 Q hρ hQ=>?_) h
 obtain⟨A,hA⟩:∃A,A=stdA:=⟨_,rfl⟩
 with_reducible refine Be hA hd hQ 200 ?hk ?_
 case hk=>trivial
 conv=>arg 9;cbv
 try simp only[OK]
 repeat' first|((with_reducible refine⟨fun hbr=>?_,fun hbr=>?_⟩)<;>(try simp(disch:=omega)only[hA,Ba]at hbr)<;>(try (with_reducible exfalso;omega)))|((with_reducible refine Bd hA hd hQ 200 ?hk ?_);(case hk=>trivial);(conv=>arg 9;cbv);(try simp only[OK]))
 all_goals refine⟨_,rfl,_,(by first|exact .inl rfl|exact .inr rfl),?_⟩
 all_goals (try simp(disch:=omega)only[hA,Ba,bF,false_iff])
 all_goals first|omega|(simp<;>omega)|(simp_all<;>omega)
mutual
theorem clF:∀f:Fld,clL (Bo f)=true
 | .mk nm nul k w i x kids=>by simp[Bo,clL,clE]
theorem GZ:∀l:List Fld,clL (Bl l)=true
 |[]=>rfl
 |f::l=>by
  have h1:=clF f;have h2:=GZ l;refine Dj fun x hx=>?_
  rw[Bl]at hx;rcases List.mem_append.1 hx with hx|hx
  ·obtain⟨j,hj⟩:=List.getElem?_of_mem hx;exact Ev h1 j x hj
  ·obtain⟨j,hj⟩:=List.getElem?_of_mem hx;exact Ev h2 j x hj
end
theorem Sr(f:Fld)(l:List Fld){c:List EV}(hc:c=Bl (f::l)):(c.drop 1).take 1=[.lit (.bool f.nul)]:=by
 subst hc;cases f;rfl
theorem U2{k w i x:Int}{kids:List Fld}(hf:Cl k w i x kids.length)(h:k=20):kids.length=1:=by
 obtain⟨_,_,hf⟩:=hf
 rw[if_neg (by omega),if_pos (.inr h)]at hf
 exact hf.2.2.2
theorem zD2(nm:ByteArray)(nul:Bool)(k w i x:Int)(kids:List Fld)(h:EH)(hf:Cl k w i x kids.length) :
  Tri Tryz.prog gs 70 [.agg (Bo (.mk nm nul k w i x kids))] h fun v h'=>IsP (I5 nul k kids) v/\h'=h:=by
 refine Tri.boolC (by simp[clL,clE,Bo]) (Bj F70_ok fun I0 ρ0 w0 Q hρ hQ=>?_) h
 obtain⟨A,hA⟩:∃A,A=stdA:=⟨_,rfl⟩
 simp only[Bo]
 obtain⟨n,hn⟩:∃n,n=kids.length:=⟨_,rfl⟩
 obtain⟨c,hc⟩:∃c,c=Bl kids:=⟨_,rfl⟩
 have hn1:=(U2 hf)
 obtain⟨b,hb⟩:∃b,b=Dl kids:=⟨_,rfl⟩
 have L:k=20->List.take 1 (List.drop (A.add (A.idx 0 0 7) 1) c)=[.lit (.bool b)]:=fun h20=>by
  rw[hA,hc,hb]
  match kids,hn1 h20 with
  |[f],_=>exact Sr f [] rfl
 have hp:I5 nul k kids↔((k=1->nul=true)/\(k=18->nul=false)/\(k=20->nul=b)):=by rw[hb];exact Iff.rfl
 simp only[hp]at hQ
 rw[<-hn]at hn1
 rw[<-hn,<-hc]
 clear hp hb hc hn hf
 cases nul<;>cases b
 all_goals
  with_reducible refine Be hA hd hQ 300 ?hk ?_
  case hk=>trivial
  conv=>arg 9;cbv
  try simp only[OK]
  repeat' first|((with_reducible refine⟨fun hbr=>?_,fun hbr=>?_⟩)<;>(try simp(disch:=omega)only[hA,Ba]at hbr)<;>(try (with_reducible exfalso;omega)))|((with_reducible refine Bd hA hd hQ 300 ?hk ?_);(case hk=>trivial);(conv=>arg 9;cbv);(try simp only[OK]))|((with_reducible refine Bp ?hn ?_);(case hn=>((simp(disch:=omega)only[hA,Ba])<;>omega)))|((refine⟨_,_,?l1,(L hbr),rfl,?_⟩);(case l1=>exact rfl))
 all_goals refine⟨_,rfl,_,(by first|exact .inl rfl|exact .inr rfl),?_⟩
 all_goals (try simp(disch:=omega)only[hA,Ba,bF,true_iff,false_iff,eq_self,reduceCtorEq,imp_false])
 all_goals first|omega|(simp<;>omega)|(simp_all<;>omega)
theorem GH(s:ByteArray)(i:Nat):stdA.bat s i=bs s i:=rfl
theorem Z1{s:ByteArray}{i:Nat}(hi:i<s.size)(h:¬Jc (bs s i)):¬HU s:=fun hn=>h (hn.2.2.1 i hi)
theorem PW{p:Nat->Prop}{i:Int}(hi:0<=i)(h:∀j,j<i.toNat->p j)(h1:p i.toNat):∀j,j<(i+1).toNat->p j:=fun j hj=>by
 by_cases e:j=i.toNat
 ·subst e;exact h1
 ·exact h j (by omega)
theorem KE(s:ByteArray):s=⟨#[]⟩↔s.size=0:=by
 constructor
 ·intro h;subst h;rfl
 ·intro h
  apply ByteArray.ext;apply Array.eq_empty_of_size_eq_zero;exact h
theorem zCl (s : ByteArray) (hs : s.size ≤ 140737488351232) (h : EH) : Tri Tryz.prog gs 66 [.lit (.string s)] h fun v h' => IsP (HU s) v ∧ h' = h := by
  refine Tri.boolC rfl (Bj F66_ok fun I0 ρ0 w0 Q hρ hQ => ?_) h
  obtain ⟨A, hA⟩ : ∃ A, A = stdA := ⟨_, rfl⟩
  with_reducible refine Be hA hd hQ 200 ?hk ?_
  case hk => trivial
  conv => arg 9; cbv
  try simp only [OK]
  repeat' first | (with_reducible refine OKK.loop ?_)
  refine oK_ (msk 36 [0, 6, 7]) ?_
  refine oL_ (fun n st => ∃ i : Int, st = ⟨mkT 36 [(0, .lit (.string s)), (6, .lit (.int .i64 (A.ofn (A.bsz s)))), (7, .lit (.int .i64 i))], []⟩ ∧ n = (s.size - i).toNat ∧ 0 ≤ i ∧ i ≤ s.size ∧ (∀ j, j < i.toNat → Jc (bs s j)) ∧ (0 < i → ¬ (48 ≤ bs s 0 ∧ bs s 0 ≤ 57))) (fun n st hs' ih => ?_) ⟨0, rfl, rfl, by omega, by omega, fun j hj => absurd hj (by simp), by omega⟩
  obtain ⟨i, rfl, hn, hi1, hi2, hi3, hi4⟩ := hs'
  with_reducible refine Be hA hd hQ 200 ?hk ?_
  case hk => trivial
  conv => arg 9; cbv
  try simp only [OK]
  repeat' first | (with_reducible refine OKK.again ?_) | ((with_reducible refine ⟨fun hbr => ?_, fun hbr => ?_⟩) <;> (try simp (disch := omega) only [hA, Ba, GH, reduceCtorEq] at hbr) <;> (try (with_reducible exfalso; omega))) | ((with_reducible refine Bd hA hd hQ 200 ?hk ?_); (case hk => trivial); (conv => arg 9; cbv); (try simp only [OK])) | ((with_reducible refine Bp ?hn ?_); (case hn => ((simp (disch := omega) only [hA, Ba]) <;> omega))) | (refine cO (Bb F91_ok) (tM (zBR _ _) fun v hh hx => ?_); (obtain ⟨⟨b, hv, hb⟩, he⟩ := hx; subst hv; subst he; cases b <;> simp (disch := omega) only [hA, Ba, GH, bF, true_iff, false_iff, eq_self] at hb) <;> (try (with_reducible exfalso; omega)))
  all_goals try (refine oK_ (msk 36 [0, 6, 7]) (ih _ _ ⟨_, rfl, rfl, ?_, ?_, ?_, ?_⟩ ?_))
  all_goals (try (with_reducible refine FinR.self ?_; first | refine FinR.bl rfl ?_ | refine FinR.bs rfl ?_ | refine FinR.blh rfl ?_ rfl | refine FinR.bsh rfl ?_ rfl))
  all_goals (try simp (disch := omega) only [hA, Ba, bF, false_iff])
  all_goals first
    | omega
    | exact Z1 (by omega) hb
    | exact PW hi1 hi3 hb
    | (have e0 : i = 0 := by assumption
       subst e0; simp only [Int.reduceToNat] at *
       first | exact fun hnp => hnp.2.2.2 ⟨by omega, by omega⟩ | omega)
    | (have h0 : s.size ≠ 0 := fun e => hbr ((KE s).2 e)
       exact ⟨fun h1 => ⟨by omega, by omega, fun j hj => hi3 j (by omega), hi4 (by omega)⟩, fun hnp => by have := hnp.2.1; omega⟩)
    | (have h0 : s.size = 0 := (KE s).1 (Classical.byContradiction hbr)
       exact fun hnp : HU s => by have := hnp.1; omega)
theorem YV(x:Int)(h:1<=x/\x<=20):((gs.getD 1 []).drop (x.toNat * 4+3)).take 1=[.lit (.bool (decide (3<=x/\x<=10)))]:=by
 have:x=1\/x=2\/x=3\/x=4\/x=5\/x=6\/x=7\/x=8\/x=9\/x=10\/x=11\/x=12\/x=13\/x=14\/x=15\/x=16\/x=17\/x=18\/x=19\/x=20:=by omega
 rcases this with rfl|rfl|rfl|rfl|rfl|rfl|rfl|rfl|rfl|rfl|rfl|rfl|rfl|rfl|rfl|rfl|rfl|rfl|rfl|rfl<;>rfl
theorem zAR(k w i x:Int)(n:Nat)(c:List EV)(h:EH)(hn:n<=140737488351232)(hc:clL c=true) :
  Tri Tryz.prog gs 69 [.agg [.lit (.int .i64 k),.lit (.int .i64 w),.lit (.int .i64 i),.lit (.int .i64 x),.isl n none c]] h fun v h'=>IsP (Cl k w i x n) v/\h'=h:=by
 refine Tri.boolC (by simp[clL,clE]) (Bj F69_ok fun I0 ρ0 w0 Q hρ hQ=>?_) h
 obtain⟨A,hA⟩:∃A,A=stdA:=⟨_,rfl⟩
 obtain⟨b,hb0⟩:∃b,b=decide (3<=x/\x<=10):=⟨_,rfl⟩
 have L:1<=x/\x<=20->((gs.getD 1 []).drop (A.add (A.idx 0 x 4) 3)).take 1=[.lit (.bool b)]:=fun hx=>by
  rw[hA,hb0,<-YV x hx];simp only[PE,B3,Nat.zero_add]
 cases b
 all_goals
  with_reducible refine Be hA hd hQ 300 ?hk ?_
  case hk=>trivial
  conv=>arg 9;cbv
  try simp only[OK]
  repeat' first|((with_reducible refine⟨fun hbr=>?_,fun hbr=>?_⟩)<;>(try simp(disch:=omega)only[hA,Ba,reduceCtorEq]at hbr)<;>(try (with_reducible exfalso;omega)))|((with_reducible refine Bd hA hd hQ 300 ?hk ?_);(case hk=>trivial);(conv=>arg 9;cbv);(try simp only[OK]))|((with_reducible refine Bp ?hn ?_);(case hn=>((simp(disch:=omega)only[hA,Ba])<;>omega)))|((refine⟨_,_,?l1,(L (by omega)),rfl,?_⟩);(case l1=>exact rfl))|(refine cO (Bb F93_ok) (tM (zCE _ _) fun v hh hx=>?_);(obtain⟨⟨b,hv,hb⟩,he⟩:=hx;subst hv;subst he;cases b<;>simp(disch:=omega)only[bF,true_iff,false_iff,eq_self]at hb)<;>(try (with_reducible exfalso;omega)))
 all_goals (try (with_reducible refine FinR.self ?_;first|refine FinR.bl rfl ?_|refine FinR.bs rfl ?_|refine FinR.blh rfl ?_ rfl|refine FinR.bsh rfl ?_ rfl))
 all_goals (try simp(disch:=omega)only[hA,Ba,bF,false_iff])
 all_goals simp only[decide_eq_false_iff_not,decide_eq_true_eq,eq_comm (a:=false),eq_comm (a:=true)]at hb0
 all_goals unfold Cl
 all_goals (repeat' split)
 all_goals omega
def BQ:Fld:=.mk ⟨#[]⟩ false 0 0 0 0 []
theorem D5:∀(l:List Fld) (i:Nat),i<l.length->((Bl l).drop (i*7)).take 7=Bo (l.getD i BQ)
 |[],i,h=>by simp at h
 |f::l,0,_=>by
  simp only[Bl,Nat.zero_mul,List.drop_zero,List.getD_cons_zero];rw[List.take_append_of_le_length (by rw[G1];omega),lT (by rw[G1];omega)]
 |f::l,i+1,h=>by
  have ih:=D5 l i (by simpa using h)
  rw[Bl,List.drop_append,List.drop_eq_nil_of_le (by rw[G1];omega),G1,lN,show (i+1)*7-7=i*7 by omega,ih]
  rfl
theorem zBz(l m:List Fld):Bl (l++m)=Bl l++Bl m:=by
 induction l with
 |nil=>rfl
 |cons f l ih=>simp[Bl,ih]
theorem Yr{l m:List Fld}{c:List EV}(hc:c=Bl (l++m))(i:Nat)(h:i<l.length):(c.drop (i*7)).take 7=Bo (l.getD i BQ):=by
 subst hc
 rw[D5 _ _ (by simp;omega)]
 simp[lG,List.getElem?_append_left h]
theorem BF(f:Fld):Bo f=[.lit (.string f.nm),.lit (.bool f.nul),.lit (.int .i64 f.kind),.lit (.int .i64 f.width),.lit (.int .i64 f.id),.lit (.int .i64 f.idx),.isl f.kids.length none (Bl f.kids)]:=by cases f;rfl
theorem zBP(g:Fld)(pe ae:EV)(nm:ByteArray)(b:EV)(k w i x:EV)(kids d:EV)(h:EH) :
  Tri Tryz.prog gs 68 [.agg (Bo g),.iptr [pe,ae,.lit (.string nm),b,k,w,i,x,kids,d] 0] h fun v h'=>IsP (g.nm=nm) v/\h'=h:=by
 rw[BF]
 generalize Bl g.kids=kc,g.kids.length=kn,g.nm=gn,g.nul=gb,g.kind=gk,g.width=gw,g.id=gi,g.idx=gx
 refine Tri.boolC (by simp[clL,clE]) (Bj F68_ok fun I0 ρ0 w0 Q hρ hQ=>?_) h
 obtain⟨A,hA⟩:∃A,A=stdA:=⟨_,rfl⟩
 have L:List.take 1 (List.drop (A.add (A.add 0 2) 0) [pe,ae,.lit (.string nm),b,k,w,i,x,kids,d])=[.lit (.string nm)]:=by rw[hA];rfl
 with_reducible refine Be hA hd hQ 200 ?hk ?_
 case hk=>trivial
 conv=>arg 9;cbv
 try simp only[OK]
 repeat' first|((with_reducible refine Bd hA hd hQ 200 ?hk ?_);(case hk=>trivial);(conv=>arg 9;cbv);(try simp only[OK]))|((refine⟨_,_,?l1,L,rfl,?_⟩);(case l1=>exact rfl))
 all_goals (try (with_reducible refine FinR.self ?_;first|refine FinR.bl rfl ?_|refine FinR.bs rfl ?_|refine FinR.blh rfl ?_ rfl|refine FinR.bsh rfl ?_ rfl))
 all_goals (try simp(disch:=omega)only[hA,Ba])
theorem zBc(l m:List Fld)(hl:l.length<=140737488351232)(pe ae:EV)(nm:ByteArray)(b:EV)(k w i x:EV)(kids d:EV)(h:EH) :
  Tri Tryz.prog gs 92 [.isl l.length none (Bl (l++m)),.fn (.func 68) [] [.iptr [pe,ae,.lit (.string nm),b,k,w,i,x,kids,d] 0]] h
   fun v h'=>IsN .i64 (fun n=>0<=n↔∃g,g∈l/\g.nm=nm) v/\h'=h:=by
 refine Tri.intC (by simp[clL,clE]) (Bj F92_ok fun I0 ρ0 w0 Q hρ hQ=>?_) h
 obtain⟨A,hA⟩:∃A,A=stdA:=⟨_,rfl⟩
 obtain⟨n0,hn0⟩:∃n,n=l.length:=⟨_,rfl⟩
 obtain⟨c,hc⟩:∃c,c=Bl (l++m):=⟨_,rfl⟩
 rw[<-hn0,<-hc]
 obtain⟨F,hF⟩:∃F,F=EV.fn (.func 68) [] [.iptr [pe,ae,.lit (.string nm),b,k,w,i,x,kids,d] 0]:=⟨_,rfl⟩
 rw[<-hF]
 with_reducible refine Be hA hd hQ 200 ?hk ?_
 case hk=>trivial
 conv=>arg 9;cbv
 try simp only[OK]
 repeat' first|(with_reducible refine OKK.loop ?_)
 refine oK_ (msk 19 [0,1,7,8]) ?_
 refine oL_ (fun n st=>∃z:Int,st=⟨mkT 19 [(0,.isl n0 none c),(1,F),(7,.lit (.int .i64 (A.ofn n0))),(8,.lit (.int .i64 z))],[]⟩/\n=(n0-z).toNat/\0<=z/\z<=n0/\∀j,j<z.toNat->(l.getD j BQ).nm≠nm) (fun n st hs' ih=>?_) ⟨0,rfl,rfl,by omega,by omega,fun j hj=>absurd hj (by simp)⟩
 obtain⟨z,rfl,hn,hz1,hz2,hz3⟩:=hs'
 subst hF
 obtain⟨g,hg⟩:∃g,g=l.getD z.toNat BQ:=⟨_,rfl⟩
 have hw:=zBP g pe ae nm b k w i x kids d
 have L:z<n0->List.take 7 (List.drop (A.idx 0 z 7) c)=Bo g:=fun hz=>by
  rw[hA,hg,<-Yr hc _ (by omega)];simp only[B3,Nat.zero_add]
 rw[BF]at L hw
 have hmem:z<n0->g∈l:=fun hz=>by rw[hg,lG,lE (by omega)];exact List.getElem_mem _
 generalize Bl g.kids=kc,g.kids.length=kn,g.nul=gb,g.kind=gk,g.width=gw,g.id=gi,g.idx=gx at L hw
 obtain⟨gn,hgn⟩:∃gn,gn=g.nm:=⟨_,rfl⟩
 rw[<-hgn]at L hw
 with_reducible refine Be hA hd hQ 200 ?hk ?_
 case hk=>trivial
 conv=>arg 9;cbv
 try simp only[OK]
 repeat' first|(with_reducible refine OKK.again ?_)|((with_reducible refine⟨fun hbr=>?_,fun hbr=>?_⟩)<;>(try simp(disch:=omega)only[hA,Ba,reduceCtorEq]at hbr)<;>(try (with_reducible exfalso;omega)))|((with_reducible refine Bd hA hd hQ 200 ?hk ?_);(case hk=>trivial);(conv=>arg 9;cbv);(try simp only[OK]))|((with_reducible refine Bp ?hn ?_);(case hn=>((simp(disch:=omega)only[hA,Ba])<;>omega)))|((refine⟨_,_,?l1,(L (by omega)),rfl,?_⟩);(case l1=>exact rfl))|(refine cO (Bb F68_ok) (tM (hw _) fun v hh hx=>?_);(obtain⟨⟨b,hv,hb⟩,he⟩:=hx;subst hv;subst he;cases b<;>simp(disch:=omega)only[bF,true_iff,false_iff,eq_self]at hb)<;>(try (with_reducible exfalso;omega)))
 all_goals try (refine oK_ (msk 19 [0,1,7,8]) (ih _ _ ⟨_,rfl,rfl,?_,?_,?_⟩ ?_))
 all_goals (try (with_reducible refine FinR.self ?_;first|refine FinR.n rfl ?_|refine FinR.nh rfl ?_ rfl))
 all_goals (try simp(disch:=omega)only[hA,Ba])
 all_goals first
  |omega
  |exact PW hz1 hz3 (by rw[<-hg,<-hgn];exact hb)
  |exact⟨fun _=>⟨g,hmem (by assumption),by rw[<-hgn];exact hb⟩,fun _=>hz1⟩
  |exact⟨fun h=>by omega,fun⟨f,hf,e⟩=>by
    obtain⟨j,hj,rfl⟩:=List.getElem_of_mem hf;exact absurd e (by have:=hz3 j (by omega);rwa [lG,lE hj]at this)⟩
theorem Yy(l m:List Fld)(hl:l.length<=140737488351232)(pe ae:EV)(nm:ByteArray)(b:EV)(k w i x:EV)(kids d:EV)(h:EH) :
  Tri Tryz.prog gs 67 [.isl l.length none (Bl (l++m)),.fn (.func 68) [] [.iptr [pe,ae,.lit (.string nm),b,k,w,i,x,kids,d] 0]] h
   fun v h'=>IsP (∃g,g∈l/\g.nm=nm) v/\h'=h:=by
 refine Tri.boolC (by simp[clL,clE]) (Bj F67_ok fun I0 ρ0 w0 Q hρ hQ=>?_) h
 obtain⟨A,hA⟩:∃A,A=stdA:=⟨_,rfl⟩
 have hw:=zBc l m hl pe ae nm b k w i x kids d
 generalize Bl (l++m)=c,l.length=n0 at hw
 with_reducible refine Be hA hd hQ 200 ?hk ?_
 case hk=>trivial
 conv=>arg 9;cbv
 try simp only[OK]
 repeat' first|((with_reducible refine Bd hA hd hQ 200 ?hk ?_);(case hk=>trivial);(conv=>arg 9;cbv);(try simp only[OK]))|(refine cO (Bb F92_ok) (tM (hw _) fun v hh hx=>?_);(obtain⟨⟨z,hv,hz⟩,he⟩:=hx;subst hv;subst he))
 all_goals (try (with_reducible refine FinR.self ?_;first|refine FinR.bl rfl ?_|refine FinR.bs rfl ?_|refine FinR.blh rfl ?_ rfl|refine FinR.bsh rfl ?_ rfl))
 all_goals (try simp(disch:=omega)only[hA,Ba])
 all_goals exact hz
def Pp(pc:List EV)(rest:List Fld)(p:Pl):List EV:=
 [.isl p.path.length none pc,.isl p.ahead.length none (Bl (p.ahead++rest)),.lit (.string p.f.nm),.lit (.bool p.f.nul),.lit (.int .i64 p.f.kind),.lit (.int .i64 p.f.width),.lit (.int .i64 p.f.id),.lit (.int .i64 p.f.idx),
  .isl p.f.kids.length none (Bl p.f.kids),.sb p.inD]
def GR(idm:List (Int×Int))(prev:List Pl):Prop:=∀a,(∃q,q∈idm/\q.1=a)↔∃o,o∈prev/\o.f.kind=19/\o.f.id=a
theorem Yl{α:Type}{o:Option α}{x:α}(h:o=some x)(k:o=none):False:=by rw[h]at k;cases k
theorem P5(nm nul k w i x kids):(Fld.mk nm nul k w i x kids).nm=nm:=rfl
theorem Pa(nm nul k w i x kids):(Fld.mk nm nul k w i x kids).nul=nul:=rfl
theorem Hb(nm nul k w i x kids):(Fld.mk nm nul k w i x kids).kind=k:=rfl
theorem JB(nm nul k w i x kids):(Fld.mk nm nul k w i x kids).width=w:=rfl
theorem Kd(nm nul k w i x kids):(Fld.mk nm nul k w i x kids).id=i:=rfl
theorem Ja(nm nul k w i x kids):(Fld.mk nm nul k w i x kids).idx=x:=rfl
theorem G5(nm nul k w i x kids):(Fld.mk nm nul k w i x kids).kids=kids:=rfl
theorem Vd(l:List Fld)(h:0<l.length):((Bl l).drop 1).take 1=[.lit (.bool (Dl l))]:=by
 match l,h with
 |f::l,_=>exact Sr f l rfl
theorem WW(p:Pl)(pc:List EV)(rest:List Fld)(prev:List Pl)(idm:List (Int×Int))(hpc:clL pc=true)(hpl:p.path.length<=65)(hal:p.ahead.length<=140737488351232)(hok:okF p.f)(hprev:prev.length<=256)(hids:GR idm prev) :
  Tri Tryz.prog gs 43 [.agg (Pp pc rest p),.lit (.int .i64 prev.length),.mp 0] [.emap (imE idm)] fun v h'=>IsN .i64 (fun n=>n=0↔prev.length<256/\okN prev p) v/\h'=[.emap (imE idm)]:=by
 refine Tri.trimN (fun l=>by simp[mvH,Bc,mvO,Eo,Bh,inL,List.range,List.range.loop]) ?_
 refine Bj F43_ok fun I0 ρ0 w0 Q hρ hQ=>?_
 obtain⟨A,hA⟩:∃A,A=stdA:=⟨_,rfl⟩
 obtain⟨path,ahead,f,inD⟩:=p
 obtain⟨nm,nul,k,w,i,x,kids⟩:=f
 simp only[okN,Pp,P5,Pa,Hb,JB,Kd,Ja,G5,okF]at *
 have hn:=zCl nm hok.1
 have hc:=fun pe kc=>Yy ahead rest hal pe (.isl ahead.length none (Bl (ahead++rest))) nm (.lit (.bool nul)) (.lit (.int .i64 k)) (.lit (.int .i64 w)) (.lit (.int .i64 i)) (.lit (.int .i64 x)) kc (.sb inD)
 have hf:=zAR k w i x kids.length (Bl kids)
 have hu:=fun hf h=>zD2 nm nul k w i x kids h hf
 have hkn:kids.length<=140737488351232:=hok.2.2.2.2.2.1
 have hkk:=Vd kids
 obtain⟨kb,hkb⟩:∃b,b=Dl kids:=⟨_,rfl⟩
 have hfx:Cl k w i x kids.length->k=19->0<kids.length:=fun h h19=>by
  obtain⟨_,_,h⟩:=h;subst h19;simp at h;omega
 simp only[Bo]at hu
 have hkcl:=GZ kids
 rw[<-hkb]at hkk
 have hid:∀a,(∃q,q∈idm/\q.1=a)↔∃o,o∈prev/\o.f.kind=19/\o.f.id=a:=hids
 generalize Bl kids=kc at *
 generalize hkn0:kids.length=kn at *
 generalize Bl (ahead++rest)=ac at *
 generalize ahead.length=an at *
 generalize hpn:path.length=pn at *
 obtain⟨cnt,hcnt⟩:∃n:Int,n=prev.length:=⟨_,rfl⟩
 rw[<-hcnt]
 have hkey:stdA.keyed 0 (imE idm) (.lit (.int .i64 i))=true:=RY _ _
 have hno:stdA.find (imE idm) (.lit (.int .i64 i))=none↔¬∃o,o∈prev/\o.f.kind=19/\o.f.id=i:=by rw[Un,hid]
 obtain⟨ie,hie⟩:∃e,e=imE idm:=⟨_,rfl⟩
 rw[<-hie]at hkey hno hQ ⊢
 have hL:Cl k w i x kn->k=19->List.take 1 (List.drop (A.add (A.idx 0 0 7) 1) kc)=[.lit (.bool kb)]:=fun h1 h2=>by rw[hA];exact hkk (hfx h1 h2)
 cases kb
 all_goals
  with_reducible refine Be hA hd hQ 300 ?hk ?_
  case hk=>trivial
  conv=>arg 9;cbv
  try simp only[OK]
  repeat' first|((with_reducible refine zDr (fun hop=>?_) (fun xop hop=>?_))<;>(try simp(disch:=omega)only[hA,hno]at hop))|((with_reducible refine⟨fun hbr=>?_,fun hbr=>?_⟩)<;>(try simp(disch:=omega)only[hA,Ba,reduceCtorEq,reduceCtorEq]at hbr)<;>(try (with_reducible exfalso;omega)))|((with_reducible refine Bd hA hd hQ 300 ?hk ?_);(case hk=>trivial);(conv=>arg 9;cbv);(try simp only[OK]))|((with_reducible refine Bp ?hn ?_);(case hn=>((simp(disch:=omega)only[hA,Ba,hkey])<;>omega)))|((refine⟨_,_,?l1,(hL (by assumption) (by assumption)),rfl,?_⟩);(case l1=>exact rfl))|((with_reducible refine Bp ?hn ?_);(case hn=>(have hneed:=hfx (by assumption) (by assumption);(simp(disch:=omega)only[hA,Ba])<;>omega)))|(refine cO (Bb F66_ok) (tM (hn _) fun v hh hx=>?_);(obtain⟨⟨b,hv,hb⟩,he⟩:=hx;subst hv;subst he;cases b<;>simp(disch:=omega)only[bF,true_iff,false_iff,eq_self]at hb)<;>(try (with_reducible exfalso;omega)))|(refine cO (Bb F67_ok) (tM (Tri.lendB [1] (fun id hid=>by simp at hid;subst hid;exact⟨_,rfl,by simp[clL,clE]⟩) rfl (hc _ _ [])) fun v hh hx=>?_);(obtain⟨⟨b,hv,hb⟩,he⟩:=hx;subst hv;subst he;cases b<;>simp(disch:=omega)only[bF,true_iff,false_iff,eq_self]at hb)<;>(try (with_reducible exfalso;omega)))|(refine cO (Bb F69_ok) (tM (hf _ hkn hkcl) fun v hh hx=>?_);(obtain⟨⟨b,hv,hb⟩,he⟩:=hx;subst hv;subst he;cases b<;>simp(disch:=omega)only[bF,true_iff,false_iff,eq_self]at hb)<;>(try (with_reducible exfalso;omega)))|(refine cO (Bb F70_ok) (tM (hu (by assumption) _) fun v hh hx=>?_);(obtain⟨⟨b,hv,hb⟩,he⟩:=hx;subst hv;subst he;cases b<;>simp(disch:=omega)only[bF,true_iff,false_iff,eq_self]at hb)<;>(try (with_reducible exfalso;omega)))
 all_goals (try (with_reducible refine FinR.self ?_;first|refine FinR.n rfl ?_|refine FinR.nh rfl ?_ rfl))
 all_goals (try simp(disch:=omega)only[true_iff,eq_self])
 all_goals try (have hex:∃o,o∈prev/\o.f.kind=19/\o.f.id=i:=Classical.not_not.1 fun hn'=>Yl hop (hno.2 hn'))
 all_goals first
  |exact⟨fun h=>absurd h (by decide),fun⟨h1,h2,h3,h4,h5,h6,h7,h8⟩=>by
    exfalso
    first
     |omega
     |contradiction
     |exact(by assumption:∃g,g∈ahead/\g.nm=nm).elim fun g hg=>h4 g hg.1 hg.2
     |exact h7 ⟨by assumption,by omega⟩
     |exact h8 ⟨by assumption,.inl hkb.symm⟩
     |exact h8 ⟨by assumption,.inr hex⟩⟩
  |(refine⟨by omega,by omega,by assumption,fun g hg e=>(by assumption:¬∃g,g∈ahead/\g.nm=nm) ⟨g,hg,e⟩,by assumption,by assumption,?_,?_⟩<;>
    first
     |exact fun h=>Bool.noConfusion (h.1.symm.trans (by assumption))
     |exact fun h=>by omega
     |exact fun h=>h.2.elim (fun e=>by cases hkb.trans e) (by assumption)
     |omega)
structure Nd where
 p:Pl
 cap:Option Nat
 pc:List EV
 rest:List Fld
theorem Ww(x:EV)(n:Nat):stdA.rep [x] n=List.replicate n x:=by
 simp only[zBL]
 induction n with
 |zero=>rfl
 |succ n ih=>simp[List.replicate_succ,ih]
theorem Et{l:List EV}(h:clL l=true)(x:EV)(hx:x∈l):clE x=true:=by
 obtain⟨j,hj⟩:=List.getElem?_of_mem hx
 exact Ev h j x hj
theorem zDR{c v:List EV}(o:Nat)(hc:clL c=true)(hv:clL v=true):clL (stdA.setl c o v)=true:=Dj fun x hx=>by
 rw[Gn]at hx
 rcases List.mem_append.1 hx with hx|hx
 ·rcases List.mem_append.1 hx with hx|hx
  ·exact Et hc x (List.mem_of_mem_take hx)
  ·exact Et hv x hx
 ·exact Et hc x (List.mem_of_mem_drop hx)
theorem zCa(n:Nat)(x:EV)(h:clE x=true):clL (stdA.rep [x] n)=true:=Dj fun y hy=>by
 rw[Ww]at hy
 rw[List.eq_of_mem_replicate hy];exact h
theorem PY(path:List Nat)(inD:Bool):∀(l m a:List Fld),BM path a inD (l++m)=BM path a inD l++BM path (a++l) inD m
 |[],m,a=>by simp[BM]
 |f::l,m,a=>by
  have:=PY path inD l m (a++[f]);simp only[lC,BM,this,lA,lN]
theorem zC6(path:List Nat)(inD:Bool)(l:List Fld)(z:Nat)(h:z<l.length):BM path [] inD (l.take (z+1))=BM path [] inD (l.take z)++Cq path (l.take z) inD (l.getD z BQ):=by
 rw[List.take_add_one,PY,lE h,lG,lE h]
 simp[BM]
theorem Ut:∀{l:List Fld},Gg l->∀(z:Nat),z<l.length->okF (l.getD z BQ)
 |[],_,z,h=>by simp at h
 |f::l,h,0,_=>h.1
 |f::l,h,z+1,hz=>Ut h.2 z (by simpa using hz)
abbrev Nt:=ByteArray×ByteArray
def JU(x:Nt):List EV:=[.lit (.string x.1),.lit (.string x.2)]
def Im:List Nt->List EV
 |[]=>[]
 |x::l=>JU x++Im l
def nt0:Nt:=(⟨#[]⟩,⟨#[]⟩)
theorem Uy:∀(l:List Nt) (i:Nat),i<l.length->((Im l).drop (i*2)).take 2=JU (l.getD i nt0)
 |[],i,h=>by simp at h
 |f::l,0,_=>rfl
 |f::l,i+1,h=>by
  have ih:=Uy l i (by simpa using h)
  rw[Im,List.drop_append,List.drop_eq_nil_of_le (by show 2<=_;omega),show (JU f).length=2 from rfl,lN,show (i+1)*2-2=i*2 by omega,ih]
  rfl
def ntP(x:Nt):Prop:=x.1.size<=256/\x.2.size<=256
def Si(fs:List Fld)(ns:List Nt):Prop:=fs.length<=32/\ns.length<=16/\(∀x∈ns,ntP x)/\Ce [] (BM [] [] false fs)
theorem Wf:∀(l prev:List Pl),Ce prev l↔∀k,(h:k<l.length)->prev.length+k<256/\okN (prev++l.take k) l[k]
 |[],prev=>by simp[Ce]
 |p::l,prev=>by
  rw[Ce,Wf l (prev++[p])];constructor
  ·rintro⟨h1,h2,h3⟩ k hk
   cases k with
   |zero=>simpa using ⟨h1,h2⟩
   |succ k=>
    obtain⟨a,b⟩:=h3 k (by simpa using hk)
    simp at a b ⊢;exact⟨by omega,b⟩
  ·intro h
   refine⟨by simpa using (h 0 (by simp)).1,by have:=(h 0 (by simp)).2;simp only[List.take_zero,List.append_nil]at this;exact this,fun k hk=>?_⟩
   obtain⟨a,b⟩:=h (k+1) (by simpa using hk)
   simp at a b ⊢;exact⟨by omega,b⟩
theorem zA0{α:Type}{l:List α}{d:α}{q:α->Prop}{n:Nat}(hn:l.length<=n)(h:∀j,j<n->q (l.getD j d))(g:α)(hg:g∈l):q g:=by
 obtain⟨j,hj,rfl⟩:=List.getElem_of_mem hg
 have:=h j (by omega)
 rwa [lG,lE hj]at this
def Dv:EC->Nat->EC
 |c,0=>c
 | .seq _ b,n+1=>Dv b n
 |_,_+1=>.skip
def Er:EC->EC
 | .seq a _=>a
 |_=>.skip
def IsF(p:Prop)(v:EV):Prop:=∃(e at':Int) (pn:Nat) (pc:List EV),v = .agg [.lit (.int .i64 e),.isl pn none pc,.lit (.int .i64 at')]/\(e=0↔p)
theorem IsF.cl{p:Prop}{v:EV}(h:IsF p v):clE v=true:=by obtain⟨e,a,pn,pc,rfl,_⟩:=h;rfl
theorem Up.agg3{a b c a' b' c':EV}(h1:Up a a')(h2:Up b b')(h3:Up c c'):Up (.agg [a,b,c]) (.agg [a',b',c']):=fun w I ρ cv hr=>by
 cases hr with
 |agg _ c vs hl hc=>
  refine .agg _ _ _ (by simpa using hl) fun j e v he hv=>?_
  match j,he with
  |0,he=>simp at he;subst he;exact h1 _ _ _ _ (hc 0 _ v rfl hv)
  |1,he=>simp at he;subst he;exact h2 _ _ _ _ (hc 1 _ v rfl hv)
  |2,he=>simp at he;subst he;exact h3 _ _ _ _ (hc 2 _ v rfl hv)
theorem FinR.f{rs:List ER}{p:Prop}{s:St}{e at':Int}{pe:EV}{pn:Nat}{pc:List EV}(hv:Ci rs s.t s.h=some (.agg [.lit (.int .i64 e),pe,.lit (.int .i64 at')]))(hu:Up pe (.isl pn none pc))(hp:e=0↔p) :
  FinR rs (fun v _=>∃v',IsF p v'/\Up v v') s:=⟨_,hv,_,⟨e,at',pn,pc,rfl,hp⟩,Up.agg3 (Up.refl _) hu (Up.refl _)⟩
theorem Tri.faultC{P:Program}{G:List (List EV)}{f:FuncId}{args:List EV}{p:Prop}(ha:clL args=true)(t:Tri P G f args [] fun v _=>∃v',IsF p v'/\Up v v')(h:EH):Tri P G f args h fun v h'=>IsF p v/\h'=h:=
 Tri.litC (fun v hv=>hv.cl) ha (Tri.up t fun v h' ⟨v',h1,h2⟩=>⟨v',h1,h2⟩) h
end Go.Proofs.YtehgpabfgjofhaaGreatDoor.Stats
