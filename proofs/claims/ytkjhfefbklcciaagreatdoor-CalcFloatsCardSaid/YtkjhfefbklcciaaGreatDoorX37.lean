/- No conditions. -/
import Derived.Test.YtkjhfefbklcciaaGreatDoorX36
set_option linter.unusedVariables false
set_option linter.unusedSimpArgs false
namespace Go.Proofs.YtkjhfefbklcciaaGreatDoor.Em
open Go
section
variable {P:Program} {G:List (List EV)}
theorem FinR.blh{rs:List ER}{s:St}{b:Bool}{p:Prop}{h l:EH}(hv:BP rs s.t s.h=some (.lit (.bool b)))(hb:b=true↔p)(hh:s.h=h++l):FinR rs (fun v h'=>(∃b:Bool,(v = .lit (.bool b)\/v = .sb b)/\(b=true↔p))/\∃l,h'=h++l) s:=⟨_,hv,⟨b,.inl rfl,hb⟩,l,hh⟩
theorem FinR.bsh{rs:List ER}{s:St}{b:Bool}{p:Prop}{h l:EH}(hv:BP rs s.t s.h=some (.sb b))(hb:b=true↔p)(hh:s.h=h++l):FinR rs (fun v h'=>(∃b:Bool,(v = .lit (.bool b)\/v = .sb b)/\(b=true↔p))/\∃l,h'=h++l) s:=⟨_,hv,⟨b,.inr rfl,hb⟩,l,hh⟩
end
def imE(l:List (Int×Int)):List (EV×EV):=l.map fun p=>(.lit (.int .i64 p.1),.lit (.int .i64 p.2))
def I3:List (Int×Int)->Int->Int->List (Int×Int)
 |[],k,v=>[(k,v)]
 |p::l,k,v=>if k=p.1 then (k,v)::l else p::I3 l k v
theorem Nn(k:Int):∃a,Cz (.lit (.int .i64 k))=some a/\∀j,∃b,Cz (.lit (.int .i64 j))=some b/\(a==b)=decide (k=j)/\a.like b=true/\a.shp=0:=by
 refine⟨_,rfl,fun j=>⟨_,rfl,?_,rfl,rfl⟩⟩
 by_cases h:k=j
 ·subst h;simp
 ·simp[h]
theorem L1(k j:Int):Cl (.lit (.int .i64 k)) (.lit (.int .i64 j))=decide (k=j):=by
 obtain⟨a,ha,h⟩:=Nn k
 obtain⟨b,hb,h1,_⟩:=h j
 simp only[Cl,ha,hb,h1]
theorem Td(l:List (Int×Int))(k:Int):stdA.keyed 0 (imE l) (.lit (.int .i64 k))=true:=by
 obtain⟨a,ha,h⟩:=Nn k
 simp only[stdA,Bool.and_eq_true,List.all_eq_true]
 refine⟨?_,fun p hp=>?_⟩
 ·obtain⟨_,_,_,_,h4⟩:=h 0
  simp[C8,ha,h4]
 ·obtain⟨q,_,rfl⟩:=List.mem_map.1 hp
  obtain⟨b,hb,_,h3,_⟩:=h q.1;simp only[Gz,ha,hb,h3]
theorem RX(l:List (Int×Int))(k:Int):stdA.find (imE l) (.lit (.int .i64 k))=(l.find? fun p=>decide (k=p.1)).map fun p=>.lit (.int .i64 p.2):=by
 show ((imE l).find? fun p=>Cl _ p.1).map (·.2)=_
 induction l with
 |nil=>rfl
 |cons p l ih=>
  simp only[imE,List.map_cons,List.find?_cons,L1]
  by_cases h:k=p.1
  ·simp[h]
  ·simp only[h,decide_false];exact ih
theorem R5(l:List (Int×Int))(k v:Int):stdA.mset (imE l) (.lit (.int .i64 k)) (.lit (.int .i64 v))=imE (I3 l k v):=by
 show B3 (imE l) _ _=_
 induction l with
 |nil=>rfl
 |cons p l ih=>
  simp only[imE,List.map_cons,B3,L1,I3]
  by_cases h:k=p.1
  ·simp[h]
  ·simp only[h,decide_false,bF,if_false,List.map_cons]
   congr 1
theorem YE(l:List (Int×Int))(k:Int):stdA.find (imE l) (.lit (.int .i64 k))=none↔¬∃p∈l,p.1=k:=by
 rw[RX]
 simp only[Option.map_eq_none_iff,List.find?_eq_none,decide_eq_true_eq]
 constructor
 ·rintro h ⟨p,hp,e⟩;exact h p hp e.symm
 ·intro h p hp e;exact h ⟨p,hp,e.symm⟩
theorem Ba:(∀(a b:Nat),(stdA.le a b=true)=(a<=b))/\(∀(a:Int) (b:Nat),(stdA.inb a b=true)=(0<=a/\a<b))/\(∀(a b:Int) (n:Nat),(stdA.slb a b n=true)=(0<=a/\a<=b/\b<=n))/\(∀(n b:Nat),(stdA.room n b=true)=(n*b<=140737488355328/\n<=9223372036854775807))/\(∀(b:Nat) (n m:Int),(stdA.mks b n m=true)=(0<=n/\n<=m/\m*b<=281474976710656/\m<=9223372036854775807))/\(∀(a:Int),(stdA.ne0 a=true)=(a≠0))/\(∀(a:Int),(stdA.nn a=true)=(0<=a))/\(∀(a b:Int),stdA.ic .eql a b=decide (a=b))/\(∀(a b:Int),stdA.ic .neq a b=decide (a≠b))/\(∀(a b:Int),stdA.ic .lss a b=decide (a<b))/\(∀(a b:Int),stdA.ic .leq a b=decide (a<=b))/\(∀(a b:Int),stdA.ic .gtr a b=decide (b<a))/\(∀(a b:Int),stdA.ic .geq a b=decide (b<=a))/\(∀(n:Nat),stdA.isz n=decide (n=0))/\(∀(b:Bool),stdA.bnot b = !b)/\(∀(a b:Bool),stdA.beq a b=(a==b))/\(∀(o:Nat) (i:Int) (e:Nat),stdA.idx o i e=o+i.toNat * e)/\(∀(a b:Nat),stdA.add a b=a+b)/\(∀(a b:Nat),stdA.sub a b=a-b)/\(∀(a b:Nat),stdA.mul a b=a*b)/\(∀(a:Int),stdA.tn a=a.toNat)/\(∀(a:Nat),stdA.ofn a=(a:Int))/\(∀(a b:Nat),stdA.nmin a b=min a b)/\(∀(n:Nat) (l:List EV),stdA.drp n l=l.drop n)/\(∀(n:Nat) (l:List EV),stdA.tak n l=l.take n)/\(∀(l m:List EV),stdA.app l m=l++m)/\(∀(l:List EV),stdA.len l=l.length)/\(∀(a b:Nat),stdA.le a b=decide (a<=b))/\(∀(a b:Int) (h1: -9223372036854775808<=a+b) (h2:a+b<=9223372036854775807),stdA.ib .add .i64 a b=a+b)/\(∀(a b:Int) (h1: -9223372036854775808<=a-b) (h2:a-b<=9223372036854775807),stdA.ib .sub .i64 a b=a-b)/\(∀(a b:Int) (h1: -9223372036854775808<=a*b) (h2:a*b<=9223372036854775807),stdA.ib .mul .i64 a b=a*b)/\(∀(n:Int) (h1: -9223372036854775808<=n) (h2:n<=9223372036854775807),stdA.wr .i64 n=n)/\(∀(n:Int) (h1:0<=n) (h2:n<256),stdA.wr .u8 n=n)/\(∀(l:List Nat),l.map D9=Bj l)/\(∀(l:List Nat),(Bj l).length=l.length)/\(∀(n:Nat) (l:List Nat),(Bj l).drop n=Bj (l.drop n))/\(∀(n:Nat) (l:List Nat),(Bj l).take n=Bj (l.take n))/\(∀(l m:List Nat),Bj l++Bj m=Bj (l++m))/\(∀(l:List Int),l.map Ko=Ht l)/\(∀(l:List Int),(Ht l).length=l.length)/\(∀(p:Prop) [Decidable p],(decide p=true)=p)/\(∀(p:Prop) [Decidable p],(decide p=false)=¬p)/\(∀n:Nat,n*1=n)/\(∀n:Nat,0+n=n)/\(∀n:Nat,n+0=n)/\(∀b:Bool,((!b)=true)=(b=false))/\(∀(α:Type) (n:Nat) (l:List α),(l.take n).length=min n l.length)/\(∀(α:Type) (n:Nat) (l:List α),(l.drop n).length=l.length-n)/\(∀(α:Type) (l m:List α),(l++m).length=l.length+m.length)/\(∀(α:Type) (x:α) (l:List α),(x::l).length=l.length+1)/\(∀α:Type,([]:List α).length=0)/\(∀(α:Type) (l:List α),l.drop 0=l)/\((!false)=true)/\((!true)=false)/\(∀(s:ByteArray),stdA.bsz s=s.size)/\(∀(a b:ByteArray),stdA.ss .eql a b=decide (a=b))/\(∀(a b:ByteArray),stdA.ss .neq a b=decide (a≠b))/\(∀(l:List (Int×Int)) (k:Int),stdA.keyed 0 (imE l) (.lit (.int .i64 k))=true)/\(∀(l:List (Int×Int)) (k:Int),stdA.find (imE l) (.lit (.int .i64 k))=none↔¬∃p∈l,p.1=k)/\(∀(l:List (Int×Int)) (k v:Int),stdA.mset (imE l) (.lit (.int .i64 k)) (.lit (.int .i64 v))=imE (I3 l k v)):=
 ⟨@TF,@YI,@TM,@TP,@WX,@SV,@Zm,@JN,@T5,@Sg,@Tc,@V0,@LU,@WV,@Tw,@YP,@B0,@Ue,@Yh,@IC,@R2,@Sq,@YR,@IR,@II,@HR,@YM,@YN,@Vp,@Tx,@LJ,@UO,@TV,@VR,@Dd,@Nq,@ND,@SZ,@VN,@VV,fun p _=>by simp,fun p _=>by simp,by intros;simp,by intros;simp,by intros;simp,fun b=>by simp,by intros;simp,by intros;simp,by intros;simp,by intros;simp,fun _=>rfl,by intros;simp,rfl,rfl,@T0,@Ps,@YL,@Td,@YE,@R5⟩
end Go.Proofs.YtkjhfefbklcciaaGreatDoor.Em
