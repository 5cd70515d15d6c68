/- No conditions. -/
import Derived.Test.YtehgpabfgjofhaaGreatDoorX36
set_option linter.unusedVariables false
set_option linter.unusedSimpArgs false
namespace Go.Proofs.YtehgpabfgjofhaaGreatDoor.Em
open Go
section
variable {P:Program} {G:List (List EV)}
theorem Tri.lendB{f:FuncId}{args args':List EV}{p:Prop}{h:EH}(fr:List Nat)(hfr:∀id∈fr,∃c,Bh h id = .blk c/\clL c=true)(ha:mvL (mvG [] fr) (mvZ fr h) args=args')
  (t:Tri P G f args' [] fun v h'=>IsP p v/\h'=[]):Tri P G f args h fun v h'=>IsP p v/\h'=h:=by
 subst ha
 refine(Tri.frame fr hfr t (.inr fun v h' ⟨⟨b,hv,_⟩,hh⟩=>by subst hv;subst hh;exact⟨rfl,rfl⟩)).mono fun v h' ⟨v0,h0,⟨⟨b,hv,hb⟩,hh⟩,e1,e2⟩=>?_
 subst hv;subst hh;subst e1;subst e2
 exact⟨⟨b,rfl,hb⟩,rfl⟩
theorem FinR.nh{rs:List ER}{k:IntKind}{φ:Int->Prop}{s:St}{n:Int}{h l:EH}(hv:Ci rs s.t s.h=some (.lit (.int k n)))(hn:φ n)(hh:s.h=h++l):FinR rs (fun v h'=>IsN k φ v/\∃l,h'=h++l) s:=⟨_,hv,⟨n,rfl,hn⟩,l,hh⟩
theorem FinR.blh{rs:List ER}{s:St}{b:Bool}{p:Prop}{h l:EH}(hv:Ci rs s.t s.h=some (.lit (.bool b)))(hb:b=true↔p)(hh:s.h=h++l):FinR rs (fun v h'=>(∃b:Bool,(v = .lit (.bool b)\/v = .sb b)/\(b=true↔p))/\∃l,h'=h++l) s:=⟨_,hv,⟨b,.inl rfl,hb⟩,l,hh⟩
theorem FinR.bsh{rs:List ER}{s:St}{b:Bool}{p:Prop}{h l:EH}(hv:Ci rs s.t s.h=some (.sb b))(hb:b=true↔p)(hh:s.h=h++l):FinR rs (fun v h'=>(∃b:Bool,(v = .lit (.bool b)\/v = .sb b)/\(b=true↔p))/\∃l,h'=h++l) s:=⟨_,hv,⟨b,.inr rfl,hb⟩,l,hh⟩
theorem Zb{h l:EH}:EM (List.range (Bc h)) [] (h++l):=by
 refine⟨List.nodup_range,fun id hid=>?_,fun id hid=>by cases hid⟩
 have:∀h l:EH,Bc (h++l)=Bc h+Bc l:=fun h l=>by
  induction h with
  |nil=>simp[Bc]
  |cons o h ih=>simp only[lC,Bc,ih];omega
 rw[this]
 have:=List.mem_range.1 hid
 omega
theorem Tri.trimN{f:FuncId}{args:List EV}{k:IntKind}{φ:Int->Prop}{h:EH}(hcl:∀l,mvH (List.range (Bc h)) [] (h++l) (List.range (Bc h))=h)
  (t:Tri P G f args h fun v h'=>IsN k φ v/\∃l,h'=h++l):Tri P G f args h fun v h'=>IsN k φ v/\h'=h:=
 Tri.mv t fun v h' ⟨⟨n,hv,hn⟩,l,hl⟩=>⟨List.range (Bc h),[],by rw[lT (by simp)],by subst hl;exact Zb,⟨n,by subst hv;rfl,hn⟩,by subst hl;exact hcl l⟩
theorem FinR.n{rs:List ER}{k:IntKind}{φ:Int->Prop}{s:St}{n:Int}(hv:Ci rs s.t s.h=some (.lit (.int k n)))(hn:φ n):FinR rs (fun v _=>IsN k φ v) s:=⟨_,hv,n,rfl,hn⟩
end
theorem zDr{o:Option EV}{X:Prop}{Y:EV->Prop}(h1:o=none->X)(h2:∀x,o=some x->Y x):(o=none->X)/\∀x,o=some x->Y x:=⟨h1,h2⟩
def imE(l:List (Int×Int)):List (EV×EV):=l.map fun p=>(.lit (.int .i64 p.1),.lit (.int .i64 p.2))
def E5:List (Int×Int)->Int->Int->List (Int×Int)
 |[],k,v=>[(k,v)]
 |p::l,k,v=>if k=p.1 then (k,v)::l else p::E5 l k v
theorem Vj(k:Int):∃a,Dt (.lit (.int .i64 k))=some a/\∀j,∃b,Dt (.lit (.int .i64 j))=some b/\(a==b)=decide (k=j)/\a.like b=true/\a.shp=0:=by
 refine⟨_,rfl,fun j=>⟨_,rfl,?_,rfl,rfl⟩⟩
 by_cases h:k=j
 ·subst h;simp
 ·simp[h]
theorem UM(k j:Int):Df (.lit (.int .i64 k)) (.lit (.int .i64 j))=decide (k=j):=by
 obtain⟨a,ha,h⟩:=Vj k
 obtain⟨b,hb,h1,_⟩:=h j
 simp only[Df,ha,hb,h1]
theorem RY(l:List (Int×Int))(k:Int):stdA.keyed 0 (imE l) (.lit (.int .i64 k))=true:=by
 obtain⟨a,ha,h⟩:=Vj k
 simp only[stdA,Bool.and_eq_true,List.all_eq_true]
 refine⟨?_,fun p hp=>?_⟩
 ·obtain⟨_,_,_,_,h4⟩:=h 0
  simp[Ew,ha,h4]
 ·obtain⟨q,_,rfl⟩:=List.mem_map.1 hp
  obtain⟨b,hb,_,h3,_⟩:=h q.1;simp only[IL,ha,hb,h3]
theorem ZJ(l:List (Int×Int))(k:Int):stdA.find (imE l) (.lit (.int .i64 k))=(l.find? fun p=>decide (k=p.1)).map fun p=>.lit (.int .i64 p.2):=by
 show ((imE l).find? fun p=>Df _ p.1).map (·.2)=_
 induction l with
 |nil=>rfl
 |cons p l ih=>
  simp only[imE,List.map_cons,List.find?_cons,UM]
  by_cases h:k=p.1
  ·simp[h]
  ·simp only[h,decide_false];exact ih
theorem L9(l:List (Int×Int))(k v:Int):stdA.mset (imE l) (.lit (.int .i64 k)) (.lit (.int .i64 v))=imE (E5 l k v):=by
 show CO (imE l) _ _=_
 induction l with
 |nil=>rfl
 |cons p l ih=>
  simp only[imE,List.map_cons,CO,UM,E5]
  by_cases h:k=p.1
  ·simp[h]
  ·simp only[h,decide_false,bF,if_false,List.map_cons]
   congr 1
theorem Eo(g z)(l:List (Int×Int)):mvM g z (imE l)=imE l:=by
 induction l with
 |nil=>rfl
 |cons p l ih=>simp only[imE,List.map_cons,mvM,mvE];rw[show List.map _ l=imE l from rfl,ih]
theorem exC{α:Type}{p:α->Prop}{x:α}{l:List α}:(∃y,y∈x::l/\p y)↔p x\/∃y,y∈l/\p y:=by
 constructor
 ·rintro⟨y,hy,h⟩
  rcases List.mem_cons.1 hy with rfl|hy
  ·exact .inl h
  ·exact .inr ⟨y,hy,h⟩
 ·rintro(h|⟨y,hy,h⟩)
  ·exact⟨x,by simp,h⟩
  ·exact⟨y,by simp[hy],h⟩
theorem zCV(l:List (Int×Int))(k v a:Int):(∃p,p∈E5 l k v/\p.1=a)↔(∃p,p∈l/\p.1=a)\/a=k:=by
 induction l with
 |nil=>simp[E5];exact eq_comm
 |cons p l ih=>
  simp only[E5]
  by_cases h:k=p.1
  ·subst h
   simp only[if_true,exC];constructor
   ·rintro(h|h)
    ·exact .inl (.inl h)
    ·exact .inl (.inr h)
   ·rintro((h|h)|h)
    ·exact .inl h
    ·exact .inr h
    ·exact .inl h.symm
  ·simp only[h,if_false,exC,ih,or_assoc]
theorem Un(l:List (Int×Int))(k:Int):stdA.find (imE l) (.lit (.int .i64 k))=none↔¬∃p∈l,p.1=k:=by
 rw[ZJ]
 simp only[Option.map_eq_none_iff,List.find?_eq_none,decide_eq_true_eq]
 constructor
 ·rintro h ⟨p,hp,e⟩;exact h p hp e.symm
 ·intro h p hp e;exact h ⟨p,hp,e.symm⟩
theorem Ba:(∀(a b:Nat),(stdA.le a b=true)=(a<=b))/\(∀(a:Int) (b:Nat),(stdA.inb a b=true)=(0<=a/\a<b))/\(∀(a b:Int) (n:Nat),(stdA.slb a b n=true)=(0<=a/\a<=b/\b<=n))/\(∀(n b:Nat),(stdA.room n b=true)=(n*b<=140737488355328/\n<=9223372036854775807))/\(∀(b:Nat) (n m:Int),(stdA.mks b n m=true)=(0<=n/\n<=m/\m*b<=281474976710656/\m<=9223372036854775807))/\(∀(a:Int),(stdA.ne0 a=true)=(a≠0))/\(∀(a:Int),(stdA.nn a=true)=(0<=a))/\(∀(a b:Int),stdA.ic .eql a b=decide (a=b))/\(∀(a b:Int),stdA.ic .neq a b=decide (a≠b))/\(∀(a b:Int),stdA.ic .lss a b=decide (a<b))/\(∀(a b:Int),stdA.ic .leq a b=decide (a<=b))/\(∀(a b:Int),stdA.ic .gtr a b=decide (b<a))/\(∀(a b:Int),stdA.ic .geq a b=decide (b<=a))/\(∀(n:Nat),stdA.isz n=decide (n=0))/\(∀(b:Bool),stdA.bnot b = !b)/\(∀(a b:Bool),stdA.beq a b=(a==b))/\(∀(o:Nat) (i:Int) (e:Nat),stdA.idx o i e=o+i.toNat * e)/\(∀(a b:Nat),stdA.add a b=a+b)/\(∀(a b:Nat),stdA.sub a b=a-b)/\(∀(a b:Nat),stdA.mul a b=a*b)/\(∀(a:Int),stdA.tn a=a.toNat)/\(∀(a:Nat),stdA.ofn a=(a:Int))/\(∀(a b:Nat),stdA.nmin a b=min a b)/\(∀(n:Nat) (l:List EV),stdA.drp n l=l.drop n)/\(∀(n:Nat) (l:List EV),stdA.tak n l=l.take n)/\(∀(l m:List EV),stdA.app l m=l++m)/\(∀(l:List EV),stdA.len l=l.length)/\(∀(a b:Nat),stdA.le a b=decide (a<=b))/\(∀(a b:Int) (h1: -9223372036854775808<=a+b) (h2:a+b<=9223372036854775807),stdA.ib .add .i64 a b=a+b)/\(∀(a b:Int) (h1: -9223372036854775808<=a-b) (h2:a-b<=9223372036854775807),stdA.ib .sub .i64 a b=a-b)/\(∀(a b:Int) (h1: -9223372036854775808<=a*b) (h2:a*b<=9223372036854775807),stdA.ib .mul .i64 a b=a*b)/\(∀(n:Int) (h1: -9223372036854775808<=n) (h2:n<=9223372036854775807),stdA.wr .i64 n=n)/\(∀(n:Int) (h1:0<=n) (h2:n<256),stdA.wr .u8 n=n)/\(∀(l:List Nat),l.map Gp=Br l)/\(∀(l:List Nat),(Br l).length=l.length)/\(∀(n:Nat) (l:List Nat),(Br l).drop n=Br (l.drop n))/\(∀(n:Nat) (l:List Nat),(Br l).take n=Br (l.take n))/\(∀(l m:List Nat),Br l++Br m=Br (l++m))/\(∀(l:List Int),l.map Re=Ke l)/\(∀(l:List Int),(Ke l).length=l.length)/\(∀(p:Prop) [Decidable p],(decide p=true)=p)/\(∀(p:Prop) [Decidable p],(decide p=false)=¬p)/\(∀n:Nat,n*1=n)/\(∀n:Nat,0+n=n)/\(∀n:Nat,n+0=n)/\(∀b:Bool,((!b)=true)=(b=false))/\(∀(α:Type) (n:Nat) (l:List α),(l.take n).length=min n l.length)/\(∀(α:Type) (n:Nat) (l:List α),(l.drop n).length=l.length-n)/\(∀(α:Type) (l m:List α),(l++m).length=l.length+m.length)/\(∀(α:Type) (x:α) (l:List α),(x::l).length=l.length+1)/\(∀α:Type,([]:List α).length=0)/\(∀(α:Type) (l:List α),l.drop 0=l)/\((!false)=true)/\((!true)=false)/\(∀(s:ByteArray),stdA.bsz s=s.size)/\(∀(a b:ByteArray),stdA.ss .eql a b=decide (a=b))/\(∀(a b:ByteArray),stdA.ss .neq a b=decide (a≠b))/\(∀(l:List (Int×Int)) (k:Int),stdA.keyed 0 (imE l) (.lit (.int .i64 k))=true)/\(∀(l:List (Int×Int)) (k:Int),stdA.find (imE l) (.lit (.int .i64 k))=none↔¬∃p∈l,p.1=k)/\(∀(l:List (Int×Int)) (k v:Int),stdA.mset (imE l) (.lit (.int .i64 k)) (.lit (.int .i64 v))=imE (E5 l k v)):=
 ⟨@zDA,@zBo,@zC3,@zBJ,@Z5,@zDV,@ZN,@Sa,@zBa,@T7,@zCz,@WA,@zBk,@zDe,@ZB,@zB7,@B3,@PE,@IE,@CT,@HY,@zCq,@zAJ,@CV,@C7,@DL,@Y4,@Zg,@K5,@PK,@Dq,@zAC,@zCe,@zBW,@JK,@GW,@Ki,@zDo,@zDC,@YQ,fun p _=>by simp,fun p _=>by simp,by intros;simp,by intros;simp,by intros;simp,fun b=>by simp,by intros;simp,by intros;simp,by intros;simp,by intros;simp,fun _=>rfl,by intros;simp,rfl,rfl,@ZA,@Ue,@TT,@RY,@Un,@L9⟩
end Go.Proofs.YtehgpabfgjofhaaGreatDoor.Em
