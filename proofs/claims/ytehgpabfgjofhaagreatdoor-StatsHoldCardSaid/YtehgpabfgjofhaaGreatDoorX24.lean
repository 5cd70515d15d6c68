/- No conditions. -/
import Derived.Test.YtehgpabfgjofhaaGreatDoorX23
set_option linter.unusedVariables false
set_option linter.unusedSimpArgs false
namespace Go.Proofs.YtehgpabfgjofhaaGreatDoor.Em
open Go
section
variable {P:Program} {G:List (List EV)} {ro:Option Nat} {I0:Imm} {ρ0:Ren} {w0:World} {Q:Exit->Act->World->Prop}
theorem Be{A:Ar}(hA:A=stdA)(hd:Hd P G){Fin:St->Prop}(hF:EndsQ P G I0 ρ0 w0 Q Fin)(n:Nat){k:List KI}{st:St}(hk:noOps k)(ok:OK P G ro I0 ρ0 w0 Q Fin (run A G n k st)):OKs P G ro I0 ρ0 w0 Q k st:=by
 subst hA
 have:=NF hd hF n k st hk.good ok
 rwa [hk.okk]at this
theorem Bd{A:Ar}(hA:A=stdA)(hd:Hd P G){Fin:St->Prop}(hF:EndsQ P G I0 ρ0 w0 Q Fin)(n:Nat){k:List KI}{st:St}(hk:JZ k)(ok:OK P G ro I0 ρ0 w0 Q Fin (run A G n k st)):OKK P G ro I0 ρ0 w0 Q k st:=by
 subst hA
 exact NF hd hF n k st hk ok
end
/-! ### the arithmetic -/
theorem D6(n:Int)(h1: -9223372036854775808<=n)(h2:n<=9223372036854775807):IntKind.i64.wrap n=n:=by
 simp only[IntKind.wrap,IntKind.signed,IntKind.bits]
 simp
 split<;>omega
theorem Nh(n:Int)(h1:0<=n)(h2:n<256):IntKind.u8.wrap n=n:=by
 simp only[IntKind.wrap,IntKind.signed,IntKind.bits]
 simp
 omega
theorem K5(a b:Int)(h1: -9223372036854775808<=a+b)(h2:a+b<=9223372036854775807):stdA.ib .add .i64 a b=a+b:=D6 _ h1 h2
theorem PK(a b:Int)(h1: -9223372036854775808<=a-b)(h2:a-b<=9223372036854775807):stdA.ib .sub .i64 a b=a-b:=D6 _ h1 h2
theorem Dq(a b:Int)(h1: -9223372036854775808<=a*b)(h2:a*b<=9223372036854775807):stdA.ib .mul .i64 a b=a*b:=D6 _ h1 h2
theorem Sa(a b:Int):stdA.ic .eql a b=decide (a=b):=by simp[stdA];rfl
theorem zBa(a b:Int):stdA.ic .neq a b=decide (a≠b):=by
 simp only[stdA];by_cases h:a=b<;>simp[h]
theorem T7(a b:Int):stdA.ic .lss a b=decide (a<b):=rfl
theorem zCz(a b:Int):stdA.ic .leq a b=decide (a<=b):=rfl
theorem WA(a b:Int):stdA.ic .gtr a b=decide (b<a):=rfl
theorem zBk(a b:Int):stdA.ic .geq a b=decide (b<=a):=rfl
theorem zDA(a b:Nat):(stdA.le a b=true)=(a<=b):=by simp[stdA]
theorem Zg(a b:Nat):stdA.le a b=decide (a<=b):=rfl
theorem zBo(a:Int)(b:Nat):(stdA.inb a b=true)=(0<=a/\a<b):=by simp[stdA]
theorem zC3(a b:Int)(n:Nat):(stdA.slb a b n=true)=(0<=a/\a<=b/\b<=n):=by simp[stdA]
theorem zBJ(n b:Nat):(stdA.room n b=true)=(n*b<=140737488355328/\n<=9223372036854775807):=by simp[stdA]
theorem Z5(b:Nat)(n m:Int):(stdA.mks b n m=true)=(0<=n/\n<=m/\m*b<=281474976710656/\m<=9223372036854775807):=by simp[stdA]
theorem zDe(n:Nat):stdA.isz n=decide (n=0):=by simp[stdA];rfl
theorem ZB(b:Bool):stdA.bnot b = !b:=rfl
theorem zB7(a b:Bool):stdA.beq a b=(a==b):=rfl
theorem zDV(a:Int):(stdA.ne0 a=true)=(a≠0):=by simp[stdA]
theorem ZN(a:Int):(stdA.nn a=true)=(0<=a):=by simp[stdA]
theorem B3(o:Nat)(i:Int)(e:Nat):stdA.idx o i e=o+i.toNat * e:=rfl
theorem PE(a b:Nat):stdA.add a b=a+b:=rfl
theorem IE(a b:Nat):stdA.sub a b=a-b:=rfl
theorem CT(a b:Nat):stdA.mul a b=a*b:=rfl
theorem HY(a:Int):stdA.tn a=a.toNat:=rfl
theorem zCq(a:Nat):stdA.ofn a=(a:Int):=rfl
theorem zAJ(a b:Nat):stdA.nmin a b=min a b:=rfl
theorem CV(n:Nat)(l:List EV):stdA.drp n l=l.drop n:=rfl
theorem C7(n:Nat)(l:List EV):stdA.tak n l=l.take n:=rfl
theorem DL(l m:List EV):stdA.app l m=l++m:=rfl
theorem Y4(l:List EV):stdA.len l=l.length:=rfl
theorem Gn(l:List EV)(o:Nat)(v:List EV):stdA.setl l o v=l.take o++v++l.drop (o+v.length):=rfl
theorem zBL(z:List EV)(n:Nat):stdA.rep z n=(List.replicate n z).flatten:=rfl
theorem zAC(n:Int)(h1: -9223372036854775808<=n)(h2:n<=9223372036854775807):stdA.wr .i64 n=n:=D6 _ h1 h2
theorem zCe(n:Int)(h1:0<=n)(h2:n<256):stdA.wr .u8 n=n:=Nh _ h1 h2
/-! ### bytes -/
def Gp(n:Nat):EV:=.lit (.int .u8 (n:Int))
def Br(l:List Nat):List EV:=l.map Gp
def Re(n:Int):EV:=.lit (.int .i64 n)
def Ke(l:List Int):List EV:=l.map Re
theorem zBW(l:List Nat):l.map Gp=Br l:=rfl
theorem zDC(l:List Int):l.map Re=Ke l:=rfl
theorem JK(l:List Nat):(Br l).length=l.length:=by simp[Br]
theorem YQ(l:List Int):(Ke l).length=l.length:=by simp[Ke]
theorem GW(n:Nat)(l:List Nat):(Br l).drop n=Br (l.drop n):=by simp[Br,List.map_drop]
theorem Ki(n:Nat)(l:List Nat):(Br l).take n=Br (l.take n):=by simp[Br,List.map_take]
theorem zDo(l m:List Nat):Br l++Br m=Br (l++m):=by simp[Br]
theorem Zp(l:List Nat):clL (Br l)=true:=Dj fun x hx=>by
 simp[Br,Gp]at hx;obtain⟨n,_,rfl⟩:=hx;rfl
theorem DO(l:List Nat)(i:Nat)(h:i<l.length):((Br l).drop i).take 1=[Gp (l.getD i 0)]:=by
 have hl:i<(Br l).length:=by rw[JK];exact h
 rw[List.drop_eq_getElem_cons hl]
 simp[Br,lE h]
theorem IK{l:List Nat}{c:List EV}(hc:c=Br l)(i:Nat)(h:i<l.length):∃x:Int,(c.drop i).take 1=[.lit (.int .u8 x)]/\x=(l.getD i 0:Nat):=by
 subst hc;exact⟨_,DO l i h,rfl⟩
def AllB(l:List Nat):Prop:=∀x∈l,x<256
theorem AllB.nil:AllB []:=fun x hx=>by cases hx
theorem AllB.app{l m:List Nat}(h:AllB l)(k:AllB m):AllB (l++m):=fun x hx=>by
 rcases List.mem_append.1 hx with hx|hx
 ·exact h x hx
 ·exact k x hx
theorem AllB.drop{l:List Nat}(h:AllB l)(n:Nat):AllB (l.drop n):=fun x hx=>h x (List.mem_of_mem_drop hx)
theorem AllB.take{l:List Nat}(h:AllB l)(n:Nat):AllB (l.take n):=fun x hx=>h x (List.mem_of_mem_take hx)
theorem AllB.get{l:List Nat}(h:AllB l)(i:Nat):l.getD i 0<256:=by
 rw[lG]
 cases hx:l[i]? with
 |none=>simp
 |some x=>exact h x (List.mem_of_getElem? hx)
theorem Ku{l:List Nat}(h:AllB l){n:Nat}(hn:n<=l.length):stdA.byt n (Br l)=true:=by
 simp only[stdA,Bool.and_eq_true,decide_eq_true_eq,List.all_eq_true]
 refine⟨by rw[JK];exact hn,fun x hx=>?_⟩
 have hx:=List.mem_of_mem_take hx
 simp only[Br,List.mem_map]at hx
 obtain⟨y,hy,rfl⟩:=hx
 have:=h y hy
 simp only[Gp,HH,decide_eq_true_eq]
 omega
def CH(l:List Nat):ByteArray:=⟨(l.map UInt8.ofNat).toArray⟩
theorem Lu(l:List Nat):stdA.dec (Br l)=CH l:=by
 simp[stdA,Br,CH,Gp,Kb,List.map_map]
theorem Px{n:Nat}{l:List EV}(hl:l.length=n*1)(h:∀i,i<n->Js (.int .u8) ((l.drop (i*1)).take 1)):∃b:List Nat,l=Br b/\b.length=n/\AllB b:=by
 induction n generalizing l with
 |zero=>
  have:l=[]:=by simpa using hl
  subst this;exact⟨[],rfl,rfl,AllB.nil⟩
 |succ n ih=>
  cases l with
  |nil=>simp at hl
  |cons x l=>
   obtain⟨b,h1,h2,h3⟩:=ih (l:=l) (by simpa using hl) (fun i hi=>by
    have:=h (i+1) (by omega)
    simpa using this)
   have h0:=h 0 (by omega)
   simp only[Js]at h0;obtain⟨v,hv,hv1,hv2⟩:=h0;simp[IntKind.min,IntKind.max,IntKind.signed,IntKind.bits]at hv hv1 hv2;refine⟨v.toNat::b,?_,by simp[h2],fun y hy=>?_⟩
   ·simp only[Br,List.map_cons,Gp]
    rw[hv,h1,Int.toNat_of_nonneg hv1];rfl
   ·rcases List.mem_cons.1 hy with rfl|hy
    ·omega
    ·exact h3 y hy
def mkT(n:Nat)(l:List (Nat×EV)):List EV:=l.foldl (fun t p=>BN t p.1 p.2) (List.replicate n .top)
def msk(n:Nat)(l:List Nat):List Bool:=(List.range n).map fun i=>l.contains i
end Go.Proofs.YtehgpabfgjofhaaGreatDoor.Em
