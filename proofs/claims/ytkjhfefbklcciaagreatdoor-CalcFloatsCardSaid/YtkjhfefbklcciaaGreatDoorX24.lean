/- No conditions. -/
import Derived.Test.YtkjhfefbklcciaaGreatDoorX23
set_option linter.unusedVariables false
set_option linter.unusedSimpArgs false
namespace Go.Proofs.YtkjhfefbklcciaaGreatDoor.Em
open Go
section
variable {P:Program} {G:List (List EV)} {ro:Option Nat} {I0:Imm} {ρ0:Ren} {w0:World} {Q:Exit->Act->World->Prop}
theorem Bf{A:Ar}(hA:A=stdA)(hd:Do P G){Fin:St->Prop}(hF:EndsQ P G I0 ρ0 w0 Q Fin)(n:Nat){k:List KI}{st:St}(hk:noOps k)(ok:OK P G ro I0 ρ0 w0 Q Fin (run A G n k st)):OKs P G ro I0 ρ0 w0 Q k st:=by
 subst hA
 have:=Kf hd hF n k st hk.good ok
 rwa [hk.okk]at this
theorem Be{A:Ar}(hA:A=stdA)(hd:Do P G){Fin:St->Prop}(hF:EndsQ P G I0 ρ0 w0 Q Fin)(n:Nat){k:List KI}{st:St}(hk:Hd k)(ok:OK P G ro I0 ρ0 w0 Q Fin (run A G n k st)):OKK P G ro I0 ρ0 w0 Q k st:=by
 subst hA
 exact Kf hd hF n k st hk ok
end
/-! ### the arithmetic -/
theorem GY(n:Int)(h1: -9223372036854775808<=n)(h2:n<=9223372036854775807):IntKind.i64.wrap n=n:=by
 simp only[IntKind.wrap,IntKind.signed,IntKind.bits]
 simp
 split<;>omega
theorem SK(n:Int)(h1:0<=n)(h2:n<256):IntKind.u8.wrap n=n:=by
 simp only[IntKind.wrap,IntKind.signed,IntKind.bits]
 simp
 omega
theorem Y9(n:Int):IntKind.u8.wrap n=n%256:=by
 simp only[IntKind.wrap,IntKind.signed,IntKind.bits]
 simp
theorem Vp(a b:Int)(h1: -9223372036854775808<=a+b)(h2:a+b<=9223372036854775807):stdA.ib .add .i64 a b=a+b:=GY _ h1 h2
theorem Tx(a b:Int)(h1: -9223372036854775808<=a-b)(h2:a-b<=9223372036854775807):stdA.ib .sub .i64 a b=a-b:=GY _ h1 h2
theorem LJ(a b:Int)(h1: -9223372036854775808<=a*b)(h2:a*b<=9223372036854775807):stdA.ib .mul .i64 a b=a*b:=GY _ h1 h2
theorem JN(a b:Int):stdA.ic .eql a b=decide (a=b):=by simp[stdA];rfl
theorem T5(a b:Int):stdA.ic .neq a b=decide (a≠b):=by
 simp only[stdA];by_cases h:a=b<;>simp[h]
theorem Sg(a b:Int):stdA.ic .lss a b=decide (a<b):=rfl
theorem Tc(a b:Int):stdA.ic .leq a b=decide (a<=b):=rfl
theorem V0(a b:Int):stdA.ic .gtr a b=decide (b<a):=rfl
theorem LU(a b:Int):stdA.ic .geq a b=decide (b<=a):=rfl
theorem TF(a b:Nat):(stdA.le a b=true)=(a<=b):=by simp[stdA]
theorem YN(a b:Nat):stdA.le a b=decide (a<=b):=rfl
theorem YI(a:Int)(b:Nat):(stdA.inb a b=true)=(0<=a/\a<b):=by simp[stdA]
theorem TM(a b:Int)(n:Nat):(stdA.slb a b n=true)=(0<=a/\a<=b/\b<=n):=by simp[stdA]
theorem TP(n b:Nat):(stdA.room n b=true)=(n*b<=140737488355328/\n<=9223372036854775807):=by simp[stdA]
theorem WX(b:Nat)(n m:Int):(stdA.mks b n m=true)=(0<=n/\n<=m/\m*b<=281474976710656/\m<=9223372036854775807):=by simp[stdA]
theorem WV(n:Nat):stdA.isz n=decide (n=0):=by simp[stdA];rfl
theorem Tw(b:Bool):stdA.bnot b = !b:=rfl
theorem YP(a b:Bool):stdA.beq a b=(a==b):=rfl
theorem SV(a:Int):(stdA.ne0 a=true)=(a≠0):=by simp[stdA]
theorem Zm(a:Int):(stdA.nn a=true)=(0<=a):=by simp[stdA]
theorem B0(o:Nat)(i:Int)(e:Nat):stdA.idx o i e=o+i.toNat * e:=rfl
theorem Ue(a b:Nat):stdA.add a b=a+b:=rfl
theorem Yh(a b:Nat):stdA.sub a b=a-b:=rfl
theorem IC(a b:Nat):stdA.mul a b=a*b:=rfl
theorem R2(a:Int):stdA.tn a=a.toNat:=rfl
theorem Sq(a:Nat):stdA.ofn a=(a:Int):=rfl
theorem YR(a b:Nat):stdA.nmin a b=min a b:=rfl
theorem Nj(a b:Int):stdA.imin a b=if b<a then b else a:=rfl
theorem IR(n:Nat)(l:List EV):stdA.drp n l=l.drop n:=rfl
theorem II(n:Nat)(l:List EV):stdA.tak n l=l.take n:=rfl
theorem HR(l m:List EV):stdA.app l m=l++m:=rfl
theorem YM(l:List EV):stdA.len l=l.length:=rfl
theorem EB(l:List EV)(o:Nat)(v:List EV):stdA.setl l o v=l.take o++v++l.drop (o+v.length):=rfl
theorem Lk(z:List EV)(n:Nat):stdA.rep z n=(List.replicate n z).flatten:=rfl
theorem UO(n:Int)(h1: -9223372036854775808<=n)(h2:n<=9223372036854775807):stdA.wr .i64 n=n:=GY _ h1 h2
theorem TV(n:Int)(h1:0<=n)(h2:n<256):stdA.wr .u8 n=n:=SK _ h1 h2
theorem Da(n:Int):stdA.wr .u8 n=n%256:=Y9 n
/-! ### bytes -/
def D9(n:Nat):EV:=.lit (.int .u8 (n:Int))
def Bj(l:List Nat):List EV:=l.map D9
def Ko(n:Int):EV:=.lit (.int .i64 n)
def Ht(l:List Int):List EV:=l.map Ko
theorem VR(l:List Nat):l.map D9=Bj l:=rfl
theorem VN(l:List Int):l.map Ko=Ht l:=rfl
theorem Dd(l:List Nat):(Bj l).length=l.length:=by simp[Bj]
theorem VV(l:List Int):(Ht l).length=l.length:=by simp[Ht]
theorem Nq(n:Nat)(l:List Nat):(Bj l).drop n=Bj (l.drop n):=by simp[Bj,List.map_drop]
theorem ND(n:Nat)(l:List Nat):(Bj l).take n=Bj (l.take n):=by simp[Bj,List.map_take]
theorem SZ(l m:List Nat):Bj l++Bj m=Bj (l++m):=by simp[Bj]
theorem Ih(l:List Nat):clL (Bj l)=true:=Ju fun x hx=>by
 simp[Bj,D9]at hx;obtain⟨n,_,rfl⟩:=hx;rfl
theorem C9(g z)(l:List Nat):mvL g z (Bj l)=Bj l:=BA _ _ _ (Ih l)
theorem Yz(l:List Nat)(i:Nat)(h:i<l.length):((Bj l).drop i).take 1=[D9 (l.getD i 0)]:=by
 have hl:i<(Bj l).length:=by rw[Dd];exact h
 rw[List.drop_eq_getElem_cons hl]
 simp[Bj,lE h]
theorem Ro{l:List Nat}{c:List EV}(hc:c=Bj l)(i:Nat)(h:i<l.length):∃x:Int,(c.drop i).take 1=[.lit (.int .u8 x)]/\x=(l.getD i 0:Nat):=by
 subst hc;exact⟨_,Yz l i h,rfl⟩
def AllB(l:List Nat):Prop:=∀x∈l,x<256
theorem AllB.nil:AllB []:=fun x hx=>by cases hx
theorem AllB.drop{l:List Nat}(h:AllB l)(n:Nat):AllB (l.drop n):=fun x hx=>h x (List.mem_of_mem_drop hx)
theorem AllB.take{l:List Nat}(h:AllB l)(n:Nat):AllB (l.take n):=fun x hx=>h x (List.mem_of_mem_take hx)
theorem AllB.get{l:List Nat}(h:AllB l)(i:Nat):l.getD i 0<256:=by
 rw[lG]
 cases hx:l[i]? with
 |none=>simp
 |some x=>exact h x (List.mem_of_getElem? hx)
theorem YK{l:List Nat}(h:AllB l){n:Nat}(hn:n<=l.length):stdA.byt n (Bj l)=true:=by
 simp only[stdA,Bool.and_eq_true,decide_eq_true_eq,List.all_eq_true]
 refine⟨by rw[Dd];exact hn,fun x hx=>?_⟩
 have hx:=List.mem_of_mem_take hx
 simp only[Bj,List.mem_map]at hx
 obtain⟨y,hy,rfl⟩:=hx
 have:=h y hy
 simp only[D9,EE,decide_eq_true_eq]
 omega
def mkT(n:Nat)(l:List (Nat×EV)):List EV:=l.foldl (fun t p=>Bs t p.1 p.2) (List.replicate n .top)
def msk(n:Nat)(l:List Nat):List Bool:=(List.range n).map fun i=>l.contains i
end Go.Proofs.YtkjhfefbklcciaaGreatDoor.Em
