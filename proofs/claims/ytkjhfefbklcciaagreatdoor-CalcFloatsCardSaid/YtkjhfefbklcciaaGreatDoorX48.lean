/- No conditions. -/
import Ieee.Arith
namespace Go.Proofs.YtkjhfefbklcciaaGreatDoor.Fl
open Ieee
def rhe(n d:Nat):Nat:=n/2^d+(decide (2^d<2*(n%2^d))||(2^d==2*(n%2^d)&&n/2^d%2==1)).toNat
theorem VW(neg:Bool)(n d:Nat):Toward.even.cut neg n d=rhe n d:=by
 unfold Toward.cut rhe
 simp only[Nat.shiftLeft_eq,Nat.one_mul]
 by_cases h:d<=n.log2+2
 ·rw[Nat.min_eq_left h]
 ·have h':n.log2+2<=d:=by omega
  rw[Nat.min_eq_right h'];have h1:n<2^(n.log2+1):=Nat.lt_log2_self;have h2:2^(n.log2+2)=2*2^(n.log2+1):=by rw[Nat.pow_succ];omega
  have h3:2^(n.log2+2)<=2^d:=Nat.pow_le_pow_right (by omega) h'
  generalize 2^(n.log2+2)=a at *;generalize 2^(n.log2+1)=b at *;generalize 2^d=c at *;have e1:n/a=0:=Nat.div_eq_of_lt (by omega)
  have e2:n/c=0:=Nat.div_eq_of_lt (by omega)
  have e3:n%a=n:=Nat.mod_eq_of_lt (by omega)
  have e4:n%c=n:=Nat.mod_eq_of_lt (by omega)
  rw[e1,e2,e3,e4];have e5:¬a<2*n:=by omega
  have e6:¬c<2*n:=by omega
  simp[e5,e6]
theorem Y5(n p:Nat)(hp:0<p):(decide (2*p<2*(n%(2*p)))||(2*p==2*(n%(2*p))&&n/(2*p)%2==1))
  = ((n/p%2==1)&&(n%p != 0||n/(2*p)%2==1)):=by
 have h1:n%(p*2)=n%p+p*(n/p%2):=Nat.mod_mul
 have h2:n%p<p:=Nat.mod_lt _ hp
 rw[show 2*p=p*2 from Nat.mul_comm _ _,h1]
 rcases Nat.mod_two_eq_zero_or_one (n/p)with h|h
 ·rw[h]
  simp only[Nat.mul_zero,Nat.add_zero];have e1:¬(p*2<2*(n%p)):=by omega
  have e2:(p*2==2*(n%p))=false:=by simp;omega
  rw[e2];simp[e1]
 ·rw[h]
  simp only[Nat.mul_one]
  by_cases h3:n%p=0
  ·rw[h3]
   have e1:¬(p*2<2*(0+p)):=by omega
   have e2:(p*2==2*(0+p))=true:=by simp;omega
   have e3:¬(p*2<2*p):=by omega
   rw[e2];simp[e3]
  ·have e1:(p*2<2*(n%p+p)):=by omega
   simp[e1,h3]
def up(M:Nat)(L R:Bool):Nat:=M+(L&&(R||M%2==1)).toNat
theorem GR(n d:Nat):rhe n (d+1)=up (n/2^(d+1)) (n/2^d%2==1) (n%2^d != 0):=by
 unfold rhe up
 have h:2^(d+1)=2*2^d:=by rw[Nat.pow_succ,Nat.mul_comm]
 rw[h,Y5 n (2^d) (Nat.pow_pos (by omega))]
theorem EW(n:Nat):rhe n 0=n:=by
 unfold rhe
 have h:n%1=0:=Nat.mod_one n
 simp[h]
def rnd(n:Nat)(x:Int):Nat:=
 if n=0 then 0 else
  let t:=max (x+n.log2-52) (-1074)
  min ((t+1074).toNat * 2^52+rhe (n*2^(x-t).toNat) (t-x).toNat) (2047*2^52)
theorem lp:double.leastPlace = -1074:=by decide
theorem bin:double.binade=2^52:=by decide
theorem infR:double.infRung=2047*2^52:=by decide
theorem frb:double.fractionBits=52:=rfl
theorem sgw:double.signWeight=2^63:=by decide
theorem UJ(neg:Bool)(n:Nat)(x:Int):double.nearest neg n x=double.word neg (rnd n x):=by
 unfold Format.nearest rnd
 by_cases h:n=0
 ·simp[h]
 ·simp only[h,if_false,lp,bin,infR,frb,VW,Nat.shiftLeft_eq]
  congr 1
theorem log2_eq{n k:Nat}(h1:2^k<=n)(h2:n<2^(k+1)):n.log2=k:=by
 have hn:n≠0:=by have:0<2^k:=Nat.pow_pos (by omega);omega
 have a:k<=n.log2:=(Nat.le_log2 hn).mpr h1
 have b:n.log2<k+1:=(Nat.log2_lt hn).mpr h2
 omega
theorem log2_spec{n:Nat}(h:n≠0):2^n.log2<=n/\n<2^(n.log2+1):=⟨Nat.log2_self_le h,Nat.lt_log2_self⟩
theorem Gq(n k r:Nat)(h:n≠0)(hr:r<2^k):(n*2^k+r).log2=n.log2+k:=by
 obtain⟨a,b⟩:=log2_spec h
 have e:2^(n.log2+k)=2^n.log2*2^k:=Nat.pow_add ..
 have e2:2^(n.log2+k+1)=2^(n.log2+1)*2^k:=by rw[<-Nat.pow_add];congr 1;omega
 apply log2_eq
 ·rw[e]
  have:=Nat.mul_le_mul_right (2^k) a;omega
 ·rw[e2]
  have:(n+1)*2^k<=2^(n.log2+1)*2^k:=Nat.mul_le_mul_right _ b;rw[Nat.add_mul]at this;omega
theorem DG(q k r:Nat)(hr:r<2^k)(d:Nat):(q*2^k+r)/2^(k+d)=q/2^d:=by
 rw[Nat.pow_add,<-Nat.div_div_eq_div_mul]
 congr 1
 rw[Nat.mul_comm,Nat.mul_add_div (Nat.pow_pos (by omega)),Nat.div_eq_of_lt hr,Nat.add_zero]
theorem GX(q k r:Nat)(hr:r<2^k)(d:Nat):(q*2^k+r)%2^(k+d)=(q%2^d)*2^k+r:=by
 have h:q=2^d*(q/2^d)+q%2^d:=(Nat.div_add_mod q _).symm
 have h1:q%2^d<2^d:=Nat.mod_lt _ (Nat.pow_pos (by omega))
 generalize hb:q%2^d=b at *
 generalize q/2^d=a at *
 subst h
 have e:(2^d*a+b)*2^k+r=2^(k+d)*a+(b*2^k+r):=by
  rw[Nat.add_mul,Nat.pow_add,Nat.add_assoc];congr 1;rw[Nat.mul_right_comm,Nat.mul_comm (2^d)]
 rw[e,Nat.mul_add_mod]
 apply Nat.mod_eq_of_lt
 have:(b+1)*2^k<=2^d*2^k:=Nat.mul_le_mul_right _ h1
 rw[Nat.add_mul]at this
 rw[Nat.pow_add,Nat.mul_comm (2^k)]
 omega
theorem S4(q k r d:Nat)(hr:r<2^k)(s:Bool)(hs:s=(r != 0)):rhe (q*2^k+r) (k+(d+1))=rhe (2*q+s.toNat) (d+2):=by
 have hs2:s.toNat<2^1:=by cases s<;>decide
 have e:2*q+s.toNat=q*2^1+s.toNat:=by rw[Nat.mul_comm]
 rw[<-Nat.add_assoc,GR,GR,e]
 have a1:=DG q k r hr (d+1)
 have a2:=DG q k r hr d
 have a3:=GX q k r hr d
 have b1:=DG q 1 s.toNat hs2 (d+1)
 have b2:=DG q 1 s.toNat hs2 d
 have b3:=GX q 1 s.toNat hs2 d
 rw[Nat.add_assoc k d 1,a1,a2,a3,show d+1+1=1+(d+1) by omega,b1,show d+1=1+d by omega,b2,b3]
 congr 1
 have:0<2^k:=Nat.pow_pos (by omega)
 rw[hs]
 rw[Bool.eq_iff_iff]
 simp only[bne_iff_ne,ne_eq,Nat.add_eq_zero_iff,Nat.mul_eq_zero]
 by_cases h0:r=0
 ·subst h0;simp
 ·simp[h0]
theorem LM(q k d:Nat):rhe (q*2^k) (k+d)=rhe q d:=by
 have hk:0<2^k:=Nat.pow_pos (by omega)
 cases d with
 |zero=>
  have h:=DG q k 0 hk 0;have h2:=GX q k 0 hk 0;simp only[Nat.add_zero,Nat.pow_zero,Nat.div_one,Nat.mod_one,Nat.zero_mul]at h h2;unfold rhe;simp only[Nat.add_zero,h,h2,Nat.pow_zero,Nat.div_one,Nat.mod_one];simp
 |succ d=>
  have h1:=DG q k 0 hk (d+1);have h2:=DG q k 0 hk d;have h3:=GX q k 0 hk d;simp only[Nat.add_zero]at h1 h2 h3;rw[<-Nat.add_assoc,GR,GR,Nat.add_assoc,h1,h2,h3];congr 1;rw[Bool.eq_iff_iff];simp only[bne_iff_ne,ne_eq,Nat.mul_eq_zero];omega
theorem rnd_zero(x:Int):rnd 0 x=0:=by simp[rnd]
theorem rnd_scale(n k:Nat)(x:Int):rnd (n*2^k) x=rnd n (x+k):=by
 by_cases h:n=0
 ·subst h;simp[rnd]
 ·have hk:0<2^k:=Nat.pow_pos (by omega)
  have h1:n*2^k≠0:=Nat.mul_ne_zero h (by omega)
  have h2:(n*2^k).log2=n.log2+k:=Gq n k 0 h hk;unfold rnd;simp only[h,h1,if_false,h2];have e:x+((n.log2+k:Nat):Int)-52=x+k+n.log2-52:=by omega
  rw[e];generalize max (x+k+n.log2-52) (-1074)=t;congr 2
  by_cases h3:t<=x
  ·
   have d1:(t-x).toNat=0:=by omega
   have d2:(t-(x+k)).toNat=0:=by omega
   rw[d1,d2,EW,EW,Nat.mul_assoc,<-Nat.pow_add];congr 2;omega
  ·by_cases h4:t<=x+k
   ·have d0:(x-t).toNat=0:=by omega
    have d2:(t-(x+k)).toNat=0:=by omega
    obtain⟨d,hd⟩:∃d:Nat,(t-x)=d:=⟨(t-x).toNat,by omega⟩
    have e1:(t-x).toNat=d:=by omega
    have e2:(x+k-t).toNat=k-d:=by omega
    rw[d0,d2,e1,e2,EW,Nat.pow_zero,Nat.mul_one];have e3:n*2^k=(n*2^(k-d))*2^d:=by rw[Nat.mul_assoc,<-Nat.pow_add];congr 2;omega
    have:=LM (n*2^(k-d)) d 0;rw[Nat.add_zero,EW]at this;rw[e3,this]
   ·have d0:(x-t).toNat=0:=by omega
    have d2:(x+k-t).toNat=0:=by omega
    have e1:(t-x).toNat=k+(t-(x+k)).toNat:=by omega
    rw[d0,d2,e1,Nat.pow_zero,Nat.mul_one,Nat.mul_one,LM]
theorem Ga(q k r:Nat)(hq:2^53<=q)(hr:r<2^(k+1))(s:Bool)(hs:s=(r != 0))(x:Int) :
  rnd (q*2^(k+1)+r) x=rnd (2*q+s.toNat) (x+k):=by
 have h:q≠0:=by omega
 have hl:53<=q.log2:=(Nat.le_log2 h).mpr hq
 have h1:q*2^(k+1)+r≠0:=by
  have:0<2^(k+1):=Nat.pow_pos (by omega)
  have:0<q*2^(k+1):=Nat.mul_pos (by omega) this
  omega
 have h2:(q*2^(k+1)+r).log2=q.log2+(k+1):=Gq q (k+1) r h hr
 have h3:2*q+s.toNat≠0:=by omega
 have h4:(2*q+s.toNat).log2=q.log2+1:=by
  have:=Gq q 1 s.toNat h (by cases s<;>decide)
  rw[show q*2^1=2*q by omega]at this
  exact this
 unfold rnd
 simp only[h1,h3,if_false,h2,h4]
 have e:x+((q.log2+(k+1):Nat):Int)-52=x+k+((q.log2+1:Nat):Int)-52:=by omega
 rw[e]
 have ht:x+k+((q.log2+1:Nat):Int)-52<=max (x+k+((q.log2+1:Nat):Int)-52) (-1074):=Int.le_max_left ..
 generalize max (x+k+((q.log2+1:Nat):Int)-52) (-1074)=t at *
 obtain⟨d,hd⟩:∃d:Nat,t=x+k+2+d:=⟨(t-(x+k+2)).toNat,by omega⟩
 have d0:(x-t).toNat=0:=by omega
 have d2:(x+k-t).toNat=0:=by omega
 have e1:(t-x).toNat=(k+1)+(d+1):=by omega
 have e2:(t-(x+k)).toNat=d+2:=by omega
 rw[d0,d2,e1,e2,Nat.pow_zero,Nat.mul_one,Nat.mul_one,S4 q (k+1) r d hr s hs]
end Go.Proofs.YtkjhfefbklcciaaGreatDoor.Fl
namespace Go.Proofs.YtkjhfefbklcciaaGreatDoor.Fl
open Ieee
def mant(a:Nat):Nat:=if a/2^52%2048=0 then a%2^52 else a%2^52+2^52
def plc(a:Nat):Int:=if a/2^52%2048=0 then -1074 else ((a/2^52%2048:Nat):Int)-1075
def neg(a:Nat):Bool:=decide (2^63<=a)
def infW:Nat:=2047*2^52
def nanW:Nat:=2047*2^52+2^51
theorem read_nan{a:Nat}(h:infW<a%2^63):∃s f,double.read a = .nan s f:=by
 unfold Format.read
 simp only[sgw,bin,infR]
 unfold infW at h
 have h1:¬a%2^63<2^52:=by omega
 have h2:¬a%2^63<2047*2^52:=by omega
 have h3:¬a%2^63=2047*2^52:=by omega
 simp only[h1,h2,h3,if_false]
 exact⟨_,_,rfl⟩
theorem PP{a:Nat}(ha:a<2^64):(a/2^63%2==1)=neg a:=by
 unfold neg
 rw[Bool.eq_iff_iff]
 simp only[beq_iff_eq,decide_eq_true_eq]
 omega
theorem read_inf{a:Nat}(ha:a<2^64)(h:a%2^63=infW):double.read a = .infinity (neg a):=by
 unfold Format.read
 simp only[sgw,bin,infR]
 unfold infW at h
 have h1:¬a%2^63<2^52:=by omega
 have h2:¬a%2^63<2047*2^52:=by omega
 rw[if_neg h1,if_neg h2,if_pos h,PP ha]
theorem read_fin{a:Nat}(ha:a<2^64)(h:a%2^63<infW):double.read a = .number (neg a) (mant a) (plc a):=by
 unfold Format.read mant plc
 simp only[sgw,bin,infR,lp,PP ha]
 unfold infW at h
 by_cases h1:a%2^63<2^52
 ·have e1:a/2^52%2048=0:=by omega
  have e2:a%2^52=a%2^63:=by omega
  simp only[h1,e1,e2,if_true]
 ·have e1:¬a/2^52%2048=0:=by omega
  have e2:a%2^63%2^52=a%2^52:=by omega
  have e3:a%2^63/2^52=a/2^52%2048:=by omega
  simp only[h1,h,e1,e2,e3,if_true,if_false];congr 1
  ·omega
  ·omega
theorem mant_lt(a:Nat):mant a<2^53:=by unfold mant;split<;>omega
theorem mant_ge{a:Nat}(h: -1074<plc a):2^52<=mant a:=by
 unfold plc at h;unfold mant;split<;>simp_all
theorem plc_ge(a:Nat): -1074<=plc a:=by unfold plc;split<;>omega
theorem word_eq(s:Bool)(r:Nat):double.word s r=(if s then 2^63+r else r):=by unfold Format.word;rw[sgw]
theorem rnd_back{a:Nat}(h:a%2^63<infW):rnd (mant a) (plc a)=a%2^63:=by
 by_cases h0:mant a=0
 ·rw[h0,rnd_zero]
  unfold mant at h0;split at h0<;>omega
 ·unfold rnd
  simp only[h0,if_false]
  by_cases h1: -1074<plc a
  ·have hl:(mant a).log2=52:=log2_eq (mant_ge h1) (mant_lt a)
   rw[hl];have ht:max (plc a+((52:Nat):Int)-52) (-1074)=plc a:=by omega
   rw[ht];have d0:(plc a-plc a).toNat=0:=by omega
   rw[d0,EW,Nat.pow_zero,Nat.mul_one];unfold infW at h;unfold plc mant at *;split at h1
   ·omega
   ·split
    ·contradiction
    ·rw[Nat.min_def];split<;>omega
  ·have hp:plc a = -1074:=by have:=plc_ge a;omega
   rw[hp];have hl:(mant a).log2<53:=(Nat.log2_lt h0).mpr (mant_lt a);have ht:max (-1074+((mant a).log2:Int)-52) (-1074) = -1074:=by omega
   rw[ht];have d0:((-1074:Int) - -1074).toNat=0:=by omega
   rw[d0,EW,Nat.pow_zero,Nat.mul_one];unfold infW at h;unfold plc mant at *;split at hp
   ·rename_i h2;simp only[h2,if_true];rw[Nat.min_def];split<;>omega
   ·rename_i h2;simp only[h2,if_false];rw[Nat.min_def];split<;>omega
theorem word_back{a:Nat}(ha:a<2^64):double.word (neg a) (a%2^63)=a:=by
 rw[word_eq];unfold neg;split<;>simp_all<;>omega
theorem IzO(x y:Datum):x.sum y=y.sum x:=by
 cases x<;>cases y<;>simp only[Datum.sum]
 ·rename_i s m i t n j
  rw[Int.min_comm j i,Int.add_comm];congr 2;rw[Bool.and_comm]
 ·rename_i s t
  by_cases h:s=t
  ·subst h;rfl
  ·have:¬t=s:=fun e=>h e.symm
   simp[h,this]
theorem add_comm(a b:Nat):double.add a b=double.add b a:=by
 unfold Format.add;rw[IzO]
theorem add_nan_l{a b:Nat}(h:infW<a%2^63):double.add a b=none:=by
 obtain⟨s,f,e⟩:=read_nan h
 unfold Format.add;rw[e];simp[Datum.sum]
theorem add_nan_r{a b:Nat}(h:infW<b%2^63):double.add a b=none:=by rw[add_comm];exact add_nan_l h
theorem Rr{a:Nat}(ha:a<2^64)(h:a%2^63=infW):double.write (.infinity (neg a))=a:=by
 simp only[Format.write,infR]
 unfold infW at h
 rw[<-h];exact word_back ha
theorem add_inf_inf{a b:Nat}(ha:a<2^64)(hb:b<2^64)(h:a%2^63=infW)(h':b%2^63=infW):double.add a b=if a=b then some a else none:=by
 unfold Format.add;rw[read_inf ha h,read_inf hb h']
 simp only[Datum.sum]
 by_cases e:a=b
 ·subst e;simp[Rr ha h]
 ·have:neg a≠neg b:=by unfold neg;unfold infW at *;intro x;have:=decide_eq_decide.mp x;omega
  simp[e,this]
theorem add_inf{a b:Nat}(ha:a<2^64)(hb:b<2^64)(h:a%2^63=infW)(h':b%2^63<infW):double.add a b=some a:=by
 unfold Format.add;rw[read_inf ha h,read_fin hb h']
 simp only[Datum.sum,Option.map_some,Rr ha h]
theorem Zg(s:Bool)(m k:Nat):signed s m k=if s then -((m*2^k:Nat):Int)else ((m*2^k:Nat):Int):=by
 unfold signed;rw[Nat.shiftLeft_eq]
theorem write_num(s:Bool)(m:Nat)(x:Int):double.write (.number s m x)=double.word s (rnd m x):=by
 simp only[Format.write,UJ]
theorem add_fin{a b:Nat}(ha:a<2^64)(hb:b<2^64)(h:a%2^63<infW)(h':b%2^63<infW)(far:Nat)(hf:plc a=plc b+far)(hm:mant b<=mant a*2^far) :
  double.add a b=some (
   if neg a=neg b then double.word (neg a) (rnd (mant a*2^far+mant b) (plc b))
   else if mant a*2^far-mant b=0 then 0 else double.word (neg a) (rnd (mant a*2^far-mant b) (plc b))):=by
 unfold Format.add;rw[read_fin ha h,read_fin hb h']
 simp only[Datum.sum,Option.map_some,write_num,Zg]
 have e1:min (plc a) (plc b)=plc b:=by omega
 have e2:(plc a-plc b).toNat=far:=by omega
 have e3:(plc b-plc b).toNat=0:=by omega
 rw[e1,e2,e3,Nat.pow_zero,Nat.mul_one]
 generalize mant a*2^far=A at *
 generalize mant b=Bb at *
 congr 1
 cases hna:neg a<;>cases hnb:neg b<;>simp only[Bool.false_eq_true,if_false,if_true,reduceCtorEq]
 ·have e:((A:Int)+(Bb:Int)).natAbs=A+Bb:=by omega
  rw[e];have:¬((A:Int)+(Bb:Int)<0):=by omega
  simp[this]
 ·have e:((A:Int) + -(Bb:Int)).natAbs=A-Bb:=by omega
  rw[e];have:¬((A:Int) + -(Bb:Int)<0):=by omega
  by_cases h0:A-Bb=0
  ·simp[this,h0,rnd_zero,word_eq]
  ·simp[this,h0]
 ·have e:(-(A:Int)+(Bb:Int)).natAbs=A-Bb:=by omega
  rw[e]
  by_cases h0:A-Bb=0
  ·have e4: -(A:Int)+(Bb:Int)=0:=by omega
   simp[e4,h0,rnd_zero,word_eq]
  ·have e4:¬(-(A:Int)+(Bb:Int)=0):=by omega
   have:(-(A:Int)+(Bb:Int)<0):=by omega
   simp[this,h0,e4]
 ·have e:(-(A:Int) + -(Bb:Int)).natAbs=A+Bb:=by omega
  rw[e]
  by_cases h0:A+Bb=0
  ·have e4:(-(A:Int) + -(Bb:Int))=0:=by omega
   simp[e4,h0]
  ·have e4:¬(-(A:Int) + -(Bb:Int)=0):=by omega
   have:(-(A:Int) + -(Bb:Int)<0):=by omega
   simp[this,e4]
theorem Jc(far:Nat)(h:60<far):2^far=2^7*2^(far-7):=by rw[<-Nat.pow_add];congr 1;omega
theorem far_add(m n far:Nat)(y:Int)(hm:2^52<=m)(h0:n≠0)(hn:n<2^53)(h:60<far) :
  rnd (m*2^far+n) y=rnd (2*(m*2^60)+1) (y+far-61):=by
 have p:2^53<=2^(far-7):=Nat.pow_le_pow_right (by omega) (by omega)
 have a:=Ga (m*2^7) (far-8) n (by omega) (by rw[show far-8+1=far-7 by omega];omega) true (by simp[h0]) y
 have b:=Ga (m*2^7) 53 1 (by omega) (by omega) true (by decide) (y+far-61)
 rw[show far-8+1=far-7 by omega,Nat.mul_assoc,<-Jc far h]at a
 have e:m*2^7*2^(53+1)+1=2*(m*2^60)+1:=by omega
 rw[e]at b
 rw[a,b,show m*2^7=m*2^7 from rfl]
 congr 1
 omega
theorem far_sub(m n far:Nat)(y:Int)(hm:2^52<=m)(h0:n≠0)(hn:n<2^53)(h:60<far) :
  rnd (m*2^far-n) y=rnd (2*(m*2^60-1)+1) (y+far-61):=by
 have p:2^53<=2^(far-7):=Nat.pow_le_pow_right (by omega) (by omega)
 have a:=Ga (m*2^7-1) (far-8) (2^(far-7)-n) (by omega) (by rw[show far-8+1=far-7 by omega];omega) true (by simp;omega) y
 have b:=Ga (m*2^7-1) 53 (2^54-1) (by omega) (by omega) true (by decide) (y+far-61)
 rw[show far-8+1=far-7 by omega,Nat.sub_mul,Nat.mul_assoc,<-Jc far h]at a
 have e:(m*2^7-1)*2^(53+1)+(2^54-1)=2*(m*2^60-1)+1:=by omega
 have e2:m*2^far-1*2^(far-7)+(2^(far-7)-n)=m*2^far-n:=by
  have:=Jc far h;have:1*2^far<=m*2^far:=Nat.mul_le_mul_right _ (by omega)
  omega
 rw[e2]at a
 rw[e]at b
 rw[a,b]
 congr 1
 omega
theorem mul_fin{a b:Nat}(ha:a<2^64)(hb:b<2^64)(h:a%2^63<infW)(h':b%2^63<infW) :
  double.mul a b=some (double.word (neg a ^^ neg b) (rnd (mant a*mant b) (plc a+plc b))):=by
 unfold Format.mul;rw[read_fin ha h,read_fin hb h']
 simp only[Datum.product,Option.map_some,write_num]
end Go.Proofs.YtkjhfefbklcciaaGreatDoor.Fl
namespace Go.Proofs.YtkjhfefbklcciaaGreatDoor.Fl
open Ieee
theorem Y3{b:Nat}(hb:b<2^64)(b':Nat)(h':b'=if 2^63<=b then b-2^63 else b+2^63):(double.read b).opposite=double.read b':=by
 have e1:b'%2^63=b%2^63:=by split at h'<;>omega
 have e2:(b'/2^63%2==1) = !(b/2^63%2==1):=by
  rw[Bool.eq_iff_iff];simp only[beq_iff_eq,Bool.not_eq_true',beq_eq_false_iff_ne,ne_eq];split at h'<;>omega
 unfold Format.read
 simp only[sgw,e1,e2]
 split
 ·rfl
 ·split
  ·rfl
  ·split<;>rfl
theorem sub_add{a b:Nat}(hb:b<2^64)(b':Nat)(h':b'=if 2^63<=b then b-2^63 else b+2^63):double.sub a b=double.add a b':=by
 unfold Format.sub Format.add;rw[Y3 hb b' h']
theorem mul_nan_l{a b:Nat}(h:infW<a%2^63):double.mul a b=none:=by
 obtain⟨s,f,e⟩:=read_nan h
 unfold Format.mul;rw[e];simp[Datum.product]
theorem mul_nan_r{a b:Nat}(h:infW<b%2^63):double.mul a b=none:=by
 obtain⟨s,f,e⟩:=read_nan h
 unfold Format.mul;rw[e];cases double.read a<;>simp[Datum.product]
theorem mul_inf_inf{a b:Nat}(ha:a<2^64)(hb:b<2^64)(h:a%2^63=infW)(h':b%2^63=infW):double.mul a b=some (double.word (neg a ^^ neg b) infW):=by
 unfold Format.mul;rw[read_inf ha h,read_inf hb h']
 simp only[Datum.product,Option.map_some,Format.write,infR];rfl
theorem mul_inf_l{a b:Nat}(ha:a<2^64)(hb:b<2^64)(h:a%2^63=infW)(h':b%2^63<infW):double.mul a b=if mant b=0 then none else some (double.word (neg a ^^ neg b) infW):=by
 unfold Format.mul;rw[read_inf ha h,read_fin hb h']
 simp only[Datum.product]
 split
 ·rfl
 ·simp only[Option.map_some,Format.write,infR];rfl
theorem mul_inf_r{a b:Nat}(ha:a<2^64)(hb:b<2^64)(h:a%2^63<infW)(h':b%2^63=infW):double.mul a b=if mant a=0 then none else some (double.word (neg a ^^ neg b) infW):=by
 unfold Format.mul;rw[read_fin ha h,read_inf hb h']
 simp only[Datum.product]
 split
 ·rfl
 ·simp only[Option.map_some,Format.write,infR,Bool.xor_comm];rfl
theorem mant_zero{a:Nat}(h:a%2^63<infW):mant a=0↔a%2^63=0:=by
 unfold mant;unfold infW at h;split<;>omega
theorem div_nan_l{a b:Nat}(h:infW<a%2^63):double.div a b=none:=by
 obtain⟨s,f,e⟩:=read_nan h
 unfold Format.div;rw[e];simp[Datum.quotient]
theorem div_nan_r{a b:Nat}(h:infW<b%2^63):double.div a b=none:=by
 obtain⟨s,f,e⟩:=read_nan h
 unfold Format.div;rw[e];cases double.read a<;>simp[Datum.quotient]
theorem div_inf_inf{a b:Nat}(ha:a<2^64)(hb:b<2^64)(h:a%2^63=infW)(h':b%2^63=infW):double.div a b=none:=by
 unfold Format.div;rw[read_inf ha h,read_inf hb h'];simp[Datum.quotient]
theorem div_inf_l{a b:Nat}(ha:a<2^64)(hb:b<2^64)(h:a%2^63=infW)(h':b%2^63<infW):double.div a b=some (double.word (neg a ^^ neg b) infW):=by
 unfold Format.div;rw[read_inf ha h,read_fin hb h']
 simp only[Datum.quotient,Option.map_some,Format.write,infR];rfl
theorem div_inf_r{a b:Nat}(ha:a<2^64)(hb:b<2^64)(h:a%2^63<infW)(h':b%2^63=infW):double.div a b=some (double.word (neg a ^^ neg b) 0):=by
 unfold Format.div;rw[read_fin ha h,read_inf hb h']
 simp only[Datum.quotient,Option.map_some,write_num,rnd_zero]
theorem div_zero{a b:Nat}(ha:a<2^64)(hb:b<2^64)(h:a%2^63<infW)(h':b%2^63<infW)(h0:mant b=0) :
  double.div a b=if mant a=0 then none else some (double.word (neg a ^^ neg b) infW):=by
 unfold Format.div;rw[read_fin ha h,read_fin hb h']
 simp only[Datum.quotient,h0,if_true]
 split
 ·rfl
 ·simp only[Option.map_some,Format.write,infR];rfl
theorem zero_div{a b:Nat}(ha:a<2^64)(hb:b<2^64)(h:a%2^63<infW)(h':b%2^63<infW)(h0:mant b≠0)(h1:mant a=0) :
  double.div a b=some (double.word (neg a ^^ neg b) 0):=by
 unfold Format.div;rw[read_fin ha h,read_fin hb h']
 simp only[Datum.quotient,h0,if_false,h1]
 simp[write_num,rnd_zero]
theorem S9(m n k:Nat):(m*2^k)/(n*2^k)=m/n/\(m*2^k%(n*2^k)=0↔m%n=0):=by
 have hk:0<2^k:=Nat.pow_pos (by omega)
 refine⟨Nat.mul_div_mul_right _ _ hk,?_⟩
 rw[Nat.mul_mod_mul_right,Nat.mul_eq_zero]
 omega
theorem Uu(n Q R q r A:Nat)(f2:n*Q+R=A*256)(f3:n*q+r=A)(f1:Q/256=q)(n0:0<n):r=0↔(Q%256=0/\R=0):=by
 have g1:Q=q*256+Q%256:=by omega
 have k2:n*Q=n*(q*256)+n*(Q%256):=(congrArg (n * ·) g1).trans (Nat.mul_add ..)
 have k4:n*(q*256)=n*q*256:=(Nat.mul_assoc ..).symm
 constructor
 ·intro hr0
  have k3:n*(Q%256)=0:=by omega
  rcases Nat.mul_eq_zero.mp k3 with k|k
  ·omega
  ·exact⟨k,by omega⟩
 ·rintro⟨k1,k3⟩
  rw[k1,Nat.mul_zero]at k2;omega
theorem div_fin{a b:Nat}(ha:a<2^64)(hb:b<2^64)(h:a%2^63<infW)(h':b%2^63<infW)(h0:mant a≠0)(h1:mant b≠0)
  (i j m n:Nat) (hm:m=mant a*2^i) (hn:n=mant b*2^j) (m1:2^52<=m) (m2:m<2^53) (n1:2^52<=n) (n2:n<2^53) (s:Bool) (hs:s=(m*2^62%n != 0)) :
  double.div a b=some (double.word (neg a ^^ neg b) (rnd (if s then 2*(m*2^62/n)+1 else m*2^62/n) ((plc a-i)-(plc b-j)-62-(if s then 1 else 0)))):=by
 unfold Format.div;rw[read_fin ha h,read_fin hb h']
 simp only[Datum.quotient,h1,if_false,Option.map_some,write_num,frb]
 congr 2
 have la:(mant a).log2+i=52:=by
  have:=Gq (mant a) i 0 h0 (Nat.pow_pos (by omega))
  rw[Nat.add_zero,<-hm]at this;rw[<-this];exact log2_eq m1 m2
 have lb:(mant b).log2+j=52:=by
  have:=Gq (mant b) j 0 h1 (Nat.pow_pos (by omega))
  rw[Nat.add_zero,<-hn]at this;rw[<-this];exact log2_eq n1 n2
 have hmore:52+2+(mant b).log2-(mant a).log2+j=54+i:=by omega
 have hmore2:(mant a).log2<=52+2+(mant b).log2:=by omega
 generalize hM:52+2+(mant b).log2-(mant a).log2=more at *
 have hd:mant a <<< more=mant a*2^more:=Nat.shiftLeft_eq ..
 rw[hd]
 have q1:=S9 (mant a*2^more) (mant b) j
 have e1:mant a*2^more*2^j=m*2^54:=by rw[Nat.mul_assoc,<-Nat.pow_add,hmore,hm,Nat.mul_assoc,<-Nat.pow_add,Nat.add_comm]
 rw[e1,<-hn]at q1
 obtain⟨qa,qb⟩:=q1
 rw[<-qa]
 have n0:0<n:=by omega
 have f1:m*2^62/n/2^8=m*2^54/n:=by
  rw[Nat.div_div_eq_div_mul,show m*2^62=(m*2^54)*2^8 by omega]
  exact Nat.mul_div_mul_right _ _ (by omega)
 have f2:n*(m*2^62/n)+m*2^62%n=m*2^62:=Nat.div_add_mod _ _
 have f3:n*(m*2^54/n)+m*2^54%n=m*2^54:=Nat.div_add_mod _ _
 have f4:2^53<=m*2^54/n:=by
  rw[Nat.le_div_iff_mul_le n0];omega
 have f5:m*2^62%n<n:=Nat.mod_lt _ n0
 have f6:m*2^54%n<n:=Nat.mod_lt _ n0
 obtain⟨Q,hQ⟩:∃Q,Q=m*2^62/n:=⟨_,rfl⟩
 obtain⟨q,hq⟩:∃q,q=m*2^54/n:=⟨_,rfl⟩
 obtain⟨R,hR⟩:∃R,R=m*2^62%n:=⟨_,rfl⟩
 obtain⟨r,hr⟩:∃r,r=m*2^54%n:=⟨_,rfl⟩
 rw[<-hQ,<-hq]at f1
 rw[<-hQ,<-hR]at f2
 rw[<-hq,<-hr]at f3
 rw[<-hq]at f4
 rw[<-hR]at f5 hs
 rw[<-hr]at f6 qb
 rw[<-hQ,<-hq]
 have g1:Q=q*2^8+Q%2^8:=by omega
 have g2:(r=0)↔(Q%2^8=0/\R=0):=Uu n Q R q r (m*2^54) (by rw[f2];omega) f3 f1 n0
 have g3:(mant a*2^more%mant b != 0)=(r != 0):=by
  rw[Bool.eq_iff_iff];simp only[bne_iff_ne,ne_eq];rw[qb]
 rw[g3]
 have hsn:s.toNat=if s then 1 else 0:=by cases s<;>rfl
 have st:=Ga q 8 (2*(Q%2^8)+s.toNat) f4 (by cases s<;>simp<;>omega) (r != 0) (by
  rw[Bool.eq_iff_iff];simp only[bne_iff_ne,ne_eq];rw[g2,hs]
  by_cases hR0:R=0
  ·simp[hR0];omega
  ·simp[hR0]) ((plc a-i)-(plc b-j)-62-1)
 have e3:plc a-i-(plc b-j)-62-1+((8:Nat):Int)=plc a-plc b-more-1:=by omega
 rw[e3]at st
 rw[<-st]
 have e4:q*2^(8+1)+(2*(Q%2^8)+s.toNat)=2*Q+s.toNat:=by omega
 rw[e4]
 cases s
 ·simp only[Bool.false_eq_true,if_false,Bool.toNat_false,Nat.add_zero,Int.sub_zero]
  have:=rnd_scale Q 1 (plc a-i-(plc b-j)-62-1);rw[show 2*Q=Q*2^1 by omega,this]
  congr 1;omega
 ·simp only[if_true,Bool.toNat_true]
def long(n:Nat):Nat:=if n=0 then 0 else n.log2+1
theorem long_lt(n k:Nat)(h:n<2^k):long n<=k:=by
 unfold long
 split
 ·omega
 ·have:=(Nat.log2_lt (by assumption)).mpr h;omega
theorem round_fin(n:Nat)(x:Int)(more:Bool)(h0:n≠0)(hm:more=true->2^60<=n)(t:Int)(ht:t=max (x+long n-53) (-1074))
  (M:Nat) (L R:Bool)
  (hM:M=if t<x then n*2^(x-t).toNat else n/2^(t-x).toNat)
  (hL:L=(decide (x<t)&&n/2^((t-x).toNat-1)%2==1))
  (hR:R=(more||(decide (x<t)&&n%2^((t-x).toNat-1) != 0))) :
  rnd (if more then 2*n+1 else n) (x-(if more then 1 else 0))=min ((t+1074).toNat * 2^52+up M L R) (2047*2^52):=by
 have hl:(long n:Int)=n.log2+1:=by unfold long;simp[h0]
 cases more
 ·simp only[Bool.false_eq_true,if_false,Int.sub_zero,Bool.false_or]at *
  unfold rnd;simp only[h0,if_false];have et:max (x + ↑n.log2-52) (-1074)=t:=by omega
  rw[et];congr 2
  by_cases h1:x<t
  ·have a1:¬t<x:=by omega
   obtain⟨d,hd⟩:∃d:Nat,(t-x).toNat=d+1:=⟨(t-x).toNat-1,by omega⟩
   have a2:(x-t).toNat=0:=by omega
   rw[hd]at hM hL hR ⊢;rw[if_neg a1]at hM;simp only[h1,decide_true,Bool.true_and,Nat.add_sub_cancel]at hL hR;rw[a2,Nat.pow_zero,Nat.mul_one,GR,hM,hL,hR]
  ·have a2:(t-x).toNat=0:=by omega
   have a4:L=false:=by rw[hL];simp[h1]
   rw[a2,EW,a4];unfold up;simp only[Bool.false_and,Bool.toNat_false,Nat.add_zero]
   by_cases h2:t<x
   ·rw[hM];simp[h2]
   ·have a3:(x-t).toNat=0:=by omega
    rw[hM,a3];simp[h2,a2]
 ·have hn:=hm rfl
  have ll:60<=n.log2:=(Nat.le_log2 h0).mpr hn
  have hlog:(2*n+1).log2=n.log2+1:=by
   have:=Gq n 1 1 h0 (by omega)
   rw[show n*2^1+1=2*n+1 by omega]at this
   exact this
  have h1:x<t:=by omega
  have a1:¬t<x:=by omega
  rw[if_neg a1]at hM;simp only[if_true,Bool.true_or,h1,decide_true,Bool.true_and]at hL hR ⊢;unfold rnd;have h2:2*n+1≠0:=by omega
  simp only[h2,if_false,hlog];have et:max (x-1+((n.log2+1:Nat):Int)-52) (-1074)=t:=by omega
  rw[et];congr 2;obtain⟨d,hd⟩:∃d:Nat,(t-x).toNat=d+1:=⟨(t-x).toNat-1,by omega⟩
  have a2:(x-1-t).toNat=0:=by omega
  have a3:(t-(x-1)).toNat=d+2:=by omega
  rw[hd]at hM hL;rw[a2,a3,Nat.pow_zero,Nat.mul_one,show d+2=(d+1)+1 from rfl,GR,hM,hL,hR];have b1:=DG n 1 1 (by omega) (d+1)
  have b2:=DG n 1 1 (by omega) d
  have b3:=GX n 1 1 (by omega) d
  rw[show n*2^1+1=2*n+1 by omega]at b1 b2 b3
  rw[show d+1+1=1+(d+1) by omega,b1,show d+1=1+d by omega,b2,b3,show 1+d-1=d by omega]
  simp
theorem round_word (t : Int) (k : Nat) (h1 : -1074 ≤ t) (h2 : k ≤ 2 ^ 53) (h3 : k < 2 ^ 52 → t = -1074) :
    min ((t + 1074).toNat * 2 ^ 52 + k) (2047 * 2 ^ 52) =
      (if k = 2 ^ 53 then (if 2047 ≤ t + 1 + 1075 then 2047 * 2 ^ 52 else (t + 1 + 1075).toNat * 2 ^ 52)
       else if k < 2 ^ 52 then k else if 2047 ≤ t + 1075 then 2047 * 2 ^ 52 else (t + 1075).toNat * 2 ^ 52 + (k - 2 ^ 52)) := by
  rw [Nat.min_def];split <;> split <;> (try split) <;> (try split) <;> (try omega)
theorem round_down(N k n:Nat)(x:Int)(more m1:Bool)(hn:n=N/2^k)(hk:0<k->2^63<=n)(hm:more=true->2^60<=N)(h1:m1=(more||N%2^k != 0)) :
  rnd (if more then 2*N+1 else N) (x-(if more then 1 else 0))=rnd (if m1 then 2*n+1 else n) (x+k-(if m1 then 1 else 0)):=by
 cases k with
 |zero=>
  simp only[Nat.pow_zero,Nat.mod_one,Nat.div_one]at hn h1;subst hn;have:m1=more:=by rw[h1];simp
  subst this;simp
 |succ k=>
  have hn2:=hk (by omega)
  have e:N=n*2^(k+1)+N%2^(k+1):=by rw[hn,Nat.mul_comm];exact(Nat.div_add_mod _ _).symm
  have hr:N%2^(k+1)<2^(k+1):=Nat.mod_lt _ (Nat.pow_pos (by omega))
  generalize N%2^(k+1)=r at *;subst e
  have right:rnd (if m1 then 2*n+1 else n) (x+((k+1:Nat):Int)-(if m1 then 1 else 0))=rnd (2*n+m1.toNat) (x+k):=by
   cases m1
   ·have:=rnd_scale n 1 (x+k)
    simp only[Bool.false_eq_true,if_false,Bool.toNat_false,Nat.add_zero,Int.sub_zero];rw[show 2*n=n*2^1 by omega,this]
    congr 1;omega
   ·simp only[if_true,Bool.toNat_true]
    congr 1;omega
  rw[right];cases more
  ·simp only[Bool.false_eq_true,if_false,Int.sub_zero,Bool.false_or]at *
   exact Ga n k r (by omega) hr m1 h1 x
  ·simp only[if_true,Bool.true_or]at *
   subst h1;have e2:2*(n*2^(k+1)+r)+1=n*2^(k+1+1)+(2*r+1):=by rw[Nat.pow_succ 2 (k+1)];generalize 2^(k+1)=p;rw[<-Nat.mul_assoc];omega
   have:=Ga n (k+1) (2*r+1) (by omega) (by rw[Nat.pow_succ 2 (k+1)];omega) true (by simp) (x-1)
   rw[e2,this];congr 1;omega
end Go.Proofs.YtkjhfefbklcciaaGreatDoor.Fl
