/- No conditions. -/
import Derived.Test.YtehgpabfgjofhaaGreatDoorMa
import Derived.Test.YtehgpabfgjofhaaGreatDoorX37
import Derived.Test.YtehgpabfgjofhaaGreatDoorX39
import Derived.Test.YtehgpabfgjofhaaGreatDoorX40
set_option linter.unusedVariables false
set_option linter.unusedSimpArgs false
set_option maxRecDepth 100000
set_option maxHeartbeats 16000000
namespace Go.Proofs.YtehgpabfgjofhaaGreatDoor.Stats
open Go Go.Proofs.YtehgpabfgjofhaaGreatDoor Go.Proofs.YtehgpabfgjofhaaGreatDoor.Em Go.Proofs
theorem Wp(l:List (List Nat)):(Bx l).length=l.length:=by simp[Bx]
theorem CA{l:List (List Nat)}{j:Nat}(h:j<l.length):List.take 1 (List.drop j (Bx l))=[isB (l.getD j [])]:=by
 rw[List.drop_eq_getElem_cons (by rw[Wp];exact h),lG,lE h]
 simp[Bx]
def Dc(k:Int)(d:Dat)(r:Nat):Prop:=Cr k->d.bufs≠[]/\LI (d.buf 0)/\(d.buf 0).length<=65536/\((d.buf 0).length≠0->r<8*(d.buf 0).length)
theorem Lh(f:Fld)(d:Dat)(r:Nat)(hp:Dc f.kind d r)(h:EH) :
  Tri Tryz.prog gs 99 [.agg (Bo f),.agg (Bs d),.lit (.int .i64 r)] h fun v h'=>IsP (BJ f.kind d r=true) v/\h'=h:=by
 have hv:=TR f.kind
 have hcv:f.kind≠1->¬Cr f.kind->¬BJ f.kind d r=true:=fun h1 h2=>by unfold BJ;rw[if_neg h1,if_neg (fun h=>h2 h.1)];simp
 have hc0:f.kind≠1->(d.buf 0).length=0->¬BJ f.kind d r=true:=fun h1 h2=>by unfold BJ;rw[if_neg h1,if_neg (fun h=>h.2 h2)];simp
 have hc1:f.kind=1->BJ f.kind d r=true:=fun h1=>by unfold BJ;rw[if_pos h1]
 have hcb:f.kind≠1->Cr f.kind->(d.buf 0).length≠0->(BJ f.kind d r=true↔¬Ch (d.buf 0) r=1):=fun h1 h2 h3=>by
  unfold BJ;rw[if_neg h1,if_pos ⟨h2,h3⟩,beq_iff_eq];have:Ch (d.buf 0) r=0\/Ch (d.buf 0) r=1:=by unfold Ch;omega
  omega
 have hg:Cr f.kind->(d.buf 0).length≠0->∀h:EH,Tri Tryz.prog gs 122 [isB (d.buf 0),.lit (.int .i64 r)] h fun v h'=>(∃t:Bool,v = .tup [.sb t,.lit (.int .i64 0)]/\(t=true↔Ch (d.buf 0) r=1))/\h'=h:=fun h1 h2=>YM _ _ (hp h1).2.2.1 (hp h1).2.1.2 ((hp h1).2.2.2 h2)
 have hn0:Cr f.kind->0<d.bufs.length:=fun h1=>List.length_pos_iff.2 (hp h1).1
 have hlk:Cr f.kind->∀A,A=stdA->List.take 1 (List.drop (A.idx 0 0 1) (Bx d.bufs))=[isB (d.buf 0)]:=fun h1 A hA=>by
  rw[hA];exact CA (l:=d.bufs) (j:=0) (hn0 h1)
 unfold isB at hlk hg
 rw[BF,BL]
 clear hp
 generalize BJ f.kind d r=NN at *
 generalize Cr f.kind=VM at *
 generalize (Ch (d.buf 0) r=1)=B1 at *
 generalize (d.buf 0).length=bn,Br (d.buf 0)=bc at *
 generalize d.len=len,d.ofs=ofs,d.nuls=nls,d.bufs.length=nb,Bx d.bufs=cb,d.kids.length=nk,Bi d.kids=ck,d.dict.length=nd,Bi d.dict=cd at *
 generalize Bl f.kids=kc,f.kids.length=kn,f.nm=nm,f.nul=nul,f.kind=k,f.width=w,f.id=i,f.idx=ix at *
 generalize (r:Int)=r' at *
 refine Tri.boolC rfl (Bj F99_ok fun I0 ρ0 w0 Q hρ hQ=>?_) h
 obtain⟨A,hA⟩:∃A,A=stdA:=⟨_,rfl⟩
 have hlk2:=fun h=>hlk h A hA
 with_reducible refine Be hA hd hQ 200 ?hk ?_
 case hk=>trivial
 conv=>arg 9;cbv
 try simp only[OK]
 repeat' first|((with_reducible refine⟨fun hbr=>?_,fun hbr=>?_⟩)<;>(try simp(disch:=omega)only[hA,Ba,reduceCtorEq]at hbr)<;>(try (with_reducible exfalso;omega)))|((with_reducible refine Bd hA hd hQ 200 ?hk ?_);(case hk=>trivial);(conv=>arg 9;cbv);(try simp only[OK]))|((refine⟨_,_,?l1,(hlk2 (by assumption)),rfl,?_⟩);(case l1=>exact rfl))|((with_reducible refine Bp ?hn ?_);(case hn=>(have hneed:=(hn0 (by assumption));(simp(disch:=omega)only[hA,Ba])<;>omega)))|((with_reducible refine cO ?hg ?_);(case hg=>with_reducible exact Bb F121_ok);(refine tM (hv _) fun v hh hx=>?_);(obtain⟨⟨b,hv,hb⟩,he⟩:=hx;subst hv;subst he;cases b<;>simp(disch:=omega)only[bF,true_iff,false_iff,eq_self]at hb)<;>(try (with_reducible exfalso;omega)))|((with_reducible refine cO ?hg ?_);(case hg=>with_reducible exact Bb F122_ok);(refine tM (hg (by assumption) (by omega) _) fun v hh hx=>?_);(obtain⟨⟨t,hv,ht⟩,hh'⟩:=hx;subst hv;subst hh'))
 all_goals (try (with_reducible refine FinR.self ?_;first|refine FinR.bl rfl ?_|refine FinR.bs rfl ?_|refine FinR.blh rfl ?_ rfl|refine FinR.bsh rfl ?_ rfl))
 all_goals (try simp(disch:=omega)only[hA,Ba,bF,true_iff,false_iff,eq_self])
 all_goals first
  |exact hc1 (by assumption)
  |exact hcv (by assumption) (by assumption)
  |exact hc0 (by assumption) (by omega)
  |(have e:=hcb (by assumption) (by assumption) (by omega);cases t<;>simp_all;done)
  |trace_state
def El(k:Int)(d:Dat)(n:Nat):Nat:=((List.range n).filter fun i=>BJ k d (d.ofs.toNat+i)).length
theorem zAI(k:Int)(d:Dat)(n:Nat):El k d (n+1)=El k d n+if BJ k d (d.ofs.toNat+n)=true then 1 else 0:=by
 unfold El
 rw[List.range_succ,List.filter_append,List.length_append]
 congr 1
 by_cases h:BJ k d (d.ofs.toNat+n)=true
 ·rw[if_pos h];simp[h]
 ·rw[if_neg h];simp[h]
theorem zA5(k:Int)(d:Dat)(n:Nat):El k d n<=n:=by
 unfold El
 have:=List.length_filter_le (fun i=>BJ k d (d.ofs.toNat+i)) (List.range n)
 rwa [List.length_range]at this
def Cn(d:Dat):Prop:=0<=d.len/\0<=d.ofs/\d.ofs+d.len<=4096
theorem zAF(f:Fld)(d:Dat)(hdd:Cn d)(hp:∀r,r<d.ofs.toNat+d.len.toNat->Dc f.kind d r)(h:EH) :
  Tri Tryz.prog gs 119 [.agg (Bo f),.agg (Bs d)] h fun v h'=>v = .lit (.int .i64 (El f.kind d d.len.toNat:Nat))/\h'=h:=by
 have hnull:=fun r hr=>Lh f d r (hp r hr)
 have hstep:=zAI f.kind d
 have hle:=zA5 f.kind d
 have h0:El f.kind d 0=0:=rfl
 unfold Cn at hdd
 clear hp
 generalize El f.kind d=C at *
 generalize BJ f.kind d=NR at *
 rw[BF,BL]at *
 generalize d.len=len,d.ofs=ofs,d.nuls=nls,d.bufs.length=nb,Bx d.bufs=cb,d.kids.length=nk,Bi d.kids=ck,d.dict.length=nd,Bi d.dict=cd at *
 generalize Bl f.kids=kc,f.kids.length=kn,f.nm=nm,f.nul=nul,f.kind=k,f.width=w,f.id=i,f.idx=ix at *
 refine Tri.valA rfl rfl (Bj F119_ok fun I0 ρ0 w0 Q hρ hQ=>?_) h
 obtain⟨A,hA⟩:∃A,A=stdA:=⟨_,rfl⟩
 with_reducible refine Be hA hd hQ 200 ?hk ?_
 case hk=>trivial
 conv=>arg 9;cbv
 try simp only[OK]
 repeat' first|(with_reducible refine OKK.loop ?_)
 refine oK_ (msk 23 [2,3,5,8,9]) ?_
 refine oL_ (fun m st=>∃(z a:Int),st=⟨mkT 23 [(2,.ptr 0 0),(3,.ptr 1 0),(5,.lit (.int .i64 a)),(8,.lit (.int .i64 len)),(9,.lit (.int .i64 z))],[.blk [.lit (.string nm),.lit (.bool nul),.lit (.int .i64 k),.lit (.int .i64 w),.lit (.int .i64 i),.lit (.int .i64 ix),.isl kn none kc],.blk [.lit (.int .i64 len),.lit (.int .i64 ofs),.lit (.int .i64 nls),.isl nb none cb,.isl nk none ck,.isl nd none cd]]⟩/\
   m=(len-z).toNat/\0<=z/\z<=len/\a=(C z.toNat:Nat)) (fun m st hs' ih=>?_) ⟨0,0,rfl,rfl,by omega,by omega,by rw[show (0:Int).toNat=0 from rfl,h0];rfl⟩
 obtain⟨z,a,rfl,hm,hz1,hz2,ha⟩:=hs'
 have hst:=hstep z.toNat
 have hal:=hle z.toNat
 have hn:z<len->∀h:EH,Tri Tryz.prog gs 99 [.agg [.lit (.string nm),.lit (.bool nul),.lit (.int .i64 k),.lit (.int .i64 w),.lit (.int .i64 i),.lit (.int .i64 ix),.isl kn none kc],.agg [.lit (.int .i64 len),.lit (.int .i64 ofs),.lit (.int .i64 nls),.isl nb none cb,.isl nk none ck,.isl nd none cd],.lit (.int .i64 (A.ib .add .i64 ofs z))] h fun v h'=>IsP (NR (ofs.toNat+z.toNat)=true) v/\h'=h:=fun hz h=>by
  have:=hnull (ofs.toNat+z.toNat) (by omega) h
  rw[show A.ib .add .i64 ofs z=((ofs.toNat+z.toNat:Nat):Int) by simp(disch:=omega)only[hA,Ba]<;>omega]
  exact this
 generalize NR (ofs.toNat+z.toNat)=NB at *
 with_reducible refine Be hA hd hQ 200 ?hk ?_
 case hk=>trivial
 conv=>arg 9;cbv
 try simp only[OK]
 repeat' first|(with_reducible refine OKK.again ?_)|((with_reducible refine⟨fun hbr=>?_,fun hbr=>?_⟩)<;>(try simp(disch:=omega)only[hA,Ba,reduceCtorEq]at hbr)<;>(try (with_reducible exfalso;omega)))|((with_reducible refine Bd hA hd hQ 200 ?hk ?_);(case hk=>trivial);(conv=>arg 9;cbv);(try simp only[OK]))|((with_reducible refine cO ?hg ?_);(case hg=>with_reducible exact Bb F99_ok);(refine tM (hn (by omega) _) fun v hh hx=>?_);(obtain⟨⟨b,hv,hb⟩,he⟩:=hx;subst hv;subst he;cases b<;>simp(disch:=omega)only[bF,true_iff,false_iff,eq_self]at hb)<;>(try (with_reducible exfalso;omega)))
 all_goals try
  refine oK_ (msk 23 [2,3,5,8,9]) (OKs.mv [0,1] [] (by rw[hρ];rfl) ⟨by decide,by simp[Bc],by simp⟩ (ih _ _ ⟨_,_,rfl,rfl,?_,?_,?_⟩ ?_))
  ·simp(disch:=omega)only[hA,Ba];omega
  ·simp(disch:=omega)only[hA,Ba];omega
  ·rw[show (A.ib .add .i64 z 1).toNat=z.toNat+1 by simp(disch:=omega)only[hA,Ba];omega,hst,ha]
   first
    |(rw[if_neg (by assumption)];rfl)
    |(rw[if_pos (by assumption)];simp(disch:=omega)only[hA,Ba];omega)
  ·simp(disch:=omega)only[hA,Ba];omega
 refine fI_ rfl ?_
 show EV.lit (.int .i64 a)=_
 rw[ha,show z.toNat=len.toNat by omega]
def IsF0(p:Prop)(v:EV):Prop:=∃e at':Int,v = .agg [.lit (.int .i64 e),.isl 0 none [],.lit (.int .i64 at')]/\(e=0↔p)
theorem IsF0.cl{p:Prop}{v:EV}(h:IsF0 p v):clE v=true:=by obtain⟨e,a,rfl,_⟩:=h;rfl
theorem FinR.f0{rs:List ER}{p:Prop}{s:St}{e at':Int}{pe:EV}(hv:Ci rs s.t s.h=some (.agg [.lit (.int .i64 e),pe,.lit (.int .i64 at')]))(hu:Up pe (.isl 0 none []))(hp:e=0↔p) :
  FinR rs (fun v _=>∃v',IsF0 p v'/\Up v v') s:=⟨_,hv,_,⟨e,at',rfl,hp⟩,Up.agg3 (Up.refl _) hu (Up.refl _)⟩
theorem Tri.faultC0{P:Program}{G:List (List EV)}{f:FuncId}{args:List EV}{p:Prop}(ha:clL args=true)(t:Tri P G f args [] fun v _=>∃v',IsF0 p v'/\Up v v')(h:EH):Tri P G f args h fun v h'=>IsF0 p v/\h'=h:=
 Tri.litC (fun v hv=>hv.cl) ha (Tri.up t fun v h' ⟨v',h1,h2⟩=>⟨v',h1,h2⟩) h
def Ix(f:Fld)(d:Dat):Prop:=d.nuls=(El f.kind d d.len.toNat:Nat)/\(0<El f.kind d d.len.toNat->f.nul=true)
theorem Ds(e a:Int)(h:EH):Tri Tryz.prog gs 44 [.lit (.int .i64 e),.lit (.int .i64 a)] h fun v h'=>v = .agg [.lit (.int .i64 e),.isl 0 none [],.lit (.int .i64 a)]/\h'=h:=by
 refine Tri.valA rfl rfl (Tri.up (R:=fun v _=>Up v (.agg [.lit (.int .i64 e),.isl 0 none [],.lit (.int .i64 a)])) (Bj F44_ok fun I0 ρ0 w0 Q hρ hQ=>?_) fun v h' hu=>⟨_,rfl,hu⟩) h
 obtain⟨A,hA⟩:∃A,A=stdA:=⟨_,rfl⟩
 with_reducible refine Be hA hd hQ 200 ?hk ?_
 case hk=>trivial
 conv=>arg 9;cbv
 try simp only[OK]
 exact fI_ rfl (Up.agg3 (Up.refl _) (Up.nil _) (Up.refl _))
theorem zDO(f:Fld)(d:Dat)(hdd:Cn d)(hp:∀r,r<d.ofs.toNat+d.len.toNat->Dc f.kind d r)(h:EH) :
  Tri Tryz.prog gs 96 [.agg (Bo f),.agg (Bs d)] h fun v h'=>IsF0 (Ix f d) v/\h'=h:=by
 have h1:=zAF f d hdd hp
 have h2:=Ds 81 1
 unfold Ix
 generalize El f.kind d d.len.toNat=C at *
 clear hp hdd
 obtain⟨c,hc⟩:∃c:Int,c=C:=⟨_,rfl⟩
 rw[<-hc]at h1 ⊢
 rw[BF,BL]at *
 generalize d.len=len,d.ofs=ofs,d.nuls=nls,d.bufs.length=nb,Bx d.bufs=cb,d.kids.length=nk,Bi d.kids=ck,d.dict.length=nd,Bi d.dict=cd at *
 generalize Bl f.kids=kc,f.kids.length=kn,f.nm=nm,f.nul=nul,f.kind=k,f.width=w,f.id=i,f.idx=ix at *
 refine Tri.faultC0 rfl (Bj F96_ok fun I0 ρ0 w0 Q hρ hQ=>?_) h
 obtain⟨A,hA⟩:∃A,A=stdA:=⟨_,rfl⟩
 cases nul
 all_goals
  with_reducible refine Be hA hd hQ 200 ?hk ?_
  case hk=>trivial
  conv=>arg 9;cbv
  try simp only[OK]
  repeat' first|((with_reducible refine⟨fun hbr=>?_,fun hbr=>?_⟩)<;>(try simp(disch:=omega)only[hA,Ba]at hbr)<;>(try (with_reducible exfalso;omega)))|((with_reducible refine Bd hA hd hQ 200 ?hk ?_);(case hk=>trivial);(conv=>arg 9;cbv);(try simp only[OK]))|((with_reducible refine cO ?hg ?_);(case hg=>with_reducible exact Bb F119_ok);refine tM (h1 _) ?_;rintro _ _ ⟨rfl,rfl⟩)|((with_reducible refine cO ?hg ?_);(case hg=>with_reducible exact Bb F44_ok);refine tM (h2 _) ?_;rintro _ _ ⟨rfl,rfl⟩)
 all_goals refine FinR.f0 rfl (by first|exact Up.refl _|exact Up.nil []) ?_
 all_goals first
  |exact iff_of_false (by decide) fun hh=>absurd hh.1 (by omega)
  |exact iff_of_false (by decide) fun hh=>absurd (hh.2 (by omega)) (by simp)
  |exact iff_of_true rfl ⟨by omega,fun _=>trivial⟩
  |exact iff_of_true rfl ⟨by omega,fun hh=>absurd hh (by omega)⟩
theorem Pf(a m k:Nat)(h1:a<2^k)(h2:a+m*2^k<4294967296):stdA.ib .or .u32 (a:Int) ((m*2^k:Nat):Int)=((a+m*2^k:Nat):Int):=by
 show IntKind.u32.wrap _=_
 have e1:∀m:Nat,m<4294967296->(BitVec.ofInt IntKind.u32.bits (m:Int)).toNat=m:=fun m hm=>by
  show (BitVec.ofInt 32 (m:Int)).toNat=m;rw[BitVec.ofInt_natCast,BitVec.toNat_ofNat];exact Nat.mod_eq_of_lt (by omega)
 rw[BitVec.toNat_or,e1 a (by omega),e1 _ (by omega),Nat.or_comm,Nat.mul_comm m,<-Nat.two_pow_add_eq_or_of_lt h1,Nat.add_comm]
 show IntKind.u32.wrap ((a+2^k*m:Nat):Int)=_
 rw[Nat.mul_comm _ m]
 generalize m*2^k=q at *
 simp only[IntKind.wrap,IntKind.signed,IntKind.bits]
 simp
 omega
theorem Nz(x k:Nat)(hk:k<32)(h:x*2^k<4294967296):stdA.sh .shl .u32 (x:Int) (k:Int)=((x*2^k:Nat):Int):=by
 show IntKind.u32.wrap ((x:Int)*2^(min (k:Int).toNat 32))=_
 rw[show min (k:Int).toNat 32=k by omega]
 have:((x:Int)*2^k)=((x*2^k:Nat):Int):=by push_cast;rfl
 rw[this]
 generalize x*2^k=q at *
 simp only[IntKind.wrap,IntKind.signed,IntKind.bits]
 simp
 omega
theorem Lt(x:Nat)(h:x<4294967296):stdA.wr .u32 (x:Int)=(x:Int):=by
 show IntKind.u32.wrap _=_
 simp only[IntKind.wrap,IntKind.signed,IntKind.bits]
 simp
 omega
theorem zA3(a b c e:Nat)(ha:a<256)(hb:b<256)(hc:c<256)(he:e<256) :
  stdA.wr .i64 (stdA.wr .i32 (stdA.ib .or .u32 (stdA.ib .or .u32 (stdA.ib .or .u32 (stdA.wr .u32 (a:Int)) (stdA.sh .shl .u32 (stdA.wr .u32 (b:Int)) 8)) (stdA.sh .shl .u32 (stdA.wr .u32 (c:Int)) 16)) (stdA.sh .shl .u32 (stdA.wr .u32 (e:Int)) 24)))=B5 4 (leV [a,b,c,e]):=by
 have e1:stdA.sh .shl .u32 (b:Int) 8=((b*2^8:Nat):Int):=Nz b 8 (by omega) (by omega)
 have e2:stdA.sh .shl .u32 (c:Int) 16=((c*2^16:Nat):Int):=Nz c 16 (by omega) (by omega)
 have e3:stdA.sh .shl .u32 (e:Int) 24=((e*2^24:Nat):Int):=Nz e 24 (by omega) (by omega)
 rw[Lt a (by omega),Lt b (by omega),Lt c (by omega),Lt e (by omega),e1,e2,e3,Pf a b 8 (by omega) (by omega),Pf _ c 16 (by omega) (by omega),Pf _ e 24 (by omega) (by omega)]
 have hl:leV [a,b,c,e]=a+b*2^8+c*2^16+e*2^24:=by simp only[leV];omega
 rw[hl]
 have hn:a+b*2^8+c*2^16+e*2^24<4294967296:=by omega
 generalize a+b*2^8+c*2^16+e*2^24=n at hn
 show IntKind.i64.wrap (IntKind.i32.wrap (n:Int))=_
 simp only[IntKind.wrap,IntKind.signed,IntKind.bits,B5]
 simp
 repeat' split
 all_goals omega
theorem Ir{b:List Nat}{c:List EV}(hc:c=Br b){p j:Nat}(h:p+j<b.length):List.take 1 (List.drop j (List.drop p c))=[.lit (.int .u8 ((b.getD (p+j) 0:Nat):Int))]:=by
 rw[List.drop_drop,hc]
 exact DO b _ h
theorem zAf{b:List Nat}{p:Nat}(h:p+4<=b.length):(b.drop p).take 4=[b.getD (p+0) 0,b.getD (p+1) 0,b.getD (p+2) 0,b.getD (p+3) 0]:=by
 apply List.ext_getElem?
 intro j
 rw[List.getElem?_take,List.getElem?_drop]
 match j with
 |0=>simp[lG,lE (show p<b.length by omega)]
 |1=>simp[lG,lE (show p+1<b.length by omega)]
 |2=>simp[lG,lE (show p+2<b.length by omega)]
 |3=>simp[lG,lE (show p+3<b.length by omega)]
 |j+4=>simp;omega
theorem Ip(b:List Nat)(i:Nat)(hb:b.length<=65536)(ha:AllB b)(hi:4*i+4<=b.length)(h:EH) :
  Tri Tryz.prog gs 98 [isB b,.lit (.int .i64 i)] h fun v h'=>v = .lit (.int .i64 (B5 4 (leV ((b.drop (4*i)).take 4))))/\h'=h:=by
 have hs:=zA3 _ _ _ _ (ha.get (4*i+0)) (ha.get (4*i+1)) (ha.get (4*i+2)) (ha.get (4*i+3))
 rw[<-zAf hi]at hs
 generalize B5 4 (leV ((b.drop (4*i)).take 4))=S at *
 unfold isB
 obtain⟨n,hn⟩:∃n,n=b.length:=⟨_,rfl⟩
 obtain⟨c,hc⟩:∃n,n=Br b:=⟨_,rfl⟩
 have k0:=Ir hc (p:=4*i) (j:=0) (by omega)
 have k1:=Ir hc (p:=4*i) (j:=1) (by omega)
 have k2:=Ir hc (p:=4*i) (j:=2) (by omega)
 have k3:=Ir hc (p:=4*i) (j:=3) (by omega)
 generalize ((b.getD (4*i+0) 0:Nat):Int)=x0,((b.getD (4*i+1) 0:Nat):Int)=x1,((b.getD (4*i+2) 0:Nat):Int)=x2,((b.getD (4*i+3) 0:Nat):Int)=x3 at *
 rw[<-hn,<-hc]
 obtain⟨i',hi'⟩:∃q:Int,q=i:=⟨_,rfl⟩
 rw[<-hi']
 refine Tri.valA rfl rfl (Bj F98_ok fun I0 ρ0 w0 Q hρ hQ=>?_) h
 obtain⟨A,hA⟩:∃A,A=stdA:=⟨_,rfl⟩
 have e4:A.drp (A.mul (A.tn (A.ib .mul .i64 4 i')) 1) c=List.drop (4*i) c:=by
  simp(disch:=omega)only[hA,Ba];rw[show (4*i').toNat=4*i by omega]
 have l0:List.take 1 (List.drop (A.idx 0 0 1) (A.drp (A.mul (A.tn (A.ib .mul .i64 4 i')) 1) c))=[.lit (.int .u8 x0)]:=by rw[e4,hA];exact k0
 have l1:List.take 1 (List.drop (A.idx 0 1 1) (A.drp (A.mul (A.tn (A.ib .mul .i64 4 i')) 1) c))=[.lit (.int .u8 x1)]:=by rw[e4,hA];exact k1
 have l2:List.take 1 (List.drop (A.idx 0 2 1) (A.drp (A.mul (A.tn (A.ib .mul .i64 4 i')) 1) c))=[.lit (.int .u8 x2)]:=by rw[e4,hA];exact k2
 have l3:List.take 1 (List.drop (A.idx 0 3 1) (A.drp (A.mul (A.tn (A.ib .mul .i64 4 i')) 1) c))=[.lit (.int .u8 x3)]:=by rw[e4,hA];exact k3
 with_reducible refine Be hA hd hQ 200 ?hk ?_
 case hk=>trivial
 conv=>arg 9;cbv
 try simp only[OK]
 repeat' first|((with_reducible refine Bd hA hd hQ 200 ?hk ?_);(case hk=>trivial);(conv=>arg 9;cbv);(try simp only[OK]))|((with_reducible refine Bp ?hn ?_);(case hn=>((simp(disch:=omega)only[hA,Ba])<;>omega)))|((refine⟨_,_,?l1,l0,rfl,?_⟩);(case l1=>exact rfl))|((refine⟨_,_,?l1,l1,rfl,?_⟩);(case l1=>exact rfl))|((refine⟨_,_,?l1,l2,rfl,?_⟩);(case l1=>exact rfl))|((refine⟨_,_,?l1,l3,rfl,?_⟩);(case l1=>exact rfl))
 refine fI_ rfl ?_
 rw[<-hs,hA]
 rfl
section
theorem YN(h:EH):Tri Tryz.prog gs 65 [.lit (.slice none 0 0)] h fun v h'=>v = .lit (.slice none 0 0)/\h'=h:=by
 refine Tri.litC (φ:=fun v=>v = .lit (.slice none 0 0)) (fun v hv=>by rw[hv];rfl) rfl (Bj F65_ok fun I0 ρ0 w0 Q hρ hQ=>?_) h
 obtain⟨A,hA⟩:∃A,A=stdA:=⟨_,rfl⟩
 with_reducible refine Be hA hd hQ 200 ?hk ?_
 case hk=>trivial
 conv=>arg 9;cbv
 try simp only[OK]
 exact fI_ rfl rfl
theorem zBQ(n:Nat)(c:List EV)(h:EH)(hn:1<=n)(hn2:n<=65)(hc:c.length=n)(hcl:clL c=true) :
  Tri Tryz.prog gs 65 [.isl n none c] h fun v h'=>v = .sl 1 (Bc h) 0 n none/\h'=B0 h (.blk c):=by
 have t:Tri Tryz.prog gs 65 [.isl n none c] [] fun v h'=>v = .sl 1 0 0 n none/\h'=[.blk c]:=by
  refine Tri.mv (R:=fun v h'=>v = .sl 1 1 0 n none/\∃o t,h'=o :: .blk c::t) (Bj F65_ok fun I0 ρ0 w0 Q hρ hQ=>?_) fun v h' ⟨hv,o,t,ht⟩=>?_
  ·obtain⟨A,hA⟩:∃A,A=stdA:=⟨_,rfl⟩
   with_reducible refine Be hA hd hQ 200 ?hk ?_
   case hk=>trivial
   conv=>arg 9;cbv
   try simp only[OK]
   repeat' first|((with_reducible refine⟨fun hbr=>?_,fun hbr=>?_⟩)<;>(try simp(disch:=omega)only[hA,Ba]at hbr)<;>(try (with_reducible exfalso;omega)))|((with_reducible refine Bd hA hd hQ 200 ?hk ?_);(case hk=>trivial);(conv=>arg 9;cbv);(try simp only[OK]))|((with_reducible refine Bp ?hn ?_);(case hn=>((simp(disch:=omega)only[hA,Ba])<;>omega)))
   have e:A.app (A.tak (A.mul 0 1) (A.drp 0 [])) (A.tak (A.mul n 1) c)=c:=by rw[hA];simp[DL,C7,CV,CT,<-hc]
   exact fI_ rfl ⟨by rw[hA];simp only[PE,Nat.zero_add];rfl,_,_,congrArg (fun x=>[EO.blk [],EO.blk x]) e⟩
  ·subst hv;subst ht
   refine⟨[1],[],rfl,⟨by simp,by simp[Bc],by simp⟩,rfl,?_⟩
   simp[mvH,Bh,mvO,inL,BR _ _ _ hcl]
 refine(Tri.frame (h:=h) (R:=fun v h'=>v = .sl 1 0 0 n none/\h'=[.blk c]) [] (by simp) t (.inl rfl)).mono fun v h' ⟨v0,h0,⟨e1,e2⟩,e3,e4⟩=>?_
 subst e1;subst e2;subst e3;subst e4
 exact⟨rfl,by simp only[DN,mvO,BR _ _ _ hcl]⟩
def H10(fn nn:Nat)(fc nc res:List EV)(cnt:Int)(ie:List (EV×EV))(LT:List EV)(LA LB:EC)(st:Nat)(pd:PD):EH:=
 [.blk [.isl fn none fc,.isl nn none nc],.blk res,.blk [.lit (.int .i64 cnt)],.emap ie,.blk [.mp 3],.blk [.isl fn none fc],.blk [.lit (.int .i64 65)],.lp LT [46] LA LB st pd,.blk [.yl 7],.blk [.fn (.func 64) [] [.ptr 8 0,.ptr 6 0,.ptr 9 0]]]
def Gt(LT:List EV):Prop:=∀g z,(∀i,i<10->g i=some i)->mvL g z LT=LT
def Dk:List EV:=[.lit (.int .i64 0),.lit (.slice none 0 0),.lit (.int .i64 0)]
def KT(e:Int)(pn:Nat)(pc:List EV):List EV:=[.lit (.int .i64 e),.isl pn none pc,.lit (.int .i64 0)]
def JO(fn nn:Nat)(fc nc:List EV)(LT:List EV)(LA LB:EC)(ok:Prop)(all:List Pl)(tail:EH)(v:EV)(h:EH):Prop:=
 (ok/\v = .sb true/\∃idm,GR idm all/\h=H10 fn nn fc nc Dk all.length (imE idm) LT LA LB 0 none++tail)\/
 (¬ok/\v = .sb false/\∃e pn pc cnt idm,e≠0/\h=H10 fn nn fc nc (KT e pn pc) cnt (imE idm) LT LA LB 2 (some none)++tail)
def Pw(fn nn:Nat)(fc nc:List EV)(LT:List EV)(LA LB:EC):Prop:=
 ∀(prev:List Pl) (idm:List (Int×Int)) (p:Pl) (rest:List Fld) (wn an kn:Nat) (wc ac kc:List EV) (cnt:Int) (ie:List (EV×EV)),GR idm prev->prev.length<=256->p.path.length<=65->clL wc=true->p.ahead.length<=140737488351232->okF p.f->
  wn=p.path.length->an=p.ahead.length->ac=Bl (p.ahead++rest)->kn=p.f.kids.length->kc=Bl p.f.kids->cnt=prev.length->ie=imE idm->
  TriY Tryz.prog gs 7 [.agg [.isl wn none wc,.isl an none ac,.lit (.string p.f.nm),.lit (.bool p.f.nul),.lit (.int .i64 p.f.kind),.lit (.int .i64 p.f.width),.lit (.int .i64 p.f.id),.lit (.int .i64 p.f.idx),.isl kn none kc,.sb p.inD]]
   (H10 fn nn fc nc Dk cnt ie LT LA LB 0 none++[.blk [.lit (.string p.f.nm),.lit (.bool p.f.nul),.lit (.int .i64 p.f.kind),.lit (.int .i64 p.f.width),.lit (.int .i64 p.f.id),.lit (.int .i64 p.f.idx),.isl kn none kc]])
   (JO fn nn fc nc LT LA LB (prev.length<256/\okN prev p) (prev++[p]) [.blk [.lit (.string p.f.nm),.lit (.bool p.f.nul),.lit (.int .i64 p.f.kind),.lit (.int .i64 p.f.width),.lit (.int .i64 p.f.id),.lit (.int .i64 p.f.idx),.isl kn none kc]])
section
variable {fn nn:Nat} {fc nc res:List EV} {cnt:Int} {ie:List (EV×EV)} {LT:List EV} {LA LB:EC} {st:Nat} {pd:PD}
abbrev L10:List Nat:=[0,1,2,3,4,5,6,7,8,9]
abbrev L11:List Nat:=[0,1,2,3,4,5,6,7,8,9,10]
theorem Jb(hLT:Gt LT)(hres:clL res=true)(hie:∀g z,mvM g z ie=ie)(t:EH) :
  mvH L10 [] (H10 fn nn fc nc res cnt ie LT LA LB st pd++t) L10=H10 fn nn fc nc res cnt ie LT LA LB st pd:=by
 show ([.blk [.isl fn none fc,.isl nn none nc],.blk (mvL _ _ res),.blk [.lit (.int .i64 cnt)],.emap (mvM _ _ ie),.blk [.mp 3],.blk [.isl fn none fc],.blk [.lit (.int .i64 65)],.lp (mvL (mvG L10 []) (mvZ [] _) LT) [46] LA LB st pd,.blk [.yl 7],.blk [.fn (.func 64) [] [.ptr 8 0,.ptr 6 0,.ptr 9 0]]]:EH)=_
 rw[hie,hLT _ _ (by decide),BR _ _ _ hres]
 rfl
theorem VH(fr:List Nat)(hfr:fr=[12]\/fr=[13])(hLT:Gt LT)(hres:clL res=true)(hie:∀g z,mvM g z ie=ie)(fb:List EV)(hfb:clL fb=true)(t:EH) :
  mvH L11 fr (H10 fn nn fc nc res cnt ie LT LA LB st pd++(.blk fb::t)) L11=H10 fn nn fc nc res cnt ie LT LA LB st pd++[.blk fb]:=by
 rcases hfr with rfl|rfl
 ·show ([.blk [.isl fn none fc,.isl nn none nc],.blk (mvL _ _ res),.blk [.lit (.int .i64 cnt)],.emap (mvM _ _ ie),.blk [.mp 3],.blk [.isl fn none fc],.blk [.lit (.int .i64 65)],.lp (mvL (mvG L11 [12]) (mvZ [12] _) LT) [46] LA LB st pd,.blk [.yl 7],.blk [.fn (.func 64) [] [.ptr 8 0,.ptr 6 0,.ptr 9 0]],.blk (mvL _ _ fb)]:EH)=_
  rw[hie,hLT _ _ (by decide),BR _ _ _ hres,BR _ _ _ hfb]
  rfl
 ·show ([.blk [.isl fn none fc,.isl nn none nc],.blk (mvL _ _ res),.blk [.lit (.int .i64 cnt)],.emap (mvM _ _ ie),.blk [.mp 3],.blk [.isl fn none fc],.blk [.lit (.int .i64 65)],.lp (mvL (mvG L11 [13]) (mvZ [13] _) LT) [46] LA LB st pd,.blk [.yl 7],.blk [.fn (.func 64) [] [.ptr 8 0,.ptr 6 0,.ptr 9 0]],.blk (mvL _ _ fb)]:EH)=_
  rw[hie,hLT _ _ (by decide),BR _ _ _ hres,BR _ _ _ hfb]
  rfl
theorem UO{res0:List EV}{cnt0:Int}{ie0:List (EV×EV)}{st0:Nat}{pd0:PD}(hLT:Gt LT)(hres:clL res=true)(hie:∀g z,mvM g z ie=ie)(fb:EO) :
  En L10 (H10 fn nn fc nc res0 cnt0 ie0 LT LA LB st0 pd0++[fb]) (H10 fn nn fc nc res cnt ie LT LA LB st pd)=H10 fn nn fc nc res cnt ie LT LA LB st pd++[fb]:=by
 show ([.blk [.isl fn none fc,.isl nn none nc],.blk (mvL _ _ res),.blk [.lit (.int .i64 cnt)],.emap (mvM _ _ ie),.blk [.mp 3],.blk [.isl fn none fc],.blk [.lit (.int .i64 65)],.lp (mvL (bkG L10 11) (fun _=>none) LT) [46] LA LB st pd,.blk [.yl 7],.blk [.fn (.func 64) [] [.ptr 8 0,.ptr 6 0,.ptr 9 0]],fb]:EH)=_
 rw[hie,hLT _ _ (by decide),BR _ _ _ hres]
 rfl
end
section
variable {P:Program} {G:List (List EV)} {ro:Option Nat} {I0:Imm} {ρ0:Ren} {w0:World} {Q:Exit->Act->World->Prop}
theorem OKs.mvE{k:List KI}{s:St}(σ fr:List Nat){hn:EH}(hσ:σ.take ρ0.length=List.range ρ0.length)(ok:EM σ fr s.h)(e:mvH σ fr s.h σ=hn)(h:OKs P G ro I0 ρ0 w0 Q k ⟨mvL (mvG σ fr) (mvZ fr s.h) s.t,hn⟩):OKs P G ro I0 ρ0 w0 Q k s:=
 OKs.mv σ fr hσ ok (by show OKs P G ro I0 ρ0 w0 Q k ⟨_,mvH σ fr s.h σ⟩;rw[e];exact h)
end
def GN:EC->EC
 | .seq _ b=>b
 |_=>.skip
def EK:EC->EC
 | .block _ c=>c
 |_=>.skip
def lpC:EC->EC
 | .loop c=>c
 |_=>.skip
theorem TG:∀{l prev:List Pl},Ce prev l->l=[]\/prev.length+l.length<=256
 |[],_,_=>.inl rfl
 |p::l,prev,h=>.inr (by
  have:=TG h.2.2;rcases this with h1|h1
  ·have:=h.1;rw[h1];simp;omega
  ·simp at h1 ⊢;omega)
def WalkR0(fn nn:Nat)(fc nc:List EV)(LT:List EV)(LA LB:EC)(ok:Prop)(all:List Pl)(v:EV)(h:EH):Prop:=
 (ok/\v = .lit (.bool true)/\∃idm t,GR idm all/\h=H10 fn nn fc nc Dk all.length (imE idm) LT LA LB 0 none++t)\/
 (¬ok/\v = .lit (.bool false)/\∃e pn pc cnt idm t,e≠0/\h=H10 fn nn fc nc (KT e pn pc) cnt (imE idm) LT LA LB 2 (some none)++t)
theorem WalkR0.done{fn nn:Nat}{fc nc:List EV}{LT:List EV}{LA LB:EC}{ok:Prop}{all:List Pl}{P:Program}{G:List (List EV)}{f:FuncId}{args:List EV}{h:EH}(hLT:Gt LT)(hs:Bc h=10)(t:Tri P G f args h (WalkR0 fn nn fc nc LT LA LB ok all)) :
  Tri P G f args h (JO fn nn fc nc LT LA LB ok all []):=by
 refine Tri.up (Tri.mv (R':=fun v h'=>∃b,v = .lit (.bool b)/\JO fn nn fc nc LT LA LB ok all [] (.sb b) h') t fun v h' hr=>?_) fun v h' ⟨b,h1,h2⟩=>⟨_,h2,by rw[h1];exact Up.sb _⟩
 refine⟨L10,[],by rw[hs];rfl,?_⟩
 rcases hr with ⟨h1,h2,idm,t,h3,h4⟩|⟨h1,h2,e,pn,pc,cnt,idm,t,h3,h4⟩<;>subst h2<;>subst h4
 ·refine⟨⟨by decide,fun id hid=>?_,fun id hid=>by cases hid⟩,true,rfl,.inl ⟨h1,rfl,idm,h3,?_⟩⟩
  ·have:id<10:=by revert hid;revert id;decide
   show id<_;simp only[H10,lC,Bc];omega
  ·rw[Jb hLT rfl (fun g z=>Eo g z idm),List.append_nil]
 ·refine⟨⟨by decide,fun id hid=>?_,fun id hid=>by cases hid⟩,false,rfl,.inr ⟨h1,rfl,e,pn,pc,cnt,idm,h3,?_⟩⟩
  ·have:id<10:=by revert hid;revert id;decide
   show id<_;simp only[H10,lC,Bc];omega
  ·rw[Jb hLT rfl (fun g z=>Eo g z idm),List.append_nil]
def RD(path:List Nat)(pc:List EV):EV:=if path=[]then .lit (.slice none 0 0)else .isl path.length none pc
theorem zAj(fn nn:Nat)(fc nc:List EV)(LT:List EV)(LA LB:EC)(hLT:Gt LT)(hround:Pw fn nn fc nc LT LA LB) :
  ∀(lev:Nat) (l:List Fld) (path:List Nat) (pe:EV) (pc:List EV) (inD:Bool) (prev:List Pl) (idm:List (Int×Int)) (n0:Nat) (lc:List EV) (cnt:Int) (ie:List (EV×EV)),
  65<=path.length+lev->path.length<=64->pe=RD path pc->pc.length=path.length->clL pc=true->Gg l->l.length<=140737488351232->GR idm prev->prev.length<=256->n0=l.length->lc=Bl l->cnt=prev.length->ie=imE idm->
  Tri Tryz.prog gs 64 [pe,.isl n0 none lc,.sb inD,.ptr 8 0,.ptr 6 0,.ptr 9 0] (H10 fn nn fc nc Dk cnt ie LT LA LB 0 none)
   (JO fn nn fc nc LT LA LB (Ce prev (BM path [] inD l)) (prev++BM path [] inD l) []):=by
 intro lev
 induction lev with
 |zero=>intro l path pe pc inD prev idm n0 lc cnt ie h1 h2;omega
 |succ lev ihl=>
 intro l path pe pc inD prev idm n0 lc cnt ie hlev hp64 hpe hpc hpcl hokl hll hids hprev hn0 hlc hcnt hie
 refine WalkR0.done hLT rfl (Bj F64_ok fun I0 ρ0 w0 Q hρ hQ=>?_)
 obtain⟨A,hA⟩:∃A,A=stdA:=⟨_,rfl⟩
 unfold H10
 with_reducible refine Be hA hd hQ 200 ?hk ?_
 case hk=>trivial
 conv=>arg 9;cbv
 try simp only[OK]
 repeat' first|(with_reducible refine OKK.loop ?_)
 refine oK_ (msk 56 [0,1,2,3,4,5,13,14,15]) ?_
 refine oL_ (fun n st=>∃(z:Int) (prevz:List Pl) (idz:List (Int×Int)) (cz:Int) (iz:List (EV×EV)),st=⟨mkT 56 [(0,pe),(1,.isl n0 none lc),(2,.sb inD),(3,.ptr 8 0),(4,.ptr 6 0),(5,.ptr 9 0),(13,.isl n0 none lc),(14,.lit (.int .i64 (A.ofn n0))),(15,.lit (.int .i64 z))],H10 fn nn fc nc Dk cz iz LT LA LB 0 none⟩/\n=(n0-z).toNat/\0<=z/\z<=n0/\cz=prevz.length/\iz=imE idz/\GR idz prevz/\prevz.length<=256/\prevz=prev++BM path [] inD (l.take z.toNat)/\Ce prev (BM path [] inD (l.take z.toNat))) (fun n st hs' ih=>?_)
  ⟨0,prev,idm,cnt,ie,rfl,rfl,by omega,by omega,hcnt,hie,hids,hprev,by simp[BM],by simp[BM,Ce]⟩
 obtain⟨z,prevz,idz,cz,iz,rfl,hnn,hz1,hz2,hcz,hiz,hidz,hprevz,hpz,hall⟩:=hs'
 have hmvi:∀g z,mvM g z iz=iz:=fun g z=>by rw[hiz];exact Eo g z idz
 obtain⟨f,hf⟩:∃f,f=l.getD z.toNat BQ:=⟨_,rfl⟩
 have hLf:z<n0->List.take 7 (List.drop (A.idx 0 z 7) lc)=Bo f:=fun hz=>by rw[hA,hlc,hf,<-D5 l z.toNat (by omega),B3,Nat.zero_add]
 have hokf:z<n0->okF f:=fun hz=>by rw[hf];exact Ut hokl _ (by omega)
 obtain⟨nm,nul,k,w,i,x,kids⟩:=f
 simp only[Bo]at hLf
 obtain⟨kn,hkn⟩:∃n,n=kids.length:=⟨_,rfl⟩
 obtain⟨kc,hkc⟩:∃c,c=Bl kids:=⟨_,rfl⟩
 rw[<-hkn,<-hkc]at hLf
 unfold H10
 obtain⟨pn,hpn⟩:∃n,n=path.length:=⟨_,rfl⟩
 have hways:(path=[]/\pe = .lit (.slice none 0 0))\/(1<=pn/\pe = .isl pn none pc):=by
  rw[hpe,RD]
  by_cases h:path=[]
  ·exact .inl ⟨h,if_pos h⟩
  ·exact .inr ⟨by rw[hpn];cases path with|nil=>exact absurd rfl h|cons a l=>simp,by rw[if_neg h,hpn]⟩
 have hpem:∀g z,mvE g z pe=pe:=fun g z=>by rcases hways with ⟨_,h⟩|⟨_,h⟩<;>rw[h]<;>rfl
 have hsplit:∀K,z<n0->Cq path (l.take z.toNat) inD (.mk nm nul k w i x kids)=K->∃R,BM path [] inD l=BM path [] inD (l.take z.toNat)++(K++R):=fun K hz hK=>by
  refine⟨BM path (l.take z.toNat++[.mk nm nul k w i x kids]) inD (l.drop (z.toNat+1)),?_⟩
  conv=>lhs;rw[<-List.take_append_drop z.toNat l,PY,List.drop_eq_getElem_cons (show z.toNat<l.length by omega)]
  rw[BM,<-hK,hf,lG,lE (by omega)]
  simp
 have hpl1:(path++[(l.take z.toNat).length]).length=pn+1:=by simp[hpn]
 obtain⟨p,hp⟩:∃p:Pl,p=⟨path++[(l.take z.toNat).length],l.take z.toNat,.mk nm nul k w i x kids,inD⟩:=⟨_,rfl⟩
 have main:∀(wn:Nat) (wc:List EV),z<n0->wn=pn+1->wc.length=wn->clL wc=true->
   OKs Tryz.prog gs none I0 ρ0 w0 Q [.c (Er (Dv (EK (Er (Dv (lpC (EK (GN (Er (Dv F64.body 1)))) ) 2))) 2)),.c (Dv (EK (Er (Dv (lpC (EK (GN (Er (Dv F64.body 1))))) 2))) 3),.blk 1,.c (Dv (lpC (EK (GN (Er (Dv F64.body 1))))) 3),.lp (lpC (EK (GN (Er (Dv F64.body 1))))),.blk 0,.c (Dv F64.body 2)]
    ⟨mkT 56 [(0,pe),(1,.isl n0 none lc),(2,.sb inD),(3,.ptr 8 0),(4,.ptr 6 0),(5,.ptr 9 0),(10,.lit (.int .i64 z)),(11,.ptr 10 0),(12,.isl wn none wc),(13,.isl n0 none lc),(14,.lit (.int .i64 (A.ofn n0))),(15,.lit (.int .i64 z))],
     H10 fn nn fc nc Dk cz iz LT LA LB 0 none++[.blk [.lit (.string nm),.lit (.bool nul),.lit (.int .i64 k),.lit (.int .i64 w),.lit (.int .i64 i),.lit (.int .i64 x),.isl kn none kc]]⟩:=by
  intro wn wc hz hwn hwl hwcl;unfold H10;have htk:(l.take z.toNat).length=z.toNat:=by rw[lK];omega
  have hkok:=hokf hz;have hnf:Cq path (l.take z.toNat) inD (.mk nm nul k w i x kids)=p::(if path.length<64 then BM (path++[(l.take z.toNat).length]) [] (inD||decide (k=19)) kids else []):=by rw[Cq,hp]
  obtain⟨R,hR⟩:=hsplit _ hz hnf;have hstep:=zC6 path inD l z.toNat (by omega)
  rw[<-hf,hnf]at hstep;obtain⟨an,han⟩:∃n,n=A.sub (A.tn z) (A.tn 0):=⟨_,rfl⟩;obtain⟨ac,hac⟩:∃n,n=A.drp (A.mul (A.tn 0) 7) lc:=⟨_,rfl⟩
  have hr:=hround prevz idz p (l.drop z.toNat) wn an kn wc ac kc cz iz hidz hprevz (by rw[hp];show (path++[(l.take z.toNat).length]).length<=65;omega) hwcl (by rw[hp];show (l.take z.toNat).length<=_;omega) (by rw[hp];exact hkok)
   (by rw[hp];show wn=(path++[(l.take z.toNat).length]).length;omega) (by rw[hp,han,hA];show _=(l.take z.toNat).length;simp only[IE,HY,Int.reduceToNat,htk];omega)
   (by rw[hp,hac,hA,hlc];simp only[CV,CT,HY,Int.reduceToNat,Nat.zero_mul,List.drop_zero,List.take_append_drop]) (by rw[hp];exact hkn) (by rw[hp];exact hkc) hcz hiz
  rw[han,hac]at hr;simp only[hp,P5,Pa,Hb,JB,Kd,Ja]at hr;rw[<-hp]at hr
  with_reducible refine Be hA hd hQ 1 ?hk ?_
  case hk=>trivial
  conv=>arg 9;cbv
  try simp only[OK]
  repeat' first|((with_reducible refine Bd hA hd hQ 1 ?hk ?_);(case hk=>trivial);(conv=>arg 9;cbv);(try simp only[OK]))|((with_reducible refine Bp ?hn ?_);(case hn=>((simp(disch:=omega)only[hA,Ba])<;>omega)))
  refine .inr ⟨7,_,rfl,rfl,TriY.mono hr fun v hh hx=>?_⟩
  rcases hx with ⟨hok,hv,idm',hid',hh'⟩|⟨hno,hv,e,pf,pcf,cntf,idf,he,hh'⟩
  ·have hz1':(A.ib .add .i64 z 1).toNat=z.toNat+1:=by simp(disch:=omega)only[hA,Ba];omega
   obtain⟨c1,hc1⟩:∃c:Int,c=(prevz++[p]).length:=⟨_,rfl⟩;obtain⟨i1,hi1⟩:∃c,c=imE idm':=⟨_,rfl⟩;rw[<-hc1,<-hi1]at hh';subst hv;subst hh'
   with_reducible refine Bd hA hd hQ 1 ?hk ?_
   case hk=>trivial
   conv=>arg 9;cbv
   try simp only[OK]
   repeat' first|(with_reducible refine OKK.again ?_)|((with_reducible refine⟨fun hbr=>?_,fun hbr=>?_⟩)<;>(try simp(disch:=omega)only[hA,Ba,reduceCtorEq]at hbr)<;>(try (with_reducible exfalso;omega)))|((with_reducible refine Bd hA hd hQ 1 ?hk ?_);(case hk=>trivial);(conv=>arg 9;cbv);(try simp only[OK]))
   rotate_right
   ·refine oK_ (msk 56 [0,1,2,3,4,5,13,14,15]) (OKs.mvE L10 [] (by rw[hρ];rfl) ⟨by decide,by simp[Bc],by simp⟩ (Jb hLT rfl (fun g z=>by rw[hi1];exact Eo g z _) [_]) ?_)
    show OKs Tryz.prog gs none I0 ρ0 w0 Q _ (St.mk (mvE _ _ pe::_) _);rw[hpem];refine(ih _ _ ⟨A.ib .add .i64 z 1,prevz++[p],idm',c1,i1,rfl,rfl,?_,?_,hc1,hi1,hid',?_,?_,?_⟩ ?_)
    ·simp(disch:=omega)only[hA,Ba];omega
    ·simp(disch:=omega)only[hA,Ba];omega
    ·simp only[List.length_append,List.length_singleton];omega
    ·rw[hz1',hstep,if_neg (by omega),hpz,lA]
    ·rw[hz1',hstep,if_neg (by omega),Gh];exact⟨hall,by rw[<-hpz];exact⟨hok.1,hok.2,trivial⟩⟩
    ·simp(disch:=omega)only[hA,Ba];omega
   all_goals
    obtain⟨K,hK⟩:∃K,K=BM (path++[(l.take z.toNat).length]) [] (inD||decide (k=19)) kids:=⟨_,rfl⟩;have t:=ihl kids (path++[(l.take z.toNat).length]) (.isl wn none wc) wc (inD||decide (k=19)) (prevz++[p]) idm' kn kc c1 i1 (by rw[hpl1];omega) (by rw[hpl1];omega) (by rw[RD,if_neg (by simp),hpl1,hwn]) (by rw[hpl1];omega) hwcl hkok.2.2.2.2.2.2 hkok.2.2.2.2.2.1 hid' (by simp only[List.length_append,List.length_singleton];omega) hkn hkc hc1 hi1
    rw[<-hK]at t
    have t2:=Tri.args (args:=[.isl wn none wc,.isl kn none kc,_,.ptr 8 0,.ptr 6 0,.ptr 9 0]) t (UpL.cons (Up.refl _) (UpL.cons (Up.refl _) (UpL.cons (x:=if inD then .lit (.bool true)else .sb (A.ic .eql k 19)) (by
     cases inD
     ·rw[show (false||decide (k=19))=A.ic .eql k 19 by rw[hA,Sa,Bool.false_or]];exact Up.refl _
     ·rw[show (true||decide (k=19))=true by rw[Bool.true_or]];exact Up.sb _) (UpL.cons (Up.refl _) (UpL.cons (Up.refl _) (UpL.cons (Up.refl _) UpL.nil))))))
    rw[<-Jb (fn:=fn) (nn:=nn) (fc:=fc) (nc:=nc) (res:=Dk) (cnt:=c1) (ie:=i1) (LA:=LA) (LB:=LB) (st:=0) (pd:=none) hLT rfl (fun g z=>by rw[hi1];exact Eo g z _) [.blk [.lit (.string nm),.lit (.bool nul),.lit (.int .i64 k),.lit (.int .i64 w),.lit (.int .i64 i),.lit (.int .i64 x),.isl kn none kc]],(by assumption:inD=_)]at t2
    refine cO (Bb F64_ok) (tM (Tri.sub L10 [] ⟨by decide,by simp[Bc],by simp⟩ (by simp) t2 (.inl rfl)) fun v hh hx=>?_)
    obtain⟨v0,h0,hw,hv,hh'⟩:=hx;rcases hw with ⟨hok2,hv0,idm2,hid2,hh0⟩|⟨hno2,hv0,e,pf,pcf,cntf,idf,he,hh0⟩
    ·obtain⟨c2,hc2⟩:∃c:Int,c=(prevz++[p]++K).length:=⟨_,rfl⟩
     obtain⟨i2,hi2⟩:∃c,c=imE idm2:=⟨_,rfl⟩
     have hlen2:(prevz++[p]++K).length<=256:=by
      have h1:=hok.1;rcases TG hok2 with h2|h2
      ·rw[h2];simp only[List.length_append,List.length_singleton,List.length_nil];omega
      ·simp only[List.length_append,List.length_singleton]at h2 ⊢;omega
     rw[List.append_nil,<-hc2,<-hi2]at hh0;subst hh0;subst hv0;have hh2:=hh'.trans (UO hLT rfl (fun g z=>by rw[hi2];exact Eo g z _) _)
     clear hh';subst hv;subst hh2
     with_reducible refine Bd hA hd hQ 1 ?hk ?_
     case hk=>trivial
     conv=>arg 9;cbv
     try simp only[OK]
     repeat' first|(with_reducible refine OKK.again ?_)|((with_reducible refine⟨fun hbr=>?_,fun hbr=>?_⟩)<;>(try simp(disch:=omega)only[hA,Ba,reduceCtorEq]at hbr)<;>(try (with_reducible exfalso;omega)))|((with_reducible refine Bd hA hd hQ 1 ?hk ?_);(case hk=>trivial);(conv=>arg 9;cbv);(try simp only[OK]))
     refine oK_ (msk 56 [0,1,2,3,4,5,13,14,15]) (OKs.mvE L10 [] (by rw[hρ];rfl) ⟨by decide,by simp[Bc],by simp⟩ (Jb hLT rfl (fun g z=>by rw[hi2];exact Eo g z _) [_]) ?_)
     show OKs Tryz.prog gs none I0 ρ0 w0 Q _ (St.mk (mvE _ _ pe::_) _);rw[hpem];refine(ih _ _ ⟨A.ib .add .i64 z 1,prevz++[p]++K,idm2,c2,i2,rfl,rfl,?_,?_,hc2,hi2,hid2,?_,?_,?_⟩ ?_)
     ·simp(disch:=omega)only[hA,Ba];omega
     ·simp(disch:=omega)only[hA,Ba];omega
     ·exact hlen2
     ·rw[hz1',hstep,if_pos (by omega),<-hK,hpz,lA,lA,List.singleton_append]
     ·rw[hz1',hstep,if_pos (by omega),<-hK,Gh];exact⟨hall,by rw[<-hpz];exact⟨hok.1,hok.2,hok2⟩⟩
     ·simp(disch:=omega)only[hA,Ba];omega
    ·obtain⟨i2,hi2⟩:∃c,c=imE idf:=⟨_,rfl⟩
     rw[List.append_nil,<-hi2]at hh0;subst hh0;subst hv0;have hh2:=hh'.trans (UO hLT rfl (fun g z=>by rw[hi2];exact Eo g z _) _)
     clear hh';subst hv;subst hh2
     with_reducible refine Bd hA hd hQ 1 ?hk ?_
     case hk=>trivial
     conv=>arg 9;cbv
     try simp only[OK]
     repeat' first|((with_reducible refine⟨fun hbr=>?_,fun hbr=>?_⟩)<;>(try simp(disch:=omega)only[hA,Ba,reduceCtorEq]at hbr)<;>(try (with_reducible exfalso;omega)))|((with_reducible refine Bd hA hd hQ 1 ?hk ?_);(case hk=>trivial);(conv=>arg 9;cbv);(try simp only[OK]))
     refine fI_ rfl (.inr ⟨fun hall2=>?_,rfl,e,pf,pcf,cntf,idf,_,he,by rw[<-hi2];rfl⟩)
     rw[hR,Gh,<-hpz,if_pos (by omega),<-hK]at hall2
     exact hno2 ((Gh K R (prevz++[p])).1 hall2.2.2.2).1
  ·obtain⟨i1,hi1⟩:∃c,c=imE idf:=⟨_,rfl⟩
   rw[<-hi1]at hh';subst hv;subst hh'
   with_reducible refine Bd hA hd hQ 1 ?hk ?_
   case hk=>trivial
   conv=>arg 9;cbv
   try simp only[OK]
   repeat' first|((with_reducible refine⟨fun hbr=>?_,fun hbr=>?_⟩)<;>(try simp(disch:=omega)only[hA,Ba,reduceCtorEq]at hbr)<;>(try (with_reducible exfalso;omega)))|((with_reducible refine Bd hA hd hQ 1 ?hk ?_);(case hk=>trivial);(conv=>arg 9;cbv);(try simp only[OK]))
   refine fI_ rfl (.inr ⟨fun hall2=>?_,rfl,e,pf,pcf,cntf,idf,_,he,by rw[<-hi1];rfl⟩)
   rw[hR,Gh,<-hpz]at hall2;exact hno ⟨hall2.2.1,hall2.2.2.1⟩
 rcases hways with ⟨hp0,hpe1⟩|⟨hp0,hpe1⟩<;>rw[hpe1]
 all_goals
  with_reducible refine Be hA hd hQ 1 ?hk ?_
  case hk=>trivial
  conv=>arg 9;cbv
  try simp only[OK]
  repeat' first|((with_reducible refine⟨fun hbr=>?_,fun hbr=>?_⟩)<;>(try simp(disch:=omega)only[hA,Ba]at hbr)<;>(try (with_reducible exfalso;omega)))|((with_reducible refine Bd hA hd hQ 1 ?hk ?_);(case hk=>trivial);(conv=>arg 9;cbv);(try simp only[OK]))|((with_reducible refine Bp ?hn ?_);(case hn=>((simp(disch:=omega)only[hA,Ba])<;>omega)))|((refine⟨_,_,?l1,(hLf (by omega)),rfl,?_⟩);(case l1=>exact rfl))
 ·refine cO (Bb F65_ok) (tM (YN _) fun v hh hx=>?_)
  obtain⟨e1,e2⟩:=hx;subst e1;subst e2
  with_reducible refine Bd hA hd hQ 1 ?hk ?_
  case hk=>trivial
  conv=>arg 9;cbv
  try simp only[OK]
  repeat' first|(with_reducible refine OKK.stopS (some 25) ?_)|((with_reducible refine⟨fun hbr=>?_,fun hbr=>?_⟩)<;>(try simp(disch:=omega)only[hA,Ba,reduceCtorEq]at hbr)<;>(try (with_reducible exfalso;omega)))|((with_reducible refine Bd hA hd hQ 1 ?hk ?_);(case hk=>trivial);(conv=>arg 9;cbv);(try simp only[OK]))|((with_reducible refine Bp ?hn ?_);(case hn=>((simp(disch:=omega)only[hA,Ba])<;>omega)))
  refine oK_ (msk 56 [0,1,2,3,4,5,10,11,12,13,14,15]) ?_;obtain⟨wc,hwc⟩:∃c,c=A.tak (A.mul 1 1) (A.drp 0 [.lit (.int .i64 z)]):=⟨_,rfl⟩;have hwc1:wc=[.lit (.int .i64 z)]:=by rw[hwc,hA];rfl
  refine OKs.mvE L11 [12] (by rw[hρ];rfl) ⟨by decide,by simp[Bc],fun id hid=>by simp at hid;subst hid;exact⟨_,rfl,by rw[hA];rfl⟩⟩ (VH [12] (by simp) hLT rfl hmvi _ rfl _) ?_
  refine OKs.up 12 (.isl 1 none wc) (by rw[hwc];exact Up.refl _) ?_
  have hm:=main 1 wc (by assumption) (by rw[hpn,hp0];rfl) (by rw[hwc1];rfl) (by rw[hwc1];rfl)
  rw[hpe1]at hm;exact hm
 rotate_left
 ·refine cO (Bb F65_ok) (tM (zBQ pn pc _ hp0 (by omega) (by omega) hpcl) fun v hh hx=>?_)
  obtain⟨e1,e2⟩:=hx;subst e1;subst e2;have hpcn:pc.length=pn:=by omega
  with_reducible refine Bd hA hd hQ 1 ?hk ?_
  case hk=>trivial
  conv=>arg 9;cbv
  try simp only[OK]
  repeat' first|(with_reducible refine OKK.stopS (some 25) ?_)|((with_reducible refine Bd hA hd hQ 1 ?hk ?_);(case hk=>trivial);(conv=>arg 9;cbv);(try simp only[OK]))|((with_reducible refine Bp ?hn ?_);(case hn=>((simp(disch:=omega)only[hA,Ba])<;>omega)))
  refine oK_ (msk 56 [0,1,2,3,4,5,10,11,12,13,14,15]) ?_;obtain⟨wc,hwc⟩:∃c,c=A.app (A.tak (A.mul pn 1) (A.drp 0 pc)) (A.tak (A.mul 1 1) (A.drp 0 [.lit (.int .i64 z)])):=⟨_,rfl⟩;have hwc1:wc=pc++[.lit (.int .i64 z)]:=by rw[hwc,hA];simp[DL,C7,CV,CT,<-hpcn]
  have hwc2:clL wc=true:=by
   rw[hwc1];refine Dj fun x hx=>?_
   rcases List.mem_append.1 hx with hx|hx
   ·exact Et hpcl x hx
   ·rw[List.mem_singleton.1 hx];rfl
  obtain⟨wn,hwn⟩:∃c,c=A.add pn 1:=⟨_,rfl⟩;have hwn1:wn=pn+1:=by rw[hwn,hA];rfl
  refine OKs.mvE L11 [13] (by rw[hρ];rfl) ⟨by decide,by simp[Bc],fun id hid=>by simp at hid;subst hid;exact⟨_,rfl,by rw[hwc]at hwc2;exact hwc2⟩⟩ (VH [13] (by simp) hLT rfl hmvi _ rfl _) ?_
  refine OKs.up 12 (.isl wn none wc) (by rw[hwc,hwn];exact Up.refl _) ?_
  have hm:=main wn wc (by assumption) hwn1 (by rw[hwc1,hwn1];simp[hpcn]) hwc2
  rw[hpe1]at hm;exact hm
 all_goals
  have hall':BM path [] inD (l.take z.toNat)=BM path [] inD l:=by rw[lT (by omega)]
  rw[hall']at hall hpz;refine fI_ rfl (.inl ⟨hall,rfl,idz,[],by rw[<-hpz];exact hidz,?_⟩)
  rw[<-hpz,<-hcz,<-hiz];rfl
end
section
def rfA:EC->EC
 | .rf _ _ a _=>a
 |_=>.skip
def rfB:EC->EC
 | .rf _ _ _ b=>b
 |_=>.skip
def LAc:EC:=rfA (EK (GN (Er (Dv F26.body 5))))
def LBc:EC:=rfB (EK (GN (Er (Dv F26.body 5))))
def LTc:List EV:=mkT 71 [(1,.ptr 0 0),(2,.ptr 1 0),(5,.ptr 2 0),(6,.ptr 4 0),(45,.fn (.func 63) [] [.ptr 6 0,.ptr 5 0])]
theorem P6:Gt LTc:=fun g z hg=>by
 show (mkT 71 [(1,mvE g z (.ptr 0 0)),(2,mvE g z (.ptr 1 0)),(5,mvE g z (.ptr 2 0)),(6,mvE g z (.ptr 4 0)),(45,mvE g z (.fn (.func 63) [] [.ptr 6 0,.ptr 5 0]))])=_
 simp only[mvE,mvL,hg 0 (by decide),hg 1 (by decide),hg 2 (by decide),hg 4 (by decide),hg 5 (by decide),hg 6 (by decide)]
 rfl
theorem Ze(a b c d e f g h i j k l:EO){ie:List (EV×EV)}(hm:∀g z,mvM g z ie=ie):En [3] [a,b,c,d,e,f,g,h,i,j,k,l] [.emap ie]=[a,b,c,.emap ie,e,f,g,h,i,j,k,l]:=by
 show ([a,b,c,.emap (mvM _ _ ie),e,f,g,h,i,j,k,l]:EH)=_
 rw[hm]
theorem Pn{fn nn:Nat}{fc nc res:List EV}{cnt:Int}{ie:List (EV×EV)}{LT:List EV}{LA LB:EC}{st:Nat}{pd:PD}(hLT:Gt LT)(hres:clL res=true)(hie:∀g z,mvM g z ie=ie)(fb:List EV)(hfb:clL fb=true)(t:EH) :
  mvH L11 [] (H10 fn nn fc nc res cnt ie LT LA LB st pd++(.blk fb::t)) L11=H10 fn nn fc nc res cnt ie LT LA LB st pd++[.blk fb]:=by
 show ([.blk [.isl fn none fc,.isl nn none nc],.blk (mvL _ _ res),.blk [.lit (.int .i64 cnt)],.emap (mvM _ _ ie),.blk [.mp 3],.blk [.isl fn none fc],.blk [.lit (.int .i64 65)],.lp (mvL (mvG L11 []) (mvZ [] _) LT) [46] LA LB st pd,.blk [.yl 7],.blk [.fn (.func 64) [] [.ptr 8 0,.ptr 6 0,.ptr 9 0]],.blk (mvL _ _ fb)]:EH)=_
 rw[hie,hLT _ _ (by decide),BR _ _ _ hres,BR _ _ _ hfb]
 rfl
section
variable {ro:Option Nat} {I0:Imm} {ρ0:Ren} {w0:World} {Q:Exit->Act->World->Prop}
theorem Vk(fn nn wn an kn:Nat)(fc nc wc ac kc:List EV)(nm:ByteArray)(nul inD:Bool)(k w i x:Int)(cnt:Int)(ie:List (EV×EV))(T:List EV)(LA LB:EC)
  (hpost:∀a w',SimX Tryz.prog gs I0 ρ0 w0 ⟨mkT 71 [(1,.ptr 0 0),(2,.ptr 1 0),(5,.ptr 2 0),(6,.ptr 4 0),(7,.ptr 11 0),(45,.fn (.func 63) [] [.ptr 6 0,.ptr 5 0])],H10 fn nn fc nc Dk cnt ie T LA LB 0 none++[.blk [.lit (.string nm),.lit (.bool nul),.lit (.int .i64 k),.lit (.int .i64 w),.lit (.int .i64 i),.lit (.int .i64 x),.isl kn none kc],.blk [.isl wn none wc,.isl an none ac,.lit (.string nm),.lit (.bool nul),.lit (.int .i64 k),.lit (.int .i64 w),.lit (.int .i64 i),.lit (.int .i64 x),.isl kn none kc,.sb inD]]⟩ a w'->Q .normal a w') :
  OKs Tryz.prog gs ro I0 ρ0 w0 Q [.c LAc] ⟨Dm LTc [46] [.agg [.isl wn none wc,.isl an none ac,.lit (.string nm),.lit (.bool nul),.lit (.int .i64 k),.lit (.int .i64 w),.lit (.int .i64 i),.lit (.int .i64 x),.isl kn none kc,.sb inD]],H10 fn nn fc nc Dk cnt ie T LA LB 0 none++[.blk [.lit (.string nm),.lit (.bool nul),.lit (.int .i64 k),.lit (.int .i64 w),.lit (.int .i64 i),.lit (.int .i64 x),.isl kn none kc]]⟩:=by
 obtain⟨A,hA⟩:∃A,A=stdA:=⟨_,rfl⟩
 have hQ:EndsQ Tryz.prog gs I0 ρ0 w0 Q (fun _=>False):=EndsQ.no
 unfold H10
 with_reducible refine Be hA hd hQ 1 ?hk ?_
 case hk=>trivial
 conv=>arg 9;cbv
 try simp only[OK]
 repeat' first|(with_reducible refine OKK.nilS ?_)|((with_reducible refine Bd hA hd hQ 1 ?hk ?_);(case hk=>trivial);(conv=>arg 9;cbv);(try simp only[OK]))
 refine oK_ (msk 71 [1,2,5,6,7,45]) ?_
 exact OKs.nil hpost
theorem UV(ρl:ρ0.length=11)(fn nn wn an kn:Nat)(fc nc wc ac kc:List EV)(nm:ByteArray)(nul inD:Bool)(k w i x:Int)(cnt:Int)(ie:List (EV×EV))(T:List EV)(LA LB:EC)(hLT:Gt T)(hwcl:clL wc=true)(hmvi:∀g z,mvM g z ie=ie)(hmvs:∀g z k v,mvM g z (stdA.mset ie (.lit (.int .i64 k)) (.lit (.int .i64 v)))=stdA.mset ie (.lit (.int .i64 k)) (.lit (.int .i64 v)))
  (hkey:∀k,stdA.keyed 0 ie (.lit (.int .i64 k))=true) (hc1:0<=cnt) (hc2:cnt<=256) (ok:Prop)
  (hw:Tri Tryz.prog gs 43 [.agg [.isl wn none wc,.isl an none ac,.lit (.string nm),.lit (.bool nul),.lit (.int .i64 k),.lit (.int .i64 w),.lit (.int .i64 i),.lit (.int .i64 x),.isl kn none kc,.sb inD],.lit (.int .i64 cnt),.mp 0] [.emap ie] fun v h'=>IsN .i64 (fun n=>n=0↔ok) v/\h'=[.emap ie])
  (hyes:ok->∀a w',SimX Tryz.prog gs I0 ρ0 w0 ⟨LTc,H10 fn nn fc nc Dk (cnt+1) (if k=19 then stdA.mset ie (.lit (.int .i64 i)) (.lit (.int .i64 (cnt+1)))else ie) T LA LB 1 none++[.blk [.lit (.string nm),.lit (.bool nul),.lit (.int .i64 k),.lit (.int .i64 w),.lit (.int .i64 i),.lit (.int .i64 x),.isl kn none kc]]⟩ a w'->Q .normal a w')
  (hno:¬ok->∀e,e≠0->∀a w',SimX Tryz.prog gs I0 ρ0 w0 ⟨LTc,H10 fn nn fc nc (KT e wn wc) cnt ie T LA LB 1 none++[.blk [.lit (.string nm),.lit (.bool nul),.lit (.int .i64 k),.lit (.int .i64 w),.lit (.int .i64 i),.lit (.int .i64 x),.isl kn none kc]]⟩ a w'->Q .ret a w') :
  OKs Tryz.prog gs ro I0 ρ0 w0 Q [.c LBc] ⟨mkT 71 [(1,.ptr 0 0),(2,.ptr 1 0),(5,.ptr 2 0),(6,.ptr 4 0),(7,.ptr 11 0),(45,.fn (.func 63) [] [.ptr 6 0,.ptr 5 0])],H10 fn nn fc nc Dk cnt ie T LA LB 1 none++[.blk [.lit (.string nm),.lit (.bool nul),.lit (.int .i64 k),.lit (.int .i64 w),.lit (.int .i64 i),.lit (.int .i64 x),.isl kn none kc],.blk [.isl wn none wc,.isl an none ac,.lit (.string nm),.lit (.bool nul),.lit (.int .i64 k),.lit (.int .i64 w),.lit (.int .i64 i),.lit (.int .i64 x),.isl kn none kc,.sb inD]]⟩:=by
 obtain⟨A,hA⟩:∃A,A=stdA:=⟨_,rfl⟩
 have hQ:EndsQ Tryz.prog gs I0 ρ0 w0 Q (fun _=>False):=EndsQ.no
 unfold H10
 with_reducible refine Be hA hd hQ 1 ?hk ?_
 case hk=>trivial
 conv=>arg 9;cbv
 try simp only[OK]
 repeat' first|((with_reducible refine Bd hA hd hQ 1 ?hk ?_);(case hk=>trivial);(conv=>arg 9;cbv);(try simp only[OK]))
 refine cO (Bb F43_ok) (tM (Tri.sub [3] [] ⟨by decide,by simp[Bc],by simp⟩ (by simp) (show Tri _ _ _ _ (mvH [3] [] _ [3]) _ from by
  show Tri Tryz.prog gs _ [.agg [.isl wn none wc,.isl an none ac,.lit (.string nm),.lit (.bool nul),.lit (.int .i64 k),.lit (.int .i64 w),.lit (.int .i64 i),.lit (.int .i64 x),.isl kn none kc,.sb inD],.lit (.int .i64 cnt),.mp 0] [.emap (mvM _ _ ie)] _;rw[hmvi];exact hw) (.inl rfl)) fun v hh hx=>?_)
 obtain⟨v0,h0,⟨⟨z,hv0,hz⟩,hh0⟩,hv,hh'⟩:=hx
 subst hv0;subst hh0
 have hh2:=hh'.trans (Ze _ _ _ _ _ _ _ _ _ _ _ _ hmvi)
 clear hh'
 subst hv;subst hh2
 have e1:A.ib .add .i64 cnt 1=cnt+1:=by simp(disch:=omega)only[hA,Ba]
 with_reducible refine Bd hA hd hQ 1 ?hk ?_
 case hk=>trivial
 conv=>arg 9;cbv
 try simp only[OK]
 repeat' first|(with_reducible refine OKK.nilS ?_)|(with_reducible refine OKK.retS ?_)|((with_reducible refine⟨fun hbr=>?_,fun hbr=>?_⟩)<;>(try simp(disch:=omega)only[hA,Ba]at hbr)<;>(try (with_reducible exfalso;omega)))|((with_reducible refine Bd hA hd hQ 1 ?hk ?_);(case hk=>trivial);(conv=>arg 9;cbv);(try simp only[OK]))|((with_reducible refine Bp ?hn ?_);(case hn=>((simp(disch:=omega)only[hA,hkey])<;>omega)))
 ·refine oK_ (msk 71 [1,2,5,6,45]) (OKs.mvE L11 [] (by rw[ρl];rfl) ⟨by decide,by simp[Bc],by simp⟩ (Pn hLT rfl hmvi _ rfl [_]) (OKs.retO ?_))
  exact hno (fun h=>hbr (hz.2 h)) z hbr
 ·refine oK_ (msk 71 [1,2,5,6,45]) (OKs.mvE L11 [] (by rw[ρl];rfl) ⟨by decide,by simp[Bc],by simp⟩ (Pn hLT rfl (fun g z=>by rw[hA];exact hmvs g z _ _) _ rfl [_]) (OKs.nil ?_))
  have:=hyes (hz.1 (by omega))
  rw[if_pos hbr,<-e1,<-hA]at this;exact this
 ·refine oK_ (msk 71 [1,2,5,6,45]) (OKs.mvE L11 [] (by rw[ρl];rfl) ⟨by decide,by simp[Bc],by simp⟩ (Pn hLT rfl hmvi _ rfl [_]) (OKs.nil ?_))
  have:=hyes (hz.1 (by omega))
  rw[if_neg hbr,<-e1]at this;exact this
end
theorem zA1{idm:List (Int×Int)}{prev:List Pl}{p:Pl}{v:Int}(h:GR idm prev):GR (if p.f.kind=19 then E5 idm p.f.id v else idm) (prev++[p]):=fun a=>by
 by_cases hk:p.f.kind=19
 ·rw[if_pos hk,zCV,h a]
  constructor
  ·rintro(⟨o,h1,h2,h3⟩|rfl)
   ·exact⟨o,by simp[h1],h2,h3⟩
   ·exact⟨p,by simp,hk,rfl⟩
  ·rintro⟨o,h1,h2,h3⟩
   rcases List.mem_append.1 h1 with h1|h1
   ·exact .inl ⟨o,h1,h2,h3⟩
   ·rw[List.mem_singleton.1 h1]at h3;exact .inr h3.symm
 ·rw[if_neg hk,h a]
  constructor
  ·rintro⟨o,h1,h2,h3⟩
   exact⟨o,by simp[h1],h2,h3⟩
  ·rintro⟨o,h1,h2,h3⟩
   rcases List.mem_append.1 h1 with h1|h1
   ·exact⟨o,h1,h2,h3⟩
   ·rw[List.mem_singleton.1 h1]at h2;exact absurd h2 hk
theorem WX(fn nn:Nat)(fc nc:List EV):Pw fn nn fc nc LTc LAc LBc:=by
 intro prev idm p rest wn an kn wc ac kc cnt ie hids hprev hpl hwcl hal hok hwn han hac hkn hkc hcnt hie
 have hmvi:∀g z,mvM g z ie=ie:=fun g z=>by rw[hie];exact Eo g z idm
 have hmvs:∀g z k v,mvM g z (stdA.mset ie (.lit (.int .i64 k)) (.lit (.int .i64 v)))=stdA.mset ie (.lit (.int .i64 k)) (.lit (.int .i64 v)):=fun g z k v=>by rw[hie,L9];exact Eo g z _
 have hkey:∀k,stdA.keyed 0 ie (.lit (.int .i64 k))=true:=fun k=>by rw[hie];exact RY idm k
 have hw:=WW p wc rest prev idm hwcl hpl hal hok hprev hids
 rw[Pp,<-hwn,<-han,<-hac,<-hkn,<-hkc,<-hcnt,<-hie]at hw
 have hmore:=zA1 (p:=p) (v:=cnt+1) hids
 have hset:imE (if p.f.kind=19 then E5 idm p.f.id (cnt+1)else idm)=(if p.f.kind=19 then stdA.mset ie (.lit (.int .i64 p.f.id)) (.lit (.int .i64 (cnt+1)))else ie):=by
  by_cases hk:p.f.kind=19
  ·rw[if_pos hk,if_pos hk,hie,L9]
  ·rw[if_neg hk,if_neg hk,hie]
 have hlen:((prev++[p]).length:Int)=cnt+1:=by rw[hcnt];simp
 generalize p.f.nm=nm,p.f.nul=nul,p.f.kind=k,p.f.width=w,p.f.id=i,p.f.idx=x,p.inD=inD at *
 by_cases hk:prev.length<256/\okN prev p
 ·refine TriY.up (Nm (how:=none) (s1:=⟨mkT 71 [(1,.ptr 0 0),(2,.ptr 1 0),(5,.ptr 2 0),(6,.ptr 4 0),(7,.ptr 11 0),(45,.fn (.func 63) [] [.ptr 6 0,.ptr 5 0])],H10 fn nn fc nc Dk cnt ie LTc LAc LBc 0 none++[.blk [.lit (.string nm),.lit (.bool nul),.lit (.int .i64 k),.lit (.int .i64 w),.lit (.int .i64 i),.lit (.int .i64 x),.isl kn none kc],.blk [.isl wn none wc,.isl an none ac,.lit (.string nm),.lit (.bool nul),.lit (.int .i64 k),.lit (.int .i64 w),.lit (.int .i64 i),.lit (.int .i64 x),.isl kn none kc,.sb inD]]⟩)
   (S2:=fun s=>s=⟨LTc,H10 fn nn fc nc Dk (cnt+1) (if k=19 then stdA.mset ie (.lit (.int .i64 i)) (.lit (.int .i64 (cnt+1)))else ie) LTc LAc LBc 1 none++[.blk [.lit (.string nm),.lit (.bool nul),.lit (.int .i64 k),.lit (.int .i64 w),.lit (.int .i64 i),.lit (.int .i64 x),.isl kn none kc]]⟩) rfl rfl
   (fun ro I0 ρ0 w0 Q hl _ hpost=>Vk fn nn wn an kn fc nc wc ac kc nm nul inD k w i x cnt ie LTc LAc LBc hpost) rfl
   (fun ro I0 ρ0 w0 Q hl _ hpost=>UV hl fn nn wn an kn fc nc wc ac kc nm nul inD k w i x cnt ie LTc LAc LBc P6 hwcl hmvi hmvs hkey (by omega) (by omega) _ hw (fun _=>hpost _ rfl) (fun hn=>absurd hk hn))
   (fun s2 hs=>by subst hs;exact⟨_,_,_,_,_,_,rfl⟩)) fun v h' hx=>?_
  obtain⟨hv,s2,t2,ps2,a2,b2,st2,pd2,rfl,hg,hh⟩:=hx;cases hg;refine⟨.sb true,.inl ⟨hk,rfl,_,hmore,?_⟩,by rw[hv];exact Up.sb _⟩
  rw[hset,hlen];exact hh
 ·refine TriY.up (Nm (how:=some none) (s1:=⟨mkT 71 [(1,.ptr 0 0),(2,.ptr 1 0),(5,.ptr 2 0),(6,.ptr 4 0),(7,.ptr 11 0),(45,.fn (.func 63) [] [.ptr 6 0,.ptr 5 0])],H10 fn nn fc nc Dk cnt ie LTc LAc LBc 0 none++[.blk [.lit (.string nm),.lit (.bool nul),.lit (.int .i64 k),.lit (.int .i64 w),.lit (.int .i64 i),.lit (.int .i64 x),.isl kn none kc],.blk [.isl wn none wc,.isl an none ac,.lit (.string nm),.lit (.bool nul),.lit (.int .i64 k),.lit (.int .i64 w),.lit (.int .i64 i),.lit (.int .i64 x),.isl kn none kc,.sb inD]]⟩)
   (S2:=fun s=>∃e:Int,e≠0/\s=⟨LTc,H10 fn nn fc nc (KT e wn wc) cnt ie LTc LAc LBc 1 none++[.blk [.lit (.string nm),.lit (.bool nul),.lit (.int .i64 k),.lit (.int .i64 w),.lit (.int .i64 i),.lit (.int .i64 x),.isl kn none kc]]⟩) rfl rfl
   (fun ro I0 ρ0 w0 Q hl _ hpost=>Vk fn nn wn an kn fc nc wc ac kc nm nul inD k w i x cnt ie LTc LAc LBc hpost) rfl
   (fun ro I0 ρ0 w0 Q hl _ hpost=>UV hl fn nn wn an kn fc nc wc ac kc nm nul inD k w i x cnt ie LTc LAc LBc P6 hwcl hmvi hmvs hkey (by omega) (by omega) _ hw (fun h=>absurd h hk) (fun _ e he=>hpost _ ⟨e,he,rfl⟩))
   (fun s2 ⟨e,he,hs⟩=>by subst hs;exact⟨_,_,_,_,_,_,rfl⟩)) fun v h' hx=>?_
  obtain⟨hv,s2,t2,ps2,a2,b2,st2,pd2,⟨e,he,rfl⟩,hg,hh⟩:=hx;cases hg;refine⟨.sb false,.inr ⟨hk,rfl,e,wn,wc,cnt,idm,he,?_⟩,by rw[hv];exact Up.sb _⟩
  rw[<-hie];exact hh
end
theorem zAk(n:Nat)(c:List EV)(h:EH):Tri Tryz.prog gs 42 [.isl n none c,.lit (.int .i64 65)] h fun v h'=>v = .fn (.func 63) [] [.ptr (Bc h+1) 0,.ptr (Bc h) 0]/\h'=B0 (B0 h (.blk [.isl n none c])) (.blk [.lit (.int .i64 65)]):=by
 have t:Tri Tryz.prog gs 42 [.isl n none c,.lit (.int .i64 65)] [] fun v h'=>v = .fn (.func 63) [] [.ptr 1 0,.ptr 0 0]/\h'=[.blk [.isl n none c],.blk [.lit (.int .i64 65)]]:=by
  refine Bj F42_ok fun I0 ρ0 w0 Q hρ hQ=>?_
  obtain⟨A,hA⟩:∃A,A=stdA:=⟨_,rfl⟩
  with_reducible refine Be hA hd hQ 200 ?hk ?_
  case hk=>trivial
  conv=>arg 9;cbv
  try simp only[OK]
  exact fI_ rfl ⟨rfl,rfl⟩
 refine(Tri.frame (h:=h) (R:=fun v h'=>v = .fn (.func 63) [] [.ptr 1 0,.ptr 0 0]/\h'=[.blk [.isl n none c],.blk [.lit (.int .i64 65)]]) [] (by simp) t (.inl rfl)).mono fun v h' ⟨v0,h0,⟨e1,e2⟩,e3,e4⟩=>?_
 subst e1;subst e2;subst e3;subst e4
 exact⟨rfl,rfl⟩
def H8(fn nn:Nat)(fc nc res:List EV)(cnt:Int)(ie:List (EV×EV))(LT:List EV)(LA LB:EC):EH:=
 [.blk [.isl fn none fc,.isl nn none nc],.blk res,.blk [.lit (.int .i64 cnt)],.emap ie,.blk [.mp 3],.blk [.isl fn none fc],.blk [.lit (.int .i64 65)],.lp LT [46] LA LB 0 none]
theorem zBN(fs:List Fld)(fn nn:Nat)(fc nc:List EV)(LT:List EV)(LA LB:EC)(hLT:Gt LT)(hround:Pw fn nn fc nc LT LA LB)(hok:Gg fs)(hfs:fs.length<=140737488351232)(hfn:fn=fs.length)(hfc:fc=Bl fs) :
  Tri Tryz.prog gs 63 [.yl 7,.ptr 6 0,.ptr 5 0] (H8 fn nn fc nc Dk 0 [] LT LA LB) fun v h'=>∃b,JO fn nn fc nc LT LA LB (Ce [] (BM [] [] false fs)) (BM [] [] false fs) [] (.sb b) h':=by
 refine Bj F63_ok fun I0 ρ0 w0 Q hρ hQ=>?_
 obtain⟨A,hA⟩:∃A,A=stdA:=⟨_,rfl⟩
 unfold H8
 with_reducible refine Be hA hd hQ 1 ?hk ?_
 case hk=>trivial
 conv=>arg 9;cbv
 try simp only[OK]
 repeat' first|((with_reducible refine Bd hA hd hQ 1 ?hk ?_);(case hk=>trivial);(conv=>arg 9;cbv);(try simp only[OK]))
 have t:=zAj fn nn fc nc LT LA LB hLT hround 65 fs [] (.lit (.slice none 0 0)) [] false [] [] fn fc 0 [] (by simp) (by simp) rfl rfl rfl hok hfs (fun a=>by simp) (by simp) hfn hfc rfl rfl
 have t2:=Tri.args (args:=[.lit (.slice none 0 0),.isl fn none fc,.lit (.bool false),.ptr 8 0,.ptr 6 0,.ptr 9 0]) t (UpL.cons (Up.refl _) (UpL.cons (Up.refl _) (UpL.cons (Up.sb _) (UpL.cons (Up.refl _) (UpL.cons (Up.refl _) (UpL.cons (Up.refl _) UpL.nil))))))
 refine cO (Bb F64_ok) (tM t2 fun v hh hx=>?_)
 have hb:∃b,v = .sb b:=hx.elim (fun h=>⟨_,h.2.1⟩) fun h=>⟨_,h.2.1⟩
 obtain⟨b,rfl⟩:=hb
 rw[lN]at hx
 exact OKs.nil fun a w hs=>(hQ ⟨_,hh⟩ (fI_ rfl ⟨b,hx⟩) a w hs).1
theorem Zz(fs:List Fld)(ns:List Nt)(hfs:fs.length<=140737488351232)(hns:ns.length<=140737488351232)(hok:Gg fs)(hnt:∀x∈ns,x.1.size<=140737488351232/\x.2.size<=140737488351232)(h:EH) :
  Tri Tryz.prog gs 26 [.agg [.isl fs.length none (Bl fs),.isl ns.length none (Im ns)]] h fun v h'=>IsF (Si fs ns) v/\h'=h:=by
 refine Tri.faultC rfl (Bj F26_ok fun I0 ρ0 w0 Q hρ hQ=>?_) h
 obtain⟨A,hA⟩:∃A,A=stdA:=⟨_,rfl⟩
 have hng:=Uy ns
 obtain⟨fn,hfn⟩:∃n,n=fs.length:=⟨_,rfl⟩
 obtain⟨fc,hfc⟩:∃n,n=Bl fs:=⟨_,rfl⟩
 obtain⟨nn,hnn⟩:∃n,n=ns.length:=⟨_,rfl⟩
 obtain⟨nc,hnc⟩:∃n,n=Im ns:=⟨_,rfl⟩
 rw[<-hfn,<-hfc,<-hnn,<-hnc]
 with_reducible refine Be hA hd hQ 200 ?hk ?_
 case hk=>trivial
 conv=>arg 9;cbv
 try simp only[OK]
 repeat' first|(with_reducible refine OKK.loop ?_)|((with_reducible refine⟨fun hbr=>?_,fun hbr=>?_⟩)<;>(try simp(disch:=omega)only[hA,Ba]at hbr)<;>(try (with_reducible exfalso;omega)))|((with_reducible refine Bd hA hd hQ 200 ?hk ?_);(case hk=>trivial);(conv=>arg 9;cbv);(try simp only[OK]))
 all_goals try ((with_reducible refine FinR.self ?_);refine FinR.f rfl (Up.nil []) ⟨fun h=>absurd h (by decide),fun h=>by have h1:=h.1;have h2:=h.2.1;simp(disch:=omega)only[hA]at *;omega⟩)
 refine oK_ (msk 71 [1,2,22,23,24]) ?_
 refine oL_ (fun n st=>∃z:Int,st=⟨mkT 71 [(1,.ptr 0 0),(2,.ptr 1 0),(22,.isl nn none nc),(23,.lit (.int .i64 (A.ofn nn))),(24,.lit (.int .i64 z))],[.blk [.isl fn none fc,.isl nn none nc],.blk [.lit (.int .i64 0),.lit (.slice none 0 0),.lit (.int .i64 0)]]⟩/\n=(nn-z).toNat/\0<=z/\z<=nn/\∀j,j<z.toNat->ntP (ns.getD j nt0)) (fun n st hs' ih=>?_) ⟨0,rfl,rfl,by omega,by omega,fun j hj=>absurd hj (by simp)⟩
 obtain⟨z,rfl,hn,hz1,hz2,hz3⟩:=hs'
 obtain⟨x,hx⟩:∃x,x=ns.getD z.toNat nt0:=⟨_,rfl⟩
 have hL:z<nn->List.take 2 (List.drop (A.idx 0 z 2) nc)=JU x:=fun hz=>by rw[hA,B3,Nat.zero_add,hnc,hng z.toNat (by omega),<-hx]
 have hxm:z<nn->x∈ns:=fun hz=>by rw[hx,lG,lE (by omega)];exact List.getElem_mem _
 have hxs:z<nn->x.1.size<=140737488351232/\x.2.size<=140737488351232:=fun hz=>hnt x (hxm hz)
 have hst:=PW (p:=fun j=>ntP (ns.getD j nt0)) hz1 hz3
 simp only[<-hx]at hst
 obtain⟨key,text⟩:=x
 simp only[JU]at hL hxs
 with_reducible refine Be hA hd hQ 1 ?hk ?_
 case hk=>trivial
 conv=>arg 9;cbv
 try simp only[OK]
 repeat' first|(with_reducible refine OKK.again ?_)|((with_reducible refine⟨fun hbr=>?_,fun hbr=>?_⟩)<;>(try simp(disch:=omega)only[hA,Ba]at hbr)<;>(try (with_reducible exfalso;omega)))|((with_reducible refine Bd hA hd hQ 1 ?hk ?_);(case hk=>trivial);(conv=>arg 9;cbv);(try simp only[OK]))|((with_reducible refine Bp ?hn ?_);(case hn=>((simp(disch:=omega)only[hA,Ba])<;>omega)))|((refine⟨_,_,?l1,(hL (by omega)),rfl,?_⟩);(case l1=>exact rfl))
 all_goals try ((with_reducible refine FinR.self ?_);refine FinR.f rfl (Up.nil []) ⟨fun h=>absurd h (by decide),fun h=>by have h1:=h.2.2.1 _ (hxm (by omega));have h2:=h1.1;have h3:=h1.2;simp only at h2 h3;omega⟩)
 ·refine oK_ (msk 71 [1,2,22,23,24]) (OKs.mv [0,1] [] (by rw[hρ];rfl) ⟨by decide,by simp[Bc],by simp⟩ (ih _ _ ⟨_,rfl,rfl,?_,?_,?_⟩ ?_))
  all_goals simp(disch:=omega)only[hA,Ba]
  all_goals first
   |omega
   |exact hst ⟨by simp only;omega,by simp only;omega⟩
 have hnall:∀x∈ns,ntP x:=zA0 (by omega) hz3
 clear hst hxs hxm hx hL
 refine cO (Bb F42_ok) (tM (zAk fn fc _) fun v hh hx=>?_)
 obtain⟨e1,e2⟩:=hx
 subst e1;subst e2
 with_reducible refine Bd hA hd hQ 1 ?hk ?_
 case hk=>trivial
 conv=>arg 9;cbv
 try simp only[OK]
 repeat' first|(with_reducible refine OKK.rfS ?_)|((with_reducible refine Bd hA hd hQ 1 ?hk ?_);(case hk=>trivial);(conv=>arg 9;cbv);(try simp only[OK]))
 refine oK_ (msk 71 [1,2,5,6,45]) ?_
 have t:=zBN fs fn nn fc nc LTc LAc LBc P6 (WX fn nn fc nc) hok hfs hfn hfc
 refine OKs.rf (gf:=63) (av:=[]) (bv:=[.ptr 6 0,.ptr 5 0]) rfl (Bb F63_ok) t fun v h' hx=>?_
 obtain⟨b,⟨hmay,_,idm,_,rfl⟩|⟨hno,_,e,pn,pc,cnt,idm,he,rfl⟩⟩:=hx
 ·obtain⟨ie,hie⟩:∃e,e=imE idm:=⟨_,rfl⟩
  obtain⟨cz,hcz⟩:∃e:Int,e=(BM [] [] false fs).length:=⟨_,rfl⟩;rw[<-hie,<-hcz];obtain⟨T,hT⟩:∃e,e=LTc:=⟨_,rfl⟩;refine⟨_,_,_,_,_,_,rfl,by decide,?_⟩
  show OKs Tryz.prog gs none I0 ρ0 w0 Q _ ⟨LTc,[.blk [.isl fn none fc,.isl nn none nc],.blk Dk,.blk [.lit (.int .i64 cz)],.emap ie,.blk [.mp 3],.blk [.isl fn none fc],.blk [.lit (.int .i64 65)],.dead,.blk [.yl 7],.blk [.fn (.func 64) [] [.ptr 8 0,.ptr 6 0,.ptr 9 0]]]⟩
  with_reducible refine Be hA hd hQ 200 ?hk ?_
  case hk=>trivial
  conv=>arg 9;cbv
  try simp only[OK]
  exact FinR.f rfl (Up.nil []) ⟨fun _=>⟨by omega,by omega,hnall,hmay⟩,fun _=>rfl⟩
 ·refine⟨_,_,_,_,_,_,rfl,by decide,fun a w hs=>(hQ _ (FinR.f rfl (Up.refl _) ⟨fun h=>absurd h he,fun h=>absurd h.2.2.2 hno⟩) a w hs).2⟩
theorem Up.agg2{a b a' b':EV}(h1:Up a a')(h2:Up b b'):Up (.agg [a,b]) (.agg [a',b']):=fun w I ρ cv hr=>by
 cases hr with
 |agg _ c vs hl hc=>
  refine .agg _ _ _ (by simpa using hl) fun j e v he hv=>?_
  match j,he with
  |0,he=>simp at he;subst he;exact h1 _ _ _ _ (hc 0 _ v rfl hv)
  |1,he=>simp at he;subst he;exact h2 _ _ _ _ (hc 1 _ v rfl hv)
def B7(f:Fld):Prop:=Si [f] []
theorem Kj(f:Fld)(hok:okF f)(h:EH):Tri Tryz.prog gs 10 [.agg (Bo f)] h fun v h'=>IsF (B7 f) v/\h'=h:=by
 have hc:=Zz [f] [] (by simp) (by simp) ⟨hok,trivial⟩ (by simp)
 simp only[Bl,Im,List.append_nil,List.length_singleton,List.length_nil]at hc
 rw[BF]at hc ⊢
 generalize Bl f.kids=kc,f.kids.length=kn,f.nm=nm,f.nul=nul,f.kind=k,f.width=w,f.id=i,f.idx=x at hc ⊢
 refine Tri.faultC rfl (Bj F10_ok fun I0 ρ0 w0 Q hρ hQ=>?_) h
 obtain⟨A,hA⟩:∃A,A=stdA:=⟨_,rfl⟩
 with_reducible refine Be hA hd hQ 200 ?hk ?_
 case hk=>trivial
 conv=>arg 9;cbv
 try simp only[OK]
 refine cO (Bb F26_ok) (tM (Tri.freeze 3 rfl [2] ⟨by decide,by simp[Bc],fun id hid=>by simp at hid;subst hid;exact⟨_,rfl,rfl⟩⟩ (Tri.args (hc _) (UpL.cons (Up.agg2 (Up.cap _ _ _) (Up.nil _)) UpL.nil))) fun v hh hx=>?_)
 obtain⟨⟨e,at',pn,pc,hv,he⟩,hh'⟩:=hx
 subst hv
 have hh2:hh=[.blk [.lit (.string nm),.lit (.bool nul),.lit (.int .i64 k),.lit (.int .i64 w),.lit (.int .i64 i),.lit (.int .i64 x),.isl kn none kc],.blk [.lit (.int .i64 0),.lit (.slice none 0 0),.lit (.int .i64 0)],.dead]:=hh'
 subst hh2
 with_reducible refine Bd hA hd hQ 1 ?hk ?_
 case hk=>trivial
 conv=>arg 9;cbv
 try simp only[OK]
 repeat' first|((with_reducible refine⟨fun hbr=>?_,fun hbr=>?_⟩)<;>(try simp(disch:=omega)only[hA,Ba]at hbr)<;>(try (with_reducible exfalso;omega)))|((with_reducible refine Bd hA hd hQ 200 ?hk ?_);(case hk=>trivial);(conv=>arg 9;cbv);(try simp only[OK]))|((with_reducible refine Bp ?hn ?_);(case hn=>((simp(disch:=omega)only[hA,Ba])<;>omega)))
 all_goals exact FinR.f rfl (Up.refl _) he
mutual
def CJ:Fld->Prop
 | .mk nm nul k w i x kids=>HU nm/\Cl k w i x kids.length/\I5 nul k kids/\Jn kids
def Jn:List Fld->Prop
 |[]=>True
 |f::l=>CJ f/\Jn l
end
mutual
theorem UB:∀(f:Fld) (path:List Nat) (ahead:List Fld) (inD:Bool) (prev:List Pl),path.length<=64->Ce prev (Cq path ahead inD f)->CJ f
 | .mk nm nul k w i x kids,path,ahead,inD,prev,hp,h=>by
  rw[Cq,Ce]at h;obtain⟨_,h2,h3⟩:=h;obtain⟨o1,o2,_,o4,o5,_⟩:=h2;simp only[List.length_append,List.length_singleton]at o1;rw[if_pos (by omega)]at h3
  exact⟨o2,o4,o5,Wt kids _ [] _ _ (by simp;omega) h3⟩
theorem Wt:∀(l:List Fld) (path:List Nat) (ahead:List Fld) (inD:Bool) (prev:List Pl),path.length<=64->Ce prev (BM path ahead inD l)->Jn l
 |[],_,_,_,_,_,_=>trivial
 |f::l,path,ahead,inD,prev,hp,h=>by
  rw[BM,Gh]at h;exact⟨UB f path ahead inD prev hp h.1,Wt l path _ inD _ hp h.2⟩
end
theorem Ei{f:Fld}(h:B7 f):CJ f:=by
 have:=h.2.2.2
 rw[BM,BM,List.append_nil]at this
 exact UB f [] [] false [] (by simp) this
inductive Core:Fld->Fld->Prop
 |here (f:Fld):¬(f.kind=19\/f.kind=20)->Core f f
 |down (f c g:Fld):(f.kind=19\/f.kind=20)->f.kids=[c]->Core c g->Core f g
theorem Core.det{f g g':Fld}(h:Core f g)(h':Core f g'):g=g':=by
 induction h with
 |here f hn=>cases h' with
  |here=>rfl
  |down _ _ _ hk=>exact absurd hk hn
 |down f c g hk hc _ ih=>cases h' with
  |here _ hn=>exact absurd hk hn
  |down _ c' _ _ hc' hg=>rw[hc]at hc';cases hc';exact ih hg
theorem zCJ{k w i x:Int}{kids:List Fld}(hf:Cl k w i x kids.length)(hk:k=19\/k=20):∃c,kids=[c]:=by
 obtain⟨_,_,h⟩:=hf
 have:kids.length=1:=by
  rcases hk with rfl|rfl<;>simp at h<;>omega
 match kids,this with
 |[c],_=>exact⟨c,rfl⟩
theorem Sg:∀(n:Nat) (f:Fld),SizeOf.sizeOf f<=n->CJ f->∃g,Core f g/\CJ g/\¬(g.kind=19\/g.kind=20):=by
 intro n
 induction n with
 |zero=>intro f h;cases f;simp at h
 |succ n ih=>
  rintro⟨nm,nul,k,w,i,x,kids⟩ hs h
  by_cases hk:k=19\/k=20
  ·obtain⟨c,rfl⟩:=zCJ h.2.1 hk
   obtain⟨g,h1,h2,h3⟩:=ih c (by simp at hs;omega) h.2.2.2.1
   exact⟨g,.down _ c g hk rfl h1,h2,h3⟩
  ·exact⟨_,.here _ hk,h,hk⟩
def PlainV(g:Fld)(v:EV):Prop:=∃(nm:ByteArray) (nul:Bool),v = .agg [.lit (.string nm),.lit (.bool nul),.lit (.int .i64 g.kind),.lit (.int .i64 g.width),.lit (.int .i64 g.id),.lit (.int .i64 g.idx),.isl g.kids.length none (Bl g.kids)]
theorem PlainV.cl{g:Fld}{v:EV}(h:PlainV g v):clE v=true:=by obtain⟨a,b,rfl⟩:=h;rfl
theorem N4(f g:Fld)(hall:CJ f)(hcore:Core f g)(h:EH):Tri Tryz.prog gs 12 [.agg (Bo f)] h fun v h'=>PlainV g v/\h'=h:=by
 have t:Tri Tryz.prog gs 12 [.agg (Bo f)] [] fun v _=>PlainV g v:=by
  refine Bj F12_ok fun I0 ρ0 w0 Q hρ hQ=>?_
  obtain⟨A,hA⟩:∃A,A=stdA:=⟨_,rfl⟩;rw[BF];have hcl:=f;obtain⟨fk,hfk⟩:∃c,c=Bl f.kids:=⟨_,rfl⟩;obtain⟨fn,hfn⟩:∃c,c=f.kids.length:=⟨_,rfl⟩;rw[<-hfk,<-hfn];obtain⟨fm,hfm⟩:∃c,c=f.nm:=⟨_,rfl⟩;obtain⟨fu,hfu⟩:∃c,c=f.nul:=⟨_,rfl⟩;obtain⟨k0,hk0⟩:∃c,c=f.kind:=⟨_,rfl⟩;obtain⟨w0',hw0⟩:∃c,c=f.width:=⟨_,rfl⟩;obtain⟨i0,hi0⟩:∃c,c=f.id:=⟨_,rfl⟩;obtain⟨x0,hx0⟩:∃c,c=f.idx:=⟨_,rfl⟩;rw[<-hfm,<-hfu,<-hk0,<-hw0,<-hi0,<-hx0]
  with_reducible refine Be hA hd hQ 200 ?hk ?_
  case hk=>trivial
  conv=>arg 9;cbv
  try simp only[OK]
  repeat' first|(with_reducible refine OKK.loop ?_)
  refine oK_ (msk 31 [1,2]) ?_
  refine oL_ (fun n st=>∃(c:Fld) (nm:ByteArray) (nul:Bool) (k w i x:Int) (kn:Nat) (kc:List EV),st=⟨mkT 31 [(1,.ptr 0 0),(2,.ptr 1 0)],[.blk [.lit (.string nm),.lit (.bool nul),.lit (.int .i64 k),.lit (.int .i64 w),.lit (.int .i64 i),.lit (.int .i64 x),.isl kn none kc],.blk [.lit (.string ⟨#[]⟩),.lit (.bool false),.lit (.int .i64 0),.lit (.int .i64 0),.lit (.int .i64 0),.lit (.int .i64 0),.lit (.slice none 0 0)]]⟩/\n=SizeOf.sizeOf c/\Core c g/\CJ c/\k=c.kind/\w=c.width/\i=c.id/\x=c.idx/\kn=c.kids.length/\kc=Bl c.kids) (fun n st hs' ih=>?_)
   ⟨f,_,_,_,_,_,_,_,_,rfl,rfl,hcore,hall,hk0,hw0,hi0,hx0,hfn,hfk⟩
  obtain⟨c,nm,nul,k,w,i,x,kn,kc,rfl,hnn,hco,hal,hk,hw,hi,hx,hkn,hkc⟩:=hs';cases hco with
  |here _ hn=>
   rw[<-hk]at hn
   with_reducible refine Be hA hd hQ 200 ?hk ?_
   case hk=>trivial
   conv=>arg 9;cbv
   try simp only[OK]
   repeat' first|((with_reducible refine⟨fun hbr=>?_,fun hbr=>?_⟩)<;>(try simp(disch:=omega)only[hA,Ba]at hbr)<;>(try (with_reducible exfalso;omega)))|((with_reducible refine Bd hA hd hQ 200 ?hk ?_);(case hk=>trivial);(conv=>arg 9;cbv);(try simp only[OK]))
   exact fI_ rfl ⟨nm,nul,by rw[<-hk,<-hw,<-hi,<-hx,<-hkn,<-hkc]⟩
  |down _ d _ h19 hkid hcd=>
   have hsz:SizeOf.sizeOf d<SizeOf.sizeOf c:=by
    obtain⟨a1,a2,a3,a4,a5,a6,a7⟩:=c;simp only[G5]at hkid;subst hkid;simp;omega
   have hald:CJ d:=by
    obtain⟨a1,a2,a3,a4,a5,a6,a7⟩:=c;simp only[G5]at hkid;subst hkid;exact hal.2.2.2.1
   rw[<-hk]at h19;have hkn1:kn=1:=by rw[hkn,hkid];rfl
   have hL:List.take 7 (List.drop (A.idx 0 0 7) kc)=Bo d:=by rw[hA,hkc,hkid];simp only[B3,Int.reduceToNat,Nat.zero_mul,Nat.zero_add,List.drop_zero,Bl,List.append_nil];rw[lT (by rw[G1];omega)]
   rw[BF]at hL;obtain⟨dn,hdn⟩:∃c,c=d.kids.length:=⟨_,rfl⟩;obtain⟨dc,hdc⟩:∃c,c=Bl d.kids:=⟨_,rfl⟩;obtain⟨dm,hdm⟩:∃c,c=d.nm:=⟨_,rfl⟩;obtain⟨du,hdu⟩:∃c,c=d.nul:=⟨_,rfl⟩;obtain⟨dk,hdk⟩:∃c,c=d.kind:=⟨_,rfl⟩;obtain⟨dw,hdw⟩:∃c,c=d.width:=⟨_,rfl⟩;obtain⟨di,hdi⟩:∃c,c=d.id:=⟨_,rfl⟩;obtain⟨dx,hdx⟩:∃c,c=d.idx:=⟨_,rfl⟩;rw[<-hdn,<-hdc,<-hdm,<-hdu,<-hdk,<-hdw,<-hdi,<-hdx]at hL
   with_reducible refine Be hA hd hQ 200 ?hk ?_
   case hk=>trivial
   conv=>arg 9;cbv
   try simp only[OK]
   repeat' first|(with_reducible refine OKK.again ?_)|((with_reducible refine⟨fun hbr=>?_,fun hbr=>?_⟩)<;>(try simp(disch:=omega)only[hA,Ba]at hbr)<;>(try (with_reducible exfalso;omega)))|((with_reducible refine Bd hA hd hQ 200 ?hk ?_);(case hk=>trivial);(conv=>arg 9;cbv);(try simp only[OK]))|((with_reducible refine Bp ?hn ?_);(case hn=>((simp(disch:=omega)only[hA,Ba])<;>omega)))|((refine⟨_,_,?l1,hL,rfl,?_⟩);(case l1=>exact rfl))
   all_goals exact oK_ (msk 31 [1,2]) (OKs.mv [0,1] [] (by rw[hρ];rfl) ⟨by decide,by simp[Bc],by simp⟩ (ih _ _ ⟨d,_,_,dk,dw,di,dx,dn,dc,rfl,rfl,hcd,hald,hdk,hdw,hdi,hdx,hdn,hdc⟩ (by rw[hnn];exact hsz)))
 exact Tri.litC (fun v hv=>hv.cl) (by rw[BF];rfl) t h
theorem zDj(f g:Fld)(hall:CJ f)(hcore:Core f g)(h:EH):Tri Tryz.prog gs 24 [.agg (Bo f)] h fun v h'=>PlainV g v/\h'=h:=by
 have t:Tri Tryz.prog gs 24 [.agg (Bo f)] [] fun v _=>PlainV g v:=by
  refine Bj F24_ok fun I0 ρ0 w0 Q hρ hQ=>?_
  obtain⟨A,hA⟩:∃A,A=stdA:=⟨_,rfl⟩;rw[BF];have hcl:=f;obtain⟨fk,hfk⟩:∃c,c=Bl f.kids:=⟨_,rfl⟩;obtain⟨fn,hfn⟩:∃c,c=f.kids.length:=⟨_,rfl⟩;rw[<-hfk,<-hfn];obtain⟨fm,hfm⟩:∃c,c=f.nm:=⟨_,rfl⟩;obtain⟨fu,hfu⟩:∃c,c=f.nul:=⟨_,rfl⟩;obtain⟨k0,hk0⟩:∃c,c=f.kind:=⟨_,rfl⟩;obtain⟨w0',hw0⟩:∃c,c=f.width:=⟨_,rfl⟩;obtain⟨i0,hi0⟩:∃c,c=f.id:=⟨_,rfl⟩;obtain⟨x0,hx0⟩:∃c,c=f.idx:=⟨_,rfl⟩;rw[<-hfm,<-hfu,<-hk0,<-hw0,<-hi0,<-hx0]
  with_reducible refine Be hA hd hQ 200 ?hk ?_
  case hk=>trivial
  conv=>arg 9;cbv
  try simp only[OK]
  repeat' first|(with_reducible refine OKK.loop ?_)
  refine oK_ (msk 43 [1,2]) ?_
  refine oL_ (fun n st=>∃(c:Fld) (nm:ByteArray) (nul:Bool) (k w i x:Int) (kn:Nat) (kc:List EV),st=⟨mkT 43 [(1,.ptr 0 0),(2,.ptr 1 0)],[.blk [.lit (.string nm),.lit (.bool nul),.lit (.int .i64 k),.lit (.int .i64 w),.lit (.int .i64 i),.lit (.int .i64 x),.isl kn none kc],.blk [.lit (.string ⟨#[]⟩),.lit (.bool false),.lit (.int .i64 0),.lit (.int .i64 0),.lit (.int .i64 0),.lit (.int .i64 0),.lit (.slice none 0 0)]]⟩/\n=SizeOf.sizeOf c/\Core c g/\CJ c/\k=c.kind/\w=c.width/\i=c.id/\x=c.idx/\kn=c.kids.length/\kc=Bl c.kids) (fun n st hs' ih=>?_)
   ⟨f,_,_,_,_,_,_,_,_,rfl,rfl,hcore,hall,hk0,hw0,hi0,hx0,hfn,hfk⟩
  obtain⟨c,nm,nul,k,w,i,x,kn,kc,rfl,hnn,hco,hal,hk,hw,hi,hx,hkn,hkc⟩:=hs';cases hco with
  |here _ hn=>
   rw[<-hk]at hn
   with_reducible refine Be hA hd hQ 200 ?hk ?_
   case hk=>trivial
   conv=>arg 9;cbv
   try simp only[OK]
   repeat' first|((with_reducible refine⟨fun hbr=>?_,fun hbr=>?_⟩)<;>(try simp(disch:=omega)only[hA,Ba]at hbr)<;>(try (with_reducible exfalso;omega)))|((with_reducible refine Bd hA hd hQ 200 ?hk ?_);(case hk=>trivial);(conv=>arg 9;cbv);(try simp only[OK]))
   exact fI_ rfl ⟨nm,nul,by rw[<-hk,<-hw,<-hi,<-hx,<-hkn,<-hkc]⟩
  |down _ d _ h19 hkid hcd=>
   have hsz:SizeOf.sizeOf d<SizeOf.sizeOf c:=by
    obtain⟨a1,a2,a3,a4,a5,a6,a7⟩:=c;simp only[G5]at hkid;subst hkid;simp;omega
   have hald:CJ d:=by
    obtain⟨a1,a2,a3,a4,a5,a6,a7⟩:=c;simp only[G5]at hkid;subst hkid;exact hal.2.2.2.1
   rw[<-hk]at h19;have hkn1:kn=1:=by rw[hkn,hkid];rfl
   have hL:List.take 7 (List.drop (A.idx 0 0 7) kc)=Bo d:=by rw[hA,hkc,hkid];simp only[B3,Int.reduceToNat,Nat.zero_mul,Nat.zero_add,List.drop_zero,Bl,List.append_nil];rw[lT (by rw[G1];omega)]
   rw[BF]at hL;obtain⟨dn,hdn⟩:∃c,c=d.kids.length:=⟨_,rfl⟩;obtain⟨dc,hdc⟩:∃c,c=Bl d.kids:=⟨_,rfl⟩;obtain⟨dm,hdm⟩:∃c,c=d.nm:=⟨_,rfl⟩;obtain⟨du,hdu⟩:∃c,c=d.nul:=⟨_,rfl⟩;obtain⟨dk,hdk⟩:∃c,c=d.kind:=⟨_,rfl⟩;obtain⟨dw,hdw⟩:∃c,c=d.width:=⟨_,rfl⟩;obtain⟨di,hdi⟩:∃c,c=d.id:=⟨_,rfl⟩;obtain⟨dx,hdx⟩:∃c,c=d.idx:=⟨_,rfl⟩;rw[<-hdn,<-hdc,<-hdm,<-hdu,<-hdk,<-hdw,<-hdi,<-hdx]at hL
   with_reducible refine Be hA hd hQ 200 ?hk ?_
   case hk=>trivial
   conv=>arg 9;cbv
   try simp only[OK]
   repeat' first|(with_reducible refine OKK.again ?_)|((with_reducible refine⟨fun hbr=>?_,fun hbr=>?_⟩)<;>(try simp(disch:=omega)only[hA,Ba]at hbr)<;>(try (with_reducible exfalso;omega)))|((with_reducible refine Bd hA hd hQ 200 ?hk ?_);(case hk=>trivial);(conv=>arg 9;cbv);(try simp only[OK]))|((with_reducible refine Bp ?hn ?_);(case hn=>((simp(disch:=omega)only[hA,Ba])<;>omega)))|((refine⟨_,_,?l1,hL,rfl,?_⟩);(case l1=>exact rfl))
   all_goals exact oK_ (msk 43 [1,2]) (OKs.mv [0,1] [] (by rw[hρ];rfl) ⟨by decide,by simp[Bc],by simp⟩ (ih _ _ ⟨d,_,_,dk,dw,di,dx,dn,dc,rfl,rfl,hcd,hald,hdk,hdw,hdi,hdx,hdn,hdc⟩ (by rw[hnn];exact hsz)))
 exact Tri.litC (fun v hv=>hv.cl) (by rw[BF];rfl) t h
def WkP(p p':Pl):Prop:=p'.path.length<=p.path.length/\(p'.inD=true->p.inD=true)/\p'.ahead=p.ahead/\p'.f=p.f
def Wk:List Pl->List Pl->Prop
 |[],l=>l=[]
 |p::l,[]=>False
 |p::l,p'::l'=>WkP p p'/\Wk l l'
theorem Wk.app:∀{a b c e:List Pl},Wk a b->Wk c e->Wk (a++c) (b++e)
 |[],b,c,e,h,k=>by rw[Wk]at h;subst h;exact k
 |p::a,[],c,e,h,k=>h.elim
 |p::a,q::b,c,e,h,k=>⟨h.1,Wk.app h.2 k⟩
theorem Yj{prev prev':List Pl}{p p':Pl}(h:WkP p p')(hs:∀o∈prev',∃o2∈prev,o2.f.kind=o.f.kind/\o2.f.id=o.f.id)(k:okN prev p):okN prev' p':=by
 obtain⟨h1,h2,h3,h4⟩:=h
 obtain⟨k1,k2,k3,k4,k5,k6,k7⟩:=k
 unfold okN
 rw[h3,h4]
 refine⟨by omega,k2,k3,k4,k5,fun⟨a,b⟩=>k6 ⟨h2 a,b⟩,fun⟨a,b⟩=>k7 ⟨a,?_⟩⟩
 rcases b with b|⟨o,b1,b2,b3⟩
 ·exact .inl b
 ·obtain⟨o2,c1,c2,c3⟩:=hs o b1
  exact .inr ⟨o2,c1,by rw[c2];exact b2,by rw[c3];exact b3⟩
theorem Sy:∀{l l' prev prev':List Pl},Wk l l'->prev'.length<=prev.length->(∀o∈prev',∃o2∈prev,o2.f.kind=o.f.kind/\o2.f.id=o.f.id)->Ce prev l->Ce prev' l'
 |[],l',prev,prev',h,hl,hs,k=>by rw[Wk]at h;subst h;trivial
 |p::l,[],prev,prev',h,hl,hs,k=>h.elim
 |p::l,p'::l',prev,prev',h,hl,hs,k=>by
  obtain⟨h1,h2⟩:=h;obtain⟨k1,k2,k3⟩:=k;refine⟨by omega,Yj h1 hs k2,Sy h2 (by simp;omega) (fun o ho=>?_) k3⟩
  rcases List.mem_append.1 ho with ho|ho
  ·obtain⟨o2,c1,c2⟩:=hs o ho
   exact⟨o2,by simp[c1],c2⟩
  ·simp at ho;subst ho
   exact⟨p,by simp,by rw[h1.2.2.2],by rw[h1.2.2.2]⟩
mutual
theorem Zn:∀(f:Fld) (path path':List Nat) (ahead:List Fld) (inD inD':Bool) (prev:List Pl),path'.length<=path.length->(inD'=true->inD=true)->Ce prev (Cq path ahead inD f)->Wk (Cq path ahead inD f) (Cq path' ahead inD' f)
 | .mk nm nul k w i x kids,path,path',ahead,inD,inD',prev,hp,hD,h=>by
  rw[Cq,Ce]at h;obtain⟨_,⟨o1,_⟩,h3⟩:=h;simp only[List.length_append,List.length_singleton]at o1;rw[if_pos (by omega)]at h3
  rw[Cq,Cq,if_pos (by omega),if_pos (by omega)]
  refine⟨⟨by simp;omega,hD,rfl,rfl⟩,NA kids _ _ [] _ _ _ (by simp;omega) (fun hx=>?_) h3⟩
  simp only[Bool.or_eq_true]at hx ⊢;exact hx.imp hD id
theorem NA:∀(l:List Fld) (path path':List Nat) (ahead:List Fld) (inD inD':Bool) (prev:List Pl),path'.length<=path.length->(inD'=true->inD=true)->Ce prev (BM path ahead inD l)->Wk (BM path ahead inD l) (BM path' ahead inD' l)
 |[],_,_,_,_,_,_,_,_,_=>rfl
 |f::l,path,path',ahead,inD,inD',prev,hp,hD,h=>by
  rw[BM,Gh]at h;rw[BM,BM];exact Wk.app (Zn f path path' ahead inD inD' prev hp hD h.1) (NA l path path' _ inD inD' _ hp hD h.2)
end
def DC(g:Fld):Fld:=.mk ⟨#[97]⟩ (decide (g.kind=1)||(decide (g.kind=20)&&Dl g.kids)) g.kind g.width g.id g.idx g.kids
theorem Wx:HU ⟨#[97]⟩:=by
 refine⟨by decide,by decide,fun i hi=>?_,?_⟩
 ·have:i=0:=by have:(⟨#[97]⟩:ByteArray).size=1:=rfl;omega
  subst this;exact .inl (by decide)
 ·decide
theorem Vg{g:Fld}{path:List Nat}{ahead:List Fld}{inD:Bool}{prev:List Pl}(h:Ce prev (Cq path ahead inD g)):B7 (DC g):=by
 obtain⟨nm,nul,k,w,i,x,kids⟩:=g
 refine⟨by simp,by simp,by simp,?_⟩
 rw[Cq,Ce]at h
 obtain⟨h1,h2,h3⟩:=h
 obtain⟨o1,o2,o3,o4,o5,o6,o7⟩:=h2
 simp only[List.length_append,List.length_singleton]at o1
 rw[if_pos (by omega)]at h3
 show Ce [] (BM [] [] false [Fld.mk ⟨#[97]⟩ (decide (k=1)||(decide (k=20)&&Dl kids)) k w i x kids])
 rw[BM,BM,List.append_nil,Cq,Ce,if_pos (by simp)]
 refine⟨by simp,⟨by simp,Wx,by simp,o4,⟨fun hk=>?_,fun hk=>?_,fun hk=>?_⟩,by simp,fun⟨a,b⟩=>o7 ⟨a,?_⟩⟩,?_⟩
 ·have hk:k=1:=hk
  show (decide (k=1)||(decide (k=20)&&Dl kids))=true;simp[hk]
 ·have hk:k=18:=hk
  show (decide (k=1)||(decide (k=20)&&Dl kids))=false;simp[hk]
 ·have hk:k=20:=hk
  show (decide (k=1)||(decide (k=20)&&Dl kids))=Dl kids;simp[hk]
 ·rcases b with b|⟨o,b,_⟩
  ·exact .inl b
  ·cases b
 ·refine Sy (NA kids _ [0] [] _ (false||decide (k=19)) _ (by simp) (fun hx=>?_) h3) (by simp) (fun o ho=>?_) h3
  ·simp only[Bool.or_eq_true,bF,false_or]at hx ⊢
   exact .inr hx
  ·simp at ho;subst ho
   exact⟨_,List.mem_append_right _ (List.mem_singleton.2 rfl),rfl,rfl⟩
def SubF(g:Fld):Prop:=okF g/\B7 (DC g)
theorem SubF.of{f:Fld}(h:okF f)(hm:B7 f):SubF f:=by
 refine⟨h,?_⟩
 have:=hm.2.2.2
 rw[BM,BM,List.append_nil]at this
 exact Vg this
theorem U6:∀{l:List Fld} {path:List Nat} {ahead:List Fld} {inD:Bool} {prev:List Pl} {g:Fld},Ce prev (BM path ahead inD l)->g∈l->∃ahead' prev',Ce prev' (Cq path ahead' inD g)
 |[],_,_,_,_,_,_,h=>by cases h
 |f::l,path,ahead,inD,prev,g,h,hg=>by
  rw[BM,Gh]at h;rcases List.mem_cons.1 hg with rfl|hg
  ·exact⟨_,_,h.1⟩
  ·exact U6 h.2 hg
theorem Ts:∀{l:List Fld} {x:Fld},Gg l->x∈l->okF x
 |[],x,_,h=>by cases h
 |f::l,x,h,hx=>by
  rcases List.mem_cons.1 hx with rfl|hx
  ·exact h.1
  ·exact Ts h.2 hx
theorem SubF.kid{g c:Fld}(h:SubF g)(hc:c∈g.kids):SubF c:=by
 obtain⟨nm,nul,k,w,i,x,kids⟩:=g
 refine⟨Ts h.1.2.2.2.2.2.2 hc,?_⟩
 have:=h.2.2.2.2
 have this:Ce [] (BM [] [] false [Fld.mk ⟨#[97]⟩ (decide (k=1)||(decide (k=20)&&Dl kids)) k w i x kids]):=this
 rw[BM,BM,List.append_nil,Cq,Ce,if_pos (by simp)]at this
 obtain⟨a,p,h2⟩:=U6 this.2.2 hc
 exact Vg h2
theorem SubF.fits{g:Fld}(h:SubF g):Cl g.kind g.width g.id g.idx g.kids.length:=by
 obtain⟨nm,nul,k,w,i,x,kids⟩:=g
 exact(Ei h.2).2.1
theorem Tri.valK{P:Program}{G:List (List EV)}{f:FuncId}{args:List EV}{V:EV}(hV:clE V=true)(ha:clL args=true)(t:Tri P G f args [] fun v _=>v=V)(h:EH):Tri P G f args h fun v h'=>v=V/\h'=h:=
 Tri.litC (φ:=fun v=>v=V) (fun v hv=>by rw[hv];exact hV) ha t h
mutual
def KO:Fld->Fld->Prop
 | .mk _ _ k w i x kids,g=>k=g.kind/\w=g.width/\i=g.id/\x=g.idx/\Gr kids g.kids
def Gr:List Fld->List Fld->Prop
 |[],l=>l=[]
 |f::l,[]=>False
 |f::l,g::m=>f.nm=g.nm/\f.nul=g.nul/\KO f g/\Gr l m
end
theorem Wa:∀{l m:List Fld},Gr l m->l.length=m.length
 |[],m,h=>by rw[Gr]at h;rw[h]
 |f::l,[],h=>by rw[Gr]at h;exact h.elim
 |f::l,g::m,h=>by rw[Gr]at h;simp[Wa h.2.2.2]
def Vm(f g:Fld):Prop:=f.nul=g.nul/\f.kind=g.kind/\f.width=g.width/\f.id=g.id/\f.idx=g.idx/\f.kids.length=g.kids.length
def UY(p q:Pl):Prop:=Vm p.f q.f/\(1<p.path.length->p.f.nm=q.f.nm)
def Id:List Pl->List Pl->Prop
 |[],[]=>True
 |p::l,q::m=>UY p q/\Id l m
 |_,_=>False
def NH(l:List Pl):Prop:=∀p∈l,p.path.length<=64
mutual
theorem Yk:∀(f g:Fld) (p p':List Nat) (a a':List Fld) (d d':Bool) (r r':List Pl),p.length=p'.length->NH (Cq p a d f++r)->
  (Id (Cq p a d f++r) (Cq p' a' d' g++r')↔((1<=p.length->f.nm=g.nm)/\f.nul=g.nul/\KO f g)/\Id r r')
 | .mk nm nul k w i x kids,.mk nm' nul' k' w' i' x' kids',p,p',a,a',d,d',r,r',hp,hlow=>by
  rw[Cq,Cq,lC,lC,Id];have h64:(p++[a.length]).length<=64:=hlow ⟨p++[a.length],a,.mk nm nul k w i x kids,d⟩ (by rw[Cq];simp)
  simp only[List.length_append,List.length_singleton]at h64;rw[if_pos (by omega),if_pos (by omega)]
  have hlow2:NH (BM (p++[a.length]) [] (d||decide (k=19)) kids++r):=fun q hq=>hlow q (by rw[Cq,if_pos (by omega)];simp at hq ⊢;exact .inr hq)
  by_cases hl:kids.length=kids'.length
  ·have ih:=Tm kids kids' (p++[a.length]) (p'++[a'.length]) [] [] (d||decide (k=19)) (d'||decide (k'=19)) r r' (by simp[hp]) (by simp) hl hlow2
   rw[ih];simp only[UY,Vm,KO,List.length_append,List.length_singleton,P5,Pa,Hb,JB,Kd,Ja,G5];constructor
   ·rintro⟨⟨⟨h1,h2,h3,h4,h5,h6⟩,h7⟩,h8,h9⟩
    exact⟨⟨fun h=>h7 (by omega),h1,h2,h3,h4,h5,h8⟩,h9⟩
   ·rintro⟨⟨h7,h1,h2,h3,h4,h5,h8⟩,h9⟩
    exact⟨⟨⟨h1,h2,h3,h4,h5,hl⟩,fun h=>h7 (by omega)⟩,h8,h9⟩
  ·constructor
   ·rintro⟨⟨⟨_,_,_,_,_,h6⟩,_⟩,_⟩
    exact absurd h6 hl
   ·rintro⟨⟨_,_,h8⟩,_⟩
    rw[KO]at h8;exact absurd (Wa h8.2.2.2.2) hl
theorem Tm:∀(l m:List Fld) (p p':List Nat) (a a':List Fld) (d d':Bool) (r r':List Pl),p.length=p'.length->1<=p.length->l.length=m.length->NH (BM p a d l++r)->
  (Id (BM p a d l++r) (BM p' a' d' m++r')↔Gr l m/\Id r r')
 |[],[],p,p',a,a',d,d',r,r',_,_,_,_=>by simp[BM,Gr]
 |[],g::m,_,_,_,_,_,_,_,_,_,_,h,_=>by simp at h
 |f::l,[],_,_,_,_,_,_,_,_,_,_,h,_=>by simp at h
 |f::l,g::m,p,p',a,a',d,d',r,r',hp,hp1,hl,hlow=>by
  rw[BM,BM,lA,lA];rw[BM,lA]at hlow;have h1:=Yk f g p p' a a' d d' (BM p (a++[f]) d l++r) (BM p' (a'++[g]) d' m++r') hp hlow;have h2:=Tm l m p p' (a++[f]) (a'++[g]) d d' r r' hp hp1 (by simpa using hl) (fun q hq=>hlow q (List.mem_append.2 (.inr hq)))
  rw[h1,h2,Gr];constructor
  ·rintro⟨⟨h1,h2,h3⟩,h4,h5⟩
   exact⟨⟨h1 hp1,h2,h3,h4⟩,h5⟩
  ·rintro⟨⟨h1,h2,h3,h4⟩,h5⟩
   exact⟨⟨fun _=>h1,h2,h3⟩,h4,h5⟩
end
inductive PX:Bool->Fld->Bool->Fld->Prop
 |here (u:Bool) (c:Fld):¬(c.kind=19\/c.kind=20)->PX u c u c
 |down (u:Bool) (c d:Fld) (r:Bool) (g:Fld):(c.kind=19\/c.kind=20)->c.kids=[d]->PX (if c.kind=19 then u else d.nul) d r g->PX u c r g
def hold(g:Fld):Fld:=.mk ⟨#[97]⟩ (decide (g.kind=1)) g.kind g.width g.id g.idx g.kids
def tyC(g:Fld):List EV:=[.lit (.int .i64 g.kind),.lit (.int .i64 g.width),.lit (.int .i64 g.id),.lit (.int .i64 g.idx),.isl g.kids.length none (Bl g.kids)]
theorem Se(g:Fld):Bo (DC g) = .lit (.string ⟨#[97]⟩) :: .lit (.bool (decide (g.kind=1)||(decide (g.kind=20)&&Dl g.kids)))::tyC g:=by
 obtain⟨nm,nul,k,w,i,x,kids⟩:=g;rfl
theorem zBj{g:Fld}(h:okF g):okF (DC g):=by
 obtain⟨nm,nul,k,w,i,x,kids⟩:=g
 exact⟨by decide,h.2⟩
theorem ZM(g:Fld)(hl:g.kids.length<=140737488351232)(h:EH):Tri Tryz.prog gs 128 [.agg (tyC g)] h fun v h'=>v = .agg (Bo (DC g))/\h'=h:=by
 rw[Se]
 have hk:=Vd g.kids
 have hk0:g.kids.length=0->Dl g.kids=false:=fun h=>by rw[List.length_eq_zero_iff.1 h];rfl
 unfold tyC
 generalize Dl g.kids=b at *
 generalize Bl g.kids=kc,g.kids.length=kn,g.kind=k,g.width=w,g.id=i,g.idx=x at *
 refine Tri.valK rfl rfl (Bj F128_ok fun I0 ρ0 w0 Q hρ hQ=>?_) h
 obtain⟨A,hA⟩:∃A,A=stdA:=⟨_,rfl⟩
 have hlk:kn≠0->List.take 1 (List.drop (A.add (A.idx 0 0 7) 1) kc)=[.lit (.bool b)]:=fun h=>by rw[hA];exact hk (by omega)
 with_reducible refine Be hA hd hQ 200 ?hk ?_
 case hk=>trivial
 conv=>arg 9;cbv
 try simp only[OK]
 repeat' first|((with_reducible refine⟨fun hbr=>?_,fun hbr=>?_⟩)<;>(try simp(disch:=omega)only[hA,Ba]at hbr)<;>(try (with_reducible exfalso;omega)))|((with_reducible refine Bd hA hd hQ 200 ?hk ?_);(case hk=>trivial);(conv=>arg 9;cbv);(try simp only[OK]))|((with_reducible refine Bp ?hn ?_);(case hn=>((simp(disch:=omega)only[hA,Ba])<;>omega)))|((refine⟨_,_,?l1,(hlk (by omega)),rfl,?_⟩);(case l1=>exact rfl))
 all_goals refine fI_ rfl ?_
 ·rw[decide_eq_true (by assumption:k=1)];rfl
 ·rw[decide_eq_true (by assumption:k=20),Bool.true_and,decide_eq_false (by assumption:¬k=1),Bool.false_or]
 ·rw[hk0 (by omega),Bool.and_false,decide_eq_false (by assumption:¬k=1)];rfl
 ·rw[decide_eq_false (by assumption:¬k=1),decide_eq_false (by assumption:¬k=20)];rfl
theorem RV(g:Fld)(hok:okF g)(h:EH):Tri Tryz.prog gs 115 [.agg (tyC g)] h fun v h'=>IsP (B7 (DC g)) v/\h'=h:=by
 have hh:=ZM g (by obtain⟨a1,a2,a3,a4,a5,a6,a7⟩:=g;exact hok.2.2.2.2.2.1)
 have hc:=Kj (DC g) (zBj hok)
 rw[Se]at hh hc
 unfold tyC at *
 generalize (decide (g.kind=1)||(decide (g.kind=20)&&Dl g.kids))=b at *
 generalize Bl g.kids=kc,g.kids.length=kn,g.kind=k,g.width=w,g.id=i,g.idx=x at *
 refine Tri.boolC rfl (Bj F115_ok fun I0 ρ0 w0 Q hρ hQ=>?_) h
 obtain⟨A,hA⟩:∃A,A=stdA:=⟨_,rfl⟩
 with_reducible refine Be hA hd hQ 200 ?hk ?_
 case hk=>trivial
 conv=>arg 9;cbv
 try simp only[OK]
 repeat' first|((with_reducible refine Bd hA hd hQ 200 ?hk ?_);(case hk=>trivial);(conv=>arg 9;cbv);(try simp only[OK]))|((with_reducible refine cO ?hg ?_);(case hg=>with_reducible exact Bb F128_ok);refine tM (hh _) ?_;rintro _ _ ⟨rfl,rfl⟩)|((with_reducible refine cO ?hg ?_);(case hg=>with_reducible exact Bb F10_ok);(refine tM (hc _) fun v hh hx=>?_);(obtain⟨⟨e,at',pn,pc,hv,he⟩,hh'⟩:=hx;subst hv;subst hh'))
 all_goals (try (with_reducible refine FinR.self ?_;first|refine FinR.bl rfl ?_|refine FinR.bs rfl ?_|refine FinR.blh rfl ?_ rfl|refine FinR.bsh rfl ?_ rfl))
 all_goals (try simp(disch:=omega)only[hA,Ba])
 all_goals exact he
structure PF where
 nm:ByteArray
 nul:Bool
 g:Fld
open Classical in
open Classical in
open Classical in
theorem r0:BH 0:=by unfold BH;omega
theorem zAg{l:List Fld}{x:Fld}(h:x∈l):SizeOf.sizeOf x<SizeOf.sizeOf l:=List.sizeOf_lt_of_mem h
theorem Rn{l:List Fld}{j:Nat}(h:j<l.length):l.getD j BQ∈l:=by
 rw[lG,lE h];exact List.getElem_mem _
theorem Zq{l:List Fld}{z:Nat}(h:z<l.length):Bl (l.take (z+1))=Bl (l.take z)++Bo (l.getD z BQ):=by
 rw[List.take_add_one,zBz,lG,lE h]
 simp[Bl]
theorem Up.agg7{a b c d e f g g':EV}(h:Up g g'):Up (.agg [a,b,c,d,e,f,g]) (.agg [a,b,c,d,e,f,g']):=fun w I ρ cv hr=>by
 cases hr with
 |agg _ cc vs hl hc=>
  refine .agg _ _ _ (by simpa using hl) fun j x v he hv=>?_
  match j,he with
  |0,he=>simp at he;subst he;exact hc 0 _ v rfl hv
  |1,he=>simp at he;subst he;exact hc 1 _ v rfl hv
  |2,he=>simp at he;subst he;exact hc 2 _ v rfl hv
  |3,he=>simp at he;subst he;exact hc 3 _ v rfl hv
  |4,he=>simp at he;subst he;exact hc 4 _ v rfl hv
  |5,he=>simp at he;subst he;exact hc 5 _ v rfl hv
  |6,he=>simp at he;subst he;exact h _ _ _ _ (hc 6 _ v rfl hv)
mutual
def Cu:Fld->Prop
 | .mk _ _ _ _ _ _ kids=>kids.length<=32/\Ey kids
def Ey:List Fld->Prop
 |[]=>True
 |f::l=>Cu f/\Ey l
end
theorem Pe{k w i x:Int}{n:Nat}(h:Cl k w i x n):n<=32:=by
 obtain⟨_,_,h⟩:=h
 split at h
 ·omega
 split at h
 ·omega
 split at h
 ·omega
 split at h
 ·omega
 split at h
 ·omega
 split at h
 ·omega
 ·omega
mutual
theorem H0:∀{f:Fld},CJ f->Cu f
 | .mk nm nul k w i x kids,h=>by
  rw[CJ]at h;rw[Cu];exact⟨Pe h.2.1,Vu h.2.2.2⟩
theorem Vu:∀{l:List Fld},Jn l->Ey l
 |[],_=>trivial
 |f::l,h=>by
  rw[Jn]at h;rw[Ey];exact⟨H0 h.1,Vu h.2⟩
end
theorem EY{f:Fld}(h:Cu f):Ey f.kids/\f.kids.length<=32:=by
 obtain⟨a1,a2,a3,a4,a5,a6,a7⟩:=f
 rw[Cu]at h;exact⟨h.2,h.1⟩
theorem Jv:∀{l:List Fld} {x:Fld},Ey l->x∈l->Cu x
 |[],x,_,h=>by cases h
 |f::l,x,h,hx=>by
  rw[Ey]at h;rcases List.mem_cons.1 hx with rfl|hx
  ·exact h.1
  ·exact Jv h.2 hx
theorem ZT(h:EH):Tri Tryz.prog gs 136 [.lit (.slice none 0 0)] h fun v h'=>v = .lit (.slice none 0 0)/\h'=h:=by
 refine Tri.valK rfl rfl (Bj F136_ok fun I0 ρ0 w0 Q hρ hQ=>?_) h
 obtain⟨A,hA⟩:∃A,A=stdA:=⟨_,rfl⟩
 with_reducible refine Be hA hd hQ 50 ?hk ?_
 case hk=>trivial
 conv=>arg 9;cbv
 try simp only[OK]
 repeat' first|((with_reducible refine Bp ?hn ?_);(case hn=>((simp(disch:=omega)only[hA,Ba])<;>omega)))
 all_goals exact fI_ rfl rfl
theorem zAZ(n:Nat)(hn:n<=32)(c:List EV):Tri Tryz.prog gs 136 [.sl 7 0 0 n none] [.blk c] fun v h'=>v = .sl 7 0 0 n (some n)/\h'=[.blk c]:=by
 refine Bj F136_ok fun I0 ρ0 w0 Q hρ hQ=>?_
 obtain⟨A,hA⟩:∃A,A=stdA:=⟨_,rfl⟩
 with_reducible refine Be hA hd hQ 50 ?hk ?_
 case hk=>trivial
 conv=>arg 9;cbv
 try simp only[OK]
 repeat' first|((with_reducible refine Bp ?hn ?_);(case hn=>((simp(disch:=omega)only[hA,Ba])<;>omega)))
 all_goals refine fI_ rfl ⟨?_,rfl⟩
 subst hA
 have e:(EV.sl 7 0 (stdA.add 0 (stdA.mul (stdA.tn 0) 7)) (stdA.sub (stdA.tn (stdA.ofn n)) (stdA.tn 0)) (some (stdA.sub (stdA.tn (stdA.ofn n)) (stdA.tn 0))))=EV.sl 7 0 0 n (some n):=by
  have e1:stdA.sub (stdA.tn (stdA.ofn n)) (stdA.tn 0)=n:=by show ((n:Int).toNat-(0:Int).toNat)=n;omega
  rw[e1];rfl
 exact e
def zBT(kn:Nat)(kc:List EV)(v:EV)(h:EH):Prop:=
 (kn=0/\kc=[]/\v = .lit (.slice none 0 0))\/(v = .sl 7 0 0 kn (some kn)/\h=[.blk kc])
theorem Ye(L:List Fld)(hll:L.length<=32)(ih0:∀c∈L,∀h:EH,Tri Tryz.prog gs 129 [.isl c.kids.length none (Bl c.kids)] h fun v h'=>v = .isl c.kids.length none (Bl c.kids)/\h'=h) :
  Tri Tryz.prog gs 129 [.isl L.length none (Bl L)] [] fun v h'=>zBT L.length (Bl L) v h':=by
 have hg:=D5 L
 have hstep:=fun z=>Zq (l:=L) (z:=z)
 obtain⟨kn,hkn⟩:∃n,n=L.length:=⟨_,rfl⟩
 obtain⟨kc,hkc⟩:∃n,n=Bl L:=⟨_,rfl⟩
 rw[<-hkn,<-hkc]
 refine Bj F129_ok fun I0 ρ0 w0 Q hρ hQ=>?_
 obtain⟨A,hA⟩:∃A,A=stdA:=⟨_,rfl⟩
 with_reducible refine Be hA hd hQ 200 ?hk ?_
 case hk=>trivial
 conv=>arg 9;cbv
 try simp only[OK]
 repeat' first|(with_reducible refine OKK.loop ?_)
 refine oK_ (msk 25 [3,6,7,8]) ?_
 refine oL_ (fun n st=>∃(z:Int) (bn:Nat) (bc:List EV),((bn=0/\st=⟨mkT 25 [(3,.lit (.slice none 0 0)),(6,.isl kn none kc),(7,.lit (.int .i64 (A.ofn kn))),(8,.lit (.int .i64 z))],[]⟩)\/
   st=⟨mkT 25 [(3,.sl 7 0 0 bn none),(6,.isl kn none kc),(7,.lit (.int .i64 (A.ofn kn))),(8,.lit (.int .i64 z))],[.blk bc]⟩)/\
   n=(kn-z).toNat/\0<=z/\z<=kn/\bn=z.toNat/\bc=Bl (L.take z.toNat)) (fun n st hs' ih=>?_)
  ⟨0,0,[],.inl ⟨rfl,rfl⟩,rfl,by omega,by omega,rfl,rfl⟩
 obtain⟨z,bn,bc,hst,hn,hz1,hz2,hbn,hbc⟩:=hs'
 have hbl:bc.length=7*bn:=by rw[hbc,Lx,lK];omega
 have hmv:∀g z,mvL g z bc=bc:=fun g z=>BR _ _ _ (by rw[hbc];exact GZ _)
 have hL:z<kn->List.take 7 (List.drop (A.idx 0 z 7) kc)=Bo (L.getD z.toNat BQ):=fun hz=>by rw[hA,B3,Nat.zero_add,hkc,hg z.toNat (by omega)]
 have hc:z<kn->∀h:EH,Tri Tryz.prog gs 129 [.isl (L.getD z.toNat BQ).kids.length none (Bl (L.getD z.toNat BQ).kids)] h fun v h'=>v = .isl (L.getD z.toNat BQ).kids.length none (Bl (L.getD z.toNat BQ).kids)/\h'=h:=fun hz=>ih0 _ (Rn (by omega))
 have hs2:z<kn->Bl (L.take (z.toNat+1))=bc++Bo (L.getD z.toNat BQ):=fun hz=>by rw[hbc];exact hstep _ (by omega)
 have hend:z=kn->bc=kc:=fun hz=>by rw[hbc,hkc,lT (by omega)]
 rw[BF]at hL hs2
 generalize L.getD z.toNat BQ=c at *
 generalize c.nm=nm',c.nul=nul',c.kind=k',c.width=w',c.id=i',c.idx=x',c.kids.length=kn',Bl c.kids=kc' at *
 rcases hst with ⟨h0,rfl⟩|rfl
 all_goals
  with_reducible refine Be hA hd hQ 200 ?hk ?_
  case hk=>trivial
  conv=>arg 9;cbv
  try simp only[OK]
  repeat' first|((with_reducible refine⟨fun hbr=>?_,fun hbr=>?_⟩)<;>(try simp(disch:=omega)only[hA,Ba]at hbr)<;>(try (with_reducible exfalso;omega)))|((with_reducible refine Bd hA hd hQ 200 ?hk ?_);(case hk=>trivial);(conv=>arg 9;cbv);(try simp only[OK]))|((with_reducible refine Bp ?hn ?_);(case hn=>((simp(disch:=omega)only[hA,Ba])<;>omega)))|((refine⟨_,_,?l1,(hL (by omega)),rfl,?_⟩);(case l1=>exact rfl))
 all_goals try
  refine cO (Bb F129_ok) (tM (hc (by omega) _) fun v hh hx=>?_)
  obtain⟨hv,hh'⟩:=hx;subst hv;subst hh'
  with_reducible refine Bd hA hd hQ 1 ?hk ?_
  case hk=>trivial
  conv=>arg 9;cbv
  try simp only[OK]
  repeat' first|(with_reducible refine OKK.again ?_)|((with_reducible refine⟨fun hbr=>?_,fun hbr=>?_⟩)<;>(try simp(disch:=omega)only[hA,Ba,reduceCtorEq]at hbr)<;>(try (with_reducible exfalso;omega)))|((with_reducible refine Bd hA hd hQ 200 ?hk ?_);(case hk=>trivial);(conv=>arg 9;cbv);(try simp only[OK]))|((with_reducible refine Bp ?hn ?_);(case hn=>((simp(disch:=omega)only[hA,Ba])<;>omega)))
 all_goals try
  refine cO (Bb F136_ok) (tM (ZT _) fun v hh hx=>?_)
  obtain⟨hv,hh'⟩:=hx;subst hv;subst hh'
  with_reducible refine Bd hA hd hQ 1 ?hk ?_
  case hk=>trivial
  conv=>arg 9;cbv
  try simp only[OK]
  repeat' first|((with_reducible refine Bd hA hd hQ 200 ?hk ?_);(case hk=>trivial);(conv=>arg 9;cbv);(try simp only[OK]))
 all_goals try
  refine cO (Bb F136_ok) (tM (zAZ bn (by omega) bc) fun v hh hx=>?_)
  obtain⟨hv,hh'⟩:=hx;subst hv;subst hh'
  with_reducible refine Bd hA hd hQ 1 ?hk ?_
  case hk=>trivial
  conv=>arg 9;cbv
  try simp only[OK]
  repeat' first|((with_reducible refine Bd hA hd hQ 200 ?hk ?_);(case hk=>trivial);(conv=>arg 9;cbv);(try simp only[OK]))
 ·have hz1':(A.ib .add .i64 z 1).toNat=z.toNat+1:=by simp(disch:=omega)only[hA,Ba];omega
  have hb0:bc=[]:=List.length_eq_zero_iff.1 (by omega)
  refine oK_ (msk 25 [3,6,7,8]) (OKs.mv [2] [] (by rw[hρ];rfl) ⟨by decide,by simp[Bc],by simp⟩ (ih _ _ ⟨A.ib .add .i64 z 1,_,_,.inr rfl,rfl,?_,?_,?_,?_⟩ ?_))
  ·simp(disch:=omega)only[hA,Ba];omega
  ·simp(disch:=omega)only[hA,Ba];omega
  ·rw[hz1'];omega
  ·rw[hz1',hs2 (by omega),hb0,lN,hA]
   exact BR _ _ _ rfl
  ·simp(disch:=omega)only[hA,Ba];omega
 ·exact fI_ rfl (.inl ⟨by omega,by rw[<-hend (by omega)];exact List.length_eq_zero_iff.1 (by omega),rfl⟩)
 ·have hz1':(A.ib .add .i64 z 1).toNat=z.toNat+1:=by simp(disch:=omega)only[hA,Ba];omega
  have hpush:A.app (A.tak (A.mul bn 7) (A.drp 0 bc)) (A.tak (A.mul 1 7) (A.drp 0 [.lit (.string nm'),.lit (.bool nul'),.lit (.int .i64 k'),.lit (.int .i64 w'),.lit (.int .i64 i'),.lit (.int .i64 x'),.isl kn' none kc']))=bc++[.lit (.string nm'),.lit (.bool nul'),.lit (.int .i64 k'),.lit (.int .i64 w'),.lit (.int .i64 i'),.lit (.int .i64 x'),.isl kn' none kc']:=by
   rw[hA];simp only[DL,C7,CV,CT,List.drop_zero];rw[lT (by omega)]
   rfl
  refine oK_ (msk 25 [3,6,7,8]) (OKs.mv [3] [] (by rw[hρ];rfl) ⟨by decide,by simp[Bc],by simp⟩ (ih _ _ ⟨A.ib .add .i64 z 1,_,_,.inr rfl,rfl,?_,?_,?_,?_⟩ ?_))
  ·simp(disch:=omega)only[hA,Ba];omega
  ·simp(disch:=omega)only[hA,Ba];omega
  ·rw[hz1',hA];show bn+1=_;omega
  ·rw[hz1',hs2 (by omega)]
   exact(congrArg _ hpush).trans (BR _ _ _ (by rw[<-hs2 (by omega)];exact GZ _))
  ·simp(disch:=omega)only[hA,Ba];omega
 ·refine fI_ rfl (.inr ⟨by rw[show kn=bn by omega];rfl,by rw[<-hend (by omega)]⟩)
theorem YU(f:Fld):SizeOf.sizeOf f.kids<SizeOf.sizeOf f:=by
 obtain⟨a1,a2,a3,a4,a5,a6,a7⟩:=f
 simp only[Fld.kids,Fld.mk.sizeOf_spec]
 omega
theorem zCf:∀(n:Nat) (L:List Fld),SizeOf.sizeOf L<=n->L.length<=32->Ey L->∀h:EH,Tri Tryz.prog gs 129 [.isl L.length none (Bl L)] h fun v h'=>v = .isl L.length none (Bl L)/\h'=h:=by
 intro n
 induction n with
 |zero=>intro L h;cases L<;>simp at h
 |succ n ih=>
  intro L hs hll hf h
  have t1:=Tri.mv (R':=fun v h'=>∃v',v' = .isl L.length none (Bl L)/\Up v v') (Ye L hll fun c hc h=>ih c.kids (by have h1:=zAg hc;have h2:=YU c;omega) (EY (Jv hf hc)).2 (EY (Jv hf hc)).1 h) fun v h' hr=>by
   rcases hr with ⟨e0,e1,e2⟩|⟨e2,e1⟩<;>subst e2
   ·refine⟨[],[],rfl,⟨by simp,by simp,by simp⟩,.isl L.length none (Bl L),rfl,?_⟩
    rw[e0,e1];exact Up.nil _
   ·subst e1
    refine⟨[],[0],rfl,⟨by simp,by simp,fun id hid=>by simp at hid;subst hid;exact⟨_,rfl,GZ _⟩⟩,.isl L.length none (Bl L),rfl,?_⟩
    exact Up.cap _ _ _
  exact Tri.valK rfl rfl (Tri.up t1 fun v h' ⟨v',h1,h2⟩=>⟨v',h1,h2⟩) h
def D4(k:Int):Int:=if k=3\/k=7 then 1 else if k=4\/k=8 then 2 else if k=5\/k=9 then 4 else if k=6\/k=10\/k=11 then 8 else 0
def Cc(k:Int):Int:=if k=1\/k=20 then 0 else if k=16\/k=17 then 1 else if k=12\/k=13 then 3 else 2
def wid(g:Fld):Int:=if g.kind=14 then g.width else if g.kind=19 then D4 g.idx else D4 g.kind
def Dh(g:Fld):Nat:=if g.kind=19 then 0 else if g.kind=20 then g.kids.length+1 else g.kids.length
theorem V7{k:Int}(h0:1<=k)(h1:k<=20):List.take 1 (List.drop (0+k.toNat * 4+1) (gs.getD 1 []))=[.lit (.int .i64 (D4 k))]:=by
 rcases (by omega:k=1\/k=2\/k=3\/k=4\/k=5\/k=6\/k=7\/k=8\/k=9\/k=10\/k=11\/k=12\/k=13\/k=14\/k=15\/k=16\/k=17\/k=18\/k=19\/k=20)with
  rfl|rfl|rfl|rfl|rfl|rfl|rfl|rfl|rfl|rfl|rfl|rfl|rfl|rfl|rfl|rfl|rfl|rfl|rfl|rfl<;>rfl
theorem ZR{k:Int}(h0:1<=k)(h1:k<=20):List.take 1 (List.drop (0+k.toNat * 4+2) (gs.getD 1 []))=[.lit (.int .i64 (Cc k))]:=by
 rcases (by omega:k=1\/k=2\/k=3\/k=4\/k=5\/k=6\/k=7\/k=8\/k=9\/k=10\/k=11\/k=12\/k=13\/k=14\/k=15\/k=16\/k=17\/k=18\/k=19\/k=20)with
  rfl|rfl|rfl|rfl|rfl|rfl|rfl|rfl|rfl|rfl|rfl|rfl|rfl|rfl|rfl|rfl|rfl|rfl|rfl|rfl<;>rfl
attribute [irreducible] D4 Cc
theorem Yp(g:Fld)(hs:SubF g)(h:EH):Tri Tryz.prog gs 118 [.agg (tyC g)] h fun v h'=>IsN .i64 (fun z=>z=wid g) v/\h'=h:=by
 have hm:=RV g hs.1
 have hfit:=hs.fits
 unfold Cl at hfit
 have hmay:=hs.2
 generalize hP:B7 (DC g)=Pr at *
 unfold wid
 unfold tyC at *
 generalize Bl g.kids=kc,g.kids.length=kn,g.kind=k,g.width=w,g.id=i,g.idx=x at *
 obtain⟨hk1,hk2,hfit⟩:=hfit
 have hx:k=19->3<=x/\x<=10:=fun e=>by subst e;simp at hfit;omega
 clear hfit
 refine Tri.intC rfl (Bj F118_ok fun I0 ρ0 w0 Q hρ hQ=>?_) h
 obtain⟨A,hA⟩:∃A,A=stdA:=⟨_,rfl⟩
 have hl1:k=19->List.take 1 (List.drop (A.add (A.idx 0 x 4) 1) (gs.getD 1 []))=[.lit (.int .i64 (D4 x))]:=fun e=>by rw[hA];exact V7 (by omega) (by omega)
 have hl2:List.take 1 (List.drop (A.add (A.idx 0 k 4) 1) (gs.getD 1 []))=[.lit (.int .i64 (D4 k))]:=by rw[hA];exact V7 (by omega) (by omega)
 generalize D4 x=wx,D4 k=wk at *
 with_reducible refine Be hA hd hQ 200 ?hk ?_
 case hk=>trivial
 conv=>arg 9;cbv
 try simp only[OK]
 repeat' first|((with_reducible refine⟨fun hbr=>?_,fun hbr=>?_⟩)<;>(try simp(disch:=omega)only[hA,Ba,reduceCtorEq]at hbr)<;>(try (with_reducible exfalso;omega)))|((with_reducible refine Bd hA hd hQ 200 ?hk ?_);(case hk=>trivial);(conv=>arg 9;cbv);(try simp only[OK]))|((with_reducible refine Bp ?hn ?_);(case hn=>((simp(disch:=omega)only[hA,Ba])<;>omega)))|((refine⟨_,_,?l1,(hl1 (by omega)),rfl,?_⟩);(case l1=>exact rfl))|((refine⟨_,_,?l1,hl2,rfl,?_⟩);(case l1=>exact rfl))|((with_reducible refine cO ?hg ?_);(case hg=>with_reducible exact Bb F115_ok);(refine tM (hm _) fun v hh hx=>?_);(obtain⟨⟨b,hv,hb⟩,he⟩:=hx;subst hv;subst he;cases b<;>simp(disch:=omega)only[bF,true_iff,false_iff,eq_self]at hb)<;>(try (with_reducible exfalso;omega)))
 all_goals try exact absurd hmay (by assumption)
 all_goals exact fI_ rfl ⟨_,rfl,by simp[*]⟩
def zB0(n:Nat)(v:EV)(h:EH):Prop:=
 (n=0/\v = .lit (.slice none 0 0))\/(∃c,v = .isl n none c)\/(v = .sl 7 2 0 n none/\∃a b c,h=[a,b,.blk c]/\clL c=true)
theorem zCZ(g:Fld)(hs:SubF g)(hsm:Cu g):Tri Tryz.prog gs 116 [.agg (tyC g)] [] fun v h'=>zB0 (Dh g) v h':=by
 have hm:=RV g hs.1
 have hmay:=hs.2
 have h20:g.kind=20->1<=g.kids.length:=fun e=>by have:=U2 hs.fits e;omega
 have hc:=zCf _ g.kids (Nat.le_refl _) (EY hsm).2 (EY hsm).1
 have hl:=(EY hsm).2
 have hcl:=GZ g.kids
 have hcn:=Lx g.kids
 generalize hP:B7 (DC g)=Pr at *
 unfold Dh
 unfold tyC at *
 generalize Bl g.kids=kc,g.kids.length=kn,g.kind=k,g.width=w,g.id=i,g.idx=x at *
 refine(Bj F116_ok fun I0 ρ0 w0 Q hρ hQ=>?_)
 obtain⟨A,hA⟩:∃A,A=stdA:=⟨_,rfl⟩
 with_reducible refine Be hA hd hQ 200 ?hk ?_
 case hk=>trivial
 conv=>arg 9;cbv
 try simp only[OK]
 repeat' first|((with_reducible refine⟨fun hbr=>?_,fun hbr=>?_⟩)<;>(try simp(disch:=omega)only[hA,Ba,reduceCtorEq]at hbr)<;>(try (with_reducible exfalso;omega)))|((with_reducible refine Bd hA hd hQ 200 ?hk ?_);(case hk=>trivial);(conv=>arg 9;cbv);(try simp only[OK]))|((with_reducible refine Bp ?hn ?_);(case hn=>((simp(disch:=omega)only[hA,Ba])<;>omega)))|((with_reducible refine cO ?hg ?_);(case hg=>with_reducible exact Bb F115_ok);(refine tM (hm _) fun v hh hx=>?_);(obtain⟨⟨b,hv,hb⟩,he⟩:=hx;subst hv;subst he;cases b<;>simp(disch:=omega)only[bF,true_iff,false_iff,eq_self]at hb)<;>(try (with_reducible exfalso;omega)))|((with_reducible refine cO ?hg ?_);(case hg=>with_reducible exact Bb F129_ok);refine tM (hc _) ?_;rintro _ _ ⟨rfl,rfl⟩)
 all_goals try exact absurd hmay (by assumption)
 all_goals refine fI_ rfl ?_
 ·rw[if_pos (by assumption:k=19)]
  exact .inl ⟨rfl,rfl⟩
 ·rw[if_neg (by assumption:¬k=19),if_pos (by assumption:k=20),hA,Nat.add_comm]
  refine .inr (.inr ⟨rfl,_,_,_,rfl,?_⟩);refine Dj fun x hx=>?_
  rcases List.mem_append.1 hx with hx|hx
  ·obtain⟨j,hj⟩:=List.getElem?_of_mem hx
   exact Ev (l:=List.take 7 (List.drop 0 [.lit (.string ⟨#[101,110,100,115]⟩),.lit (.bool false),.lit (.int .i64 5),.lit (.int .i64 0),.lit (.int .i64 0),.lit (.int .i64 0),.lit (.slice none 0 0)])) rfl j x hj
  ·obtain⟨j,hj⟩:=List.getElem?_of_mem (List.mem_of_mem_take hx)
   exact Ev hcl j x hj
 ·rw[if_neg (by assumption:¬k=19),if_neg (by assumption:¬k=20)]
  exact .inr (.inl ⟨_,rfl⟩)
theorem zAo(g:Fld)(hs:SubF g)(hsm:Cu g)(h:EH):Tri Tryz.prog gs 116 [.agg (tyC g)] h fun v h'=>v = .isl (Dh g) none []/\h'=h:=by
 have t1:=Tri.mv (R':=fun v h'=>∃v',v' = .isl (Dh g) none []/\Up v v') (zCZ g hs hsm) fun v h' hr=>by
  rcases hr with ⟨e0,e2⟩|⟨c,e2⟩|⟨e2,a,b,c,e1,hc⟩<;>subst e2
  ·refine⟨[],[],rfl,⟨by simp,by simp,by simp⟩,.isl (Dh g) none [],rfl,?_⟩
   rw[e0];exact Up.nil _
  ·refine⟨[],[],rfl,⟨by simp,by simp,by simp⟩,.isl (Dh g) none [],rfl,?_⟩
   exact Up.pre _ _ _ 0
  ·subst e1
   refine⟨[],[2],rfl,⟨by simp,by simp,fun id hid=>by simp at hid;subst hid;exact⟨_,rfl,hc⟩⟩,.isl (Dh g) none [],rfl,?_⟩
   exact Up.pre _ _ _ 0
 exact Tri.valK rfl rfl (Tri.up t1 fun v h' ⟨v',h1,h2⟩=>⟨v',h1,h2⟩) h
def DZ(g:Fld):Int:=if g.kind=19 then 1 else 0
theorem Yq(g:Fld)(hs:SubF g)(hsm:Cu g)(h:EH):Tri Tryz.prog gs 94 [.agg (tyC g)] h fun v h'=>v = .tup [.lit (.int .i64 (Cc g.kind)),.lit (.int .i64 (Dh g)),.lit (.int .i64 (DZ g))]/\h'=h:=by
 have hm:=RV g hs.1
 have hp:=zAo g hs hsm
 have hfit:=hs.fits
 have hmay:=hs.2
 unfold Cl at hfit
 generalize hP:B7 (DC g)=Pr at *
 unfold DZ
 generalize Dh g=np at *
 unfold tyC at *
 generalize Bl g.kids=kc,g.kids.length=kn,g.kind=k,g.width=w,g.id=i,g.idx=x at *
 obtain⟨hk1,hk2, -⟩:=hfit
 refine Tri.valK rfl rfl (Bj F94_ok fun I0 ρ0 w0 Q hρ hQ=>?_) h
 obtain⟨A,hA⟩:∃A,A=stdA:=⟨_,rfl⟩
 have hl2:List.take 1 (List.drop (A.add (A.idx 0 k 4) 2) (gs.getD 1 []))=[.lit (.int .i64 (Cc k))]:=by rw[hA];exact ZR (by omega) (by omega)
 generalize Cc k=wk at *
 with_reducible refine Be hA hd hQ 200 ?hk ?_
 case hk=>trivial
 conv=>arg 9;cbv
 try simp only[OK]
 repeat' first|(with_reducible refine And.intro trivial ?_)|((with_reducible refine⟨fun hbr=>?_,fun hbr=>?_⟩)<;>(try simp(disch:=omega)only[hA,Ba,reduceCtorEq]at hbr)<;>(try (with_reducible exfalso;omega)))|((with_reducible refine Bd hA hd hQ 200 ?hk ?_);(case hk=>trivial);(conv=>arg 9;cbv);(try simp only[OK]))|((with_reducible refine Bp ?hn ?_);(case hn=>((simp(disch:=omega)only[hA,Ba])<;>omega)))|((refine⟨_,_,?l1,hl2,rfl,?_⟩);(case l1=>exact rfl))|((with_reducible refine cO ?hg ?_);(case hg=>with_reducible exact Bb F115_ok);(refine tM (hm _) fun v hh hx=>?_);(obtain⟨⟨b,hv,hb⟩,he⟩:=hx;subst hv;subst he;cases b<;>simp(disch:=omega)only[bF,true_iff,false_iff,eq_self]at hb)<;>(try (with_reducible exfalso;omega)))|((with_reducible refine cO ?hg ?_);(case hg=>with_reducible exact Bb F116_ok);refine tM (hp _) ?_;rintro _ _ ⟨rfl,rfl⟩)
 all_goals try exact absurd hmay (by assumption)
 all_goals refine fI_ rfl ?_
 all_goals subst hA
 ·rw[if_pos (by assumption:k=19)];rfl
 ·rw[if_neg (by assumption:¬k=19)];rfl
def CS(g:Fld)(j n nul:Int):Int:=
 if g.kind=18 then n*(1+3*j)else if (j=0/\nul=0)\/(j≠0/\j=2)then 0 else if j=0\/g.kind=2 then (n+7)/8
 else if g.kind=12\/g.kind=13\/g.kind=15 then 4*(n+1)else n*wid g
theorem zAq{g:Fld}(hs:SubF g):0<=wid g/\wid g<=16:=by
 have h:=hs.fits
 unfold Cl at h
 unfold wid
 unfold D4
 obtain⟨h1,h2,h⟩:=h
 split
 ·rw[if_pos (by assumption)]at h;omega
 ·split
  all_goals (repeat' split)<;>omega
theorem zBl(g:Fld)(hs:SubF g)(j n nul:Int)(hj0:0<=j)(hj1:j<=3)(hn0:0<=n)(hn1:n<=65536)(h:EH) :
  Tri Tryz.prog gs 95 [.agg (tyC g),.lit (.int .i64 j),.lit (.int .i64 n),.lit (.int .i64 nul)] h fun v h'=>IsN .i64 (fun z=>z=CS g j n nul) v/\h'=h:=by
 have hw:=Yp g hs
 have hb:=zCi n hn0 (by omega)
 obtain⟨w0',w1'⟩:=zAq hs
 have hm1:0<=n*wid g:=Int.mul_nonneg hn0 w0'
 have hm2:n*wid g<=65536*16:=Int.mul_le_mul hn1 w1' w0' (by omega)
 have hm3:n*(1+3*j)<=65536*10:=Int.mul_le_mul hn1 (by omega) (by omega) (by omega)
 have hm4:0<=n*(1+3*j):=Int.mul_nonneg hn0 (by omega)
 unfold CS
 generalize wid g=wd at *
 unfold tyC at *
 generalize Bl g.kids=kc,g.kids.length=kn,g.kind=k,g.width=w,g.id=i,g.idx=x at *
 refine Tri.intC rfl (Bj F95_ok fun I0 ρ0 w0 Q hρ hQ=>?_) h
 obtain⟨A,hA⟩:∃A,A=stdA:=⟨_,rfl⟩
 with_reducible refine Be hA hd hQ 200 ?hk ?_
 case hk=>trivial
 conv=>arg 9;cbv
 try simp only[OK]
 repeat' first|((with_reducible refine⟨fun hbr=>?_,fun hbr=>?_⟩)<;>(try simp(disch:=omega)only[hA,Ba]at hbr)<;>(try (with_reducible exfalso;omega)))|((with_reducible refine Bd hA hd hQ 200 ?hk ?_);(case hk=>trivial);(conv=>arg 9;cbv);(try simp only[OK]))|(refine cO (Bb F118_ok) (tM (hw _) fun v hh hx=>?_);(obtain⟨⟨z,hv,hz⟩,he⟩:=hx;subst hv;subst he))|(refine cO (Bb F117_ok) (tM (hb _) fun v hh hx=>?_);(obtain⟨⟨z,hv,hz⟩,he⟩:=hx;subst hv;subst he))
 all_goals try (replace hz:z=wd:=hz;subst hz)
 all_goals (try (with_reducible refine FinR.self ?_;first|refine FinR.n rfl ?_|refine FinR.nh rfl ?_ rfl))
 all_goals (try simp(disch:=omega)only[hA,Ba])
 all_goals (repeat' split)<;>omega
theorem C5:∀(l:List Dat) (i:Nat),i<l.length->List.take 6 (List.drop (i*6) (Bi l))=Bs (l.getD i Bf)
 |[],i,h=>by simp at h
 |d::l,0,h=>by
  simp only[Bi,Nat.zero_mul,List.drop_zero,List.getD_cons_zero];exact List.take_left' (Nj d)
 |d::l,i+1,h=>by
  simp only[Bi,List.getD_cons_succ];rw[show (i+1)*6=(Bs d).length+i*6 by rw[Nj];omega,List.drop_append]
  rw[List.drop_eq_nil_of_le (by omega),lN,show (Bs d).length+i*6-(Bs d).length=i*6 by omega]
  exact C5 l i (by simpa using h)
def DV(e:Dat):Nat->Int
 |0=>0
 |i+1=>CB e i
def ascP(e:Dat)(n:Nat):Prop:=∀i<n,DV e i<DV e (i+1)
theorem ascP.succ{e:Dat}{n:Nat}:ascP e (n+1)↔ascP e n/\DV e n<DV e (n+1):=
 ⟨fun h=>⟨fun i hi=>h i (by omega),h n (by omega)⟩,fun⟨h,k⟩ i hi=>by
  rcases Nat.lt_succ_iff_lt_or_eq.1 hi with hi|rfl
  ·exact h i hi
  ·exact k⟩
theorem ascP.le{e:Dat}{n m:Nat}(h:ascP e n)(hm:m<=n):ascP e m:=fun i hi=>h i (by omega)
def DG(d:Dat):Prop:=
 (d.kids.getD 0 Bf).len=(d.kids.getD 1 Bf).len/\ascP (d.kids.getD 0 Bf) (d.kids.getD 0 Bf).len.toNat/\d.ofs+d.len<=DV (d.kids.getD 0 Bf) (d.kids.getD 0 Bf).len.toNat
def JN(e:Dat):Prop:=Cn e/\e.bufs.length=2/\(e.buf 1).length<=65536/\AllB (e.buf 1)/\4*(e.ofs+e.len)<=(e.buf 1).length
theorem zCx (d : Dat) (hdd : Cn d) (hkl : d.kids.length = 2) (he : JN (d.kids.getD 0 Bf)) (h : EH) :
    Tri Tryz.prog gs 75 [.agg (Bs d)] h fun v h' => IsF0 (DG d) v ∧ h' = h := by
  have g0 := C5 d.kids 0 (by omega)
  have g1 := C5 d.kids 1 (by omega)
  unfold DG;obtain ⟨e1, e2, e3, e4, e5⟩ := he;have hb := CA (l := (d.kids.getD 0 Bf).bufs) (j := 1) (by omega)
  have hsg : ∀ i : Nat, (i : Int) < (d.kids.getD 0 Bf).len → ∀ h, Tri Tryz.prog gs 98 [isB ((d.kids.getD 0 Bf).buf 1), .lit (.int .i64 ((d.kids.getD 0 Bf).ofs.toNat + i : Nat))] h fun v h' => v = .lit (.int .i64 (DV (d.kids.getD 0 Bf) (i + 1))) ∧ h' = h := fun i hi h => by
    obtain ⟨a1, a2, a3⟩ := e1;exact Ip _ _ e3 e4 (by omega) h
  change List.take 1 (List.drop 1 (Bx (d.kids.getD 0 Bf).bufs)) = [isB ((d.kids.getD 0 Bf).buf 1)] at hb
  have hF := fun a => Ds 87 a
  have hF6 := Ds 6 0;have hsc := fun n => ascP.succ (e := d.kids.getD 0 Bf) (n := n)
  have hal := fun m => fun (h : ascP (d.kids.getD 0 Bf) (d.kids.getD 0 Bf).len.toNat) (hm : m ≤ (d.kids.getD 0 Bf).len.toNat) => h.le hm
  have ha0 : ascP (d.kids.getD 0 Bf) 0 := fun i hi => by omega
  have hl0 : DV (d.kids.getD 0 Bf) 0 = 0 := rfl;generalize isB ((d.kids.getD 0 Bf).buf 1) = B at *;clear e3 e4 e5;generalize DV (d.kids.getD 0 Bf) = LE, ascP (d.kids.getD 0 Bf) = AP at *;unfold Cn at hdd e1;rw [BL] at g0 g1 ⊢;rw [hkl];generalize d.kids.getD 0 Bf = e, d.kids.getD 1 Bf = vs at *;rw [e2] at g0;generalize e.len = elen, e.ofs = eofs, e.nuls = enls, Bx e.bufs = ecb, e.kids.length = enk, Bi e.kids = eck, e.dict.length = en, Bi e.dict = ecd at *;generalize vs.len = vlen, vs.ofs = vofs, vs.nuls = vnls, vs.bufs.length = vnb, Bx vs.bufs = vcb, vs.kids.length = vnk, Bi vs.kids = vck, vs.dict.length = vn, Bi vs.dict = vcd at *;generalize d.len = len, d.ofs = ofs, d.nuls = nls, d.bufs.length = nb, Bx d.bufs = cb, Bi d.kids = ck, d.dict.length = nd, Bi d.dict = cd at *;clear hkl;refine Tri.faultC0 rfl (Bj F75_ok fun I0 ρ0 w0 Q hρ hQ => ?_) h
  obtain ⟨A, hA⟩ : ∃ A, A = stdA := ⟨_, rfl⟩;have l0 := g0;rw [show 0 * 6 = A.idx 0 0 6 by rw [hA]; rfl] at l0
  have l1 := g1;rw [show 1 * 6 = A.idx 0 1 6 by rw [hA]; rfl] at l1
  have l2 : List.take 1 (List.drop (A.idx 0 1 1) ecb) = [B] := by rw [hA]; exact hb
  with_reducible refine Be hA hd hQ 200 ?hk ?_
  case hk => trivial
  conv => arg 9; cbv
  try simp only [OK]
  repeat' first | (with_reducible refine OKK.loop ?_) | (with_reducible refine And.intro trivial ?_) | ((with_reducible refine ⟨fun hbr => ?_, fun hbr => ?_⟩) <;> (try simp (disch := omega) only [hA, Ba] at hbr) <;> (try (with_reducible exfalso; omega))) | ((with_reducible refine Bd hA hd hQ 200 ?hk ?_); (case hk => trivial); (conv => arg 9; cbv); (try simp only [OK])) | ((with_reducible refine Bp ?hn ?_); (case hn => ((simp (disch := omega) only [hA, Ba]) <;> omega))) | ((refine ⟨_, _, ?l1, l0, rfl, ?_⟩); (case l1 => exact rfl)) | ((refine ⟨_, _, ?l1, l1, rfl, ?_⟩); (case l1 => exact rfl)) | ((with_reducible refine cO ?hg ?_); (case hg => with_reducible exact Bb F44_ok); refine tM (hF6 _) ?_; rintro _ _ ⟨rfl, rfl⟩)
  · refine FinR.f0 rfl (Up.refl _) (iff_of_false (by decide) fun hh => absurd hh.1 (by omega))
  refine oK_ (msk 54 [1, 2, 3, 5, 23, 24]) ?_
  refine oL_ (fun m st => ∃ (z a : Int), st = ⟨mkT 54 [(1, .ptr 0 0), (2, .ptr 1 0), (3, .ptr 2 0), (5, .lit (.int .i64 a)), (23, .lit (.int .i64 elen)), (24, .lit (.int .i64 z))],
      [.blk [.lit (.int .i64 len), .lit (.int .i64 ofs), .lit (.int .i64 nls), .isl nb none cb, .isl 2 none ck, .isl nd none cd], .blk [.lit (.int .i64 0), .lit (.slice none 0 0), .lit (.int .i64 0)],
       .blk [.lit (.int .i64 elen), .lit (.int .i64 eofs), .lit (.int .i64 enls), .isl 2 none ecb, .isl enk none eck, .isl en none ecd],
       .blk [.lit (.int .i64 vlen), .lit (.int .i64 vofs), .lit (.int .i64 vnls), .isl vnb none vcb, .isl vnk none vck, .isl vn none vcd]]⟩ ∧
      m = (elen - z).toNat ∧ 0 ≤ z ∧ z ≤ elen ∧ a = LE z.toNat ∧ AP z.toNat) (fun m st hs' ih => ?_) ⟨0, 0, rfl, rfl, by omega, by omega, hl0.symm, ha0⟩
  obtain ⟨z, a, rfl, hm, hz1, hz2, ha, hap⟩ := hs';have hs2 := hsc z.toNat
  have hn : z < elen → ∀ h : EH, Tri Tryz.prog gs 98 [B, .lit (.int .i64 (A.ib .add .i64 eofs z))] h fun v h' => v = .lit (.int .i64 (LE (z.toNat + 1))) ∧ h' = h := fun hz h => by
    have := hsg z.toNat (by omega) h
    rw [show A.ib .add .i64 eofs z = ((eofs.toNat + z.toNat : Nat) : Int) by simp (disch := omega) only [hA, Ba] <;> omega]
    exact this
  have hend : z = elen → elen.toNat = z.toNat := fun e => by rw [e]
  have hnext : z < elen → (A.ib .add .i64 z 1).toNat = z.toNat + 1 := fun hz => by simp (disch := omega) only [hA, Ba]; omega
  have halz := hal (z.toNat + 1);generalize hx : LE (z.toNat + 1) = X at *
  with_reducible refine Be hA hd hQ 200 ?hk ?_
  case hk => trivial
  conv => arg 9; cbv
  try simp only [OK]
  repeat' first | (with_reducible refine OKK.again ?_) | ((with_reducible refine ⟨fun hbr => ?_, fun hbr => ?_⟩) <;> (try simp (disch := omega) only [hA, Ba] at hbr) <;> (try (with_reducible exfalso; omega))) | ((with_reducible refine Bd hA hd hQ 200 ?hk ?_); (case hk => trivial); (conv => arg 9; cbv); (try simp only [OK])) | ((with_reducible refine Bp ?hn ?_); (case hn => ((simp (disch := omega) only [hA, Ba]) <;> omega))) | ((refine ⟨_, _, ?l1, l2, rfl, ?_⟩); (case l1 => exact rfl)) | ((with_reducible refine cO ?hg ?_); (case hg => with_reducible exact Bb F98_ok); refine tM (hn (by omega) _) ?_; rintro _ _ ⟨rfl, rfl⟩) | ((with_reducible refine cO ?hg ?_); (case hg => with_reducible exact Bb F44_ok); refine tM (hF _ _) ?_; rintro _ _ ⟨rfl, rfl⟩)
  · refine FinR.f0 rfl (Up.refl _) (iff_of_false (by decide) fun hh => ?_)
    have := (hs2.1 (halz hh.2.1 (by omega))).2
    omega
  · refine oK_ (msk 54 [1, 2, 3, 5, 23, 24]) (OKs.mv [0, 1, 2, 3] [] (by rw [hρ]; rfl) ⟨by decide, by simp [Bc], by simp⟩ (ih _ _ ⟨_, _, rfl, rfl, ?_, ?_, ?_, ?_⟩ ?_))
    · simp (disch := omega) only [hA, Ba]; omega
    · simp (disch := omega) only [hA, Ba]; omega
    · rw [hnext (by omega), hx]
    · rw [hnext (by omega)]; exact hs2.2 ⟨hap, by omega⟩
    · simp (disch := omega) only [hA, Ba]; omega
  · refine FinR.f0 rfl (Up.refl _) (iff_of_false (by decide) fun hh => absurd hh.2.2 ?_)
    rw [hend (by omega), ← ha]
    omega
  · refine FinR.f0 rfl (Up.nil []) (iff_of_true rfl ⟨by omega, by rw [hend (by omega)]; exact hap, ?_⟩)
    rw [hend (by omega), ← ha]
    omega
def CP(x:Int)(d:Dat)(r:Nat):Int:=
 if (x<=6/\128<=(d.buf 1).getD (r*Bk x+(Bk x-1)) 0)\/(d.dict.getD 0 Bf).len<=(BW (d.buf 1) (r*Bk x) (Bk x):Nat)then -1
 else (BW (d.buf 1) (r*Bk x) (Bk x):Nat)
theorem Vf{x:Int}(h1:3<=x)(h2:x<=10):Bk x=1\/Bk x=2\/Bk x=4\/Bk x=8:=by
 unfold Bk
 repeat' split
 all_goals omega
theorem U4(f:Fld)(d:Dat)(r:Nat)(h1:3<=f.idx)(h2:f.idx<=10)(hb2:d.bufs.length=2)(hd1:d.dict.length=1)(hl:(d.buf 1).length<=65536)(ha:AllB (d.buf 1))
  (hr:(r+1)*Bk f.idx<=(d.buf 1).length) (hlen:BH (d.dict.getD 0 Bf).len) (h:EH) :
  Tri Tryz.prog gs 100 [.agg (Bo f),.agg (Bs d),.lit (.int .i64 r)] h fun v h'=>v = .lit (.int .i64 (CP f.idx d r))/\h'=h:=by
 have hw:=S5 f.idx
 have hwk:=Vf h1 h2
 have g0:=C5 d.dict 0 (by omega)
 have hb:=CA (l:=d.bufs) (j:=1) (by omega)
 change List.take 1 (List.drop 1 (Bx d.bufs))=[isB (d.buf 1)]at hb
 unfold CP BW
 unfold BH at hlen
 generalize Bk f.idx=wd at *
 generalize d.buf 1=b at *
 unfold isB at hb
 obtain⟨n,hn⟩:∃n,n=b.length:=⟨_,rfl⟩
 obtain⟨c,hc⟩:∃n,n=Br b:=⟨_,rfl⟩
 rw[<-hn,<-hc]at hb
 rw[BF,BL]
 rw[BL]at g0
 rw[hb2,hd1]
 generalize (d.dict.getD 0 Bf).len=dlen at *
 generalize (d.dict.getD 0 Bf)=dd at *
 generalize dd.ofs=dofs,dd.nuls=dnls,dd.bufs.length=dnb,Bx dd.bufs=dcb,dd.kids.length=dnk,Bi dd.kids=dck,dd.dict.length=dn,Bi dd.dict=dcd at *
 generalize d.len=len,d.ofs=ofs,d.nuls=nls,Bx d.bufs=cb,d.kids.length=nk,Bi d.kids=ck,Bi d.dict=cd at *
 generalize Bl f.kids=kc,f.kids.length=kn,f.nm=nm,f.nul=nul,f.kind=k,f.width=w,f.id=i,f.idx=ix at *
 have hmul:(r+1)*wd=r*wd+wd:=Nat.succ_mul _ _
 have hrp:r<=r*wd:=Nat.le_mul_of_pos_right _ (by omega)
 obtain⟨p,hp⟩:∃p,p=r*wd:=⟨_,rfl⟩
 rw[hmul]at hr
 rw[<-hp]at hr hrp
 have hmi:∀z r':Int,z=wd->r'=r->r'*z=p/\(r'+1)*z=p+wd:=fun z r' hz hr=>by
  subst hz;subst hr;rw[Int.add_mul,Int.one_mul,<-Int.natCast_mul,<-hp];exact⟨rfl,rfl⟩
 obtain⟨r',hr'⟩:∃q:Int,q=r:=⟨_,rfl⟩
 rw[<-hr',<-hp]
 clear hmul
 refine Tri.valA rfl rfl (Bj F100_ok fun I0 ρ0 w0 Q hρ hQ=>?_) h
 obtain⟨A,hA⟩:∃A,A=stdA:=⟨_,rfl⟩
 have l0:=g0
 rw[show 0*6=A.idx 0 0 6 by rw[hA];rfl]at l0
 have l2:List.take 1 (List.drop (A.idx 0 1 1) cb)=[.isl n none c]:=by rw[hA];exact hb
 with_reducible refine Be hA hd hQ 200 ?hk ?_
 case hk=>trivial
 conv=>arg 9;cbv
 try simp only[OK]
 repeat' first|(with_reducible refine OKK.loop ?_)|((with_reducible refine Bd hA hd hQ 200 ?hk ?_);(case hk=>trivial);(conv=>arg 9;cbv);(try simp only[OK]))|((with_reducible refine Bp ?hn ?_);(case hn=>((simp(disch:=omega)only[hA,Ba])<;>omega)))|((refine⟨_,_,?l1,l2,rfl,?_⟩);(case l1=>exact rfl))|((with_reducible refine cO ?hg ?_);(case hg=>with_reducible exact Bb F123_ok);(refine tM (hw _) fun v hh hx=>?_);(obtain⟨⟨z,hv,hz⟩,hh'⟩:=hx;replace hz:z=wd:=hz;obtain⟨hm1,hm2⟩:=hmi z r' hz hr';subst hv;subst hh'))
 have hdn:∀q:Nat,q<wd->(List.take wd (List.drop p b)).getD q 0=b.getD (p+q) 0:=fun q hq=>by
  simp[lG,hq]
 obtain⟨bb,hbb⟩:∃bb,bb=List.take wd (List.drop p b):=⟨_,rfl⟩
 have hbl:bb.length=wd:=by rw[hbb,lK,lD];omega
 have hba:AllB bb:=by rw[hbb];exact(ha.drop p).take wd
 rw[<-hbb]at hdn hQ
 clear hbb
 refine oK_ (msk 70 [3,4,7,8,9,29,30,31]) ?_
 refine oL_ (fun m st=>∃(i' a:Int) (M:Nat) (D:List EV),st=⟨mkT 70 [(3,.ptr 0 0),(4,.ptr 1 0),(7,.lit (.int .i64 z)),(8,.isl M none D),(9,.lit (.int .u64 a)),(29,.isl M none D),(30,.lit (.int .i64 (A.ofn M))),(31,.lit (.int .i64 i'))],
   [.blk [.lit (.string nm),.lit (.bool nul),.lit (.int .i64 k),.lit (.int .i64 w),.lit (.int .i64 i),.lit (.int .i64 ix),.isl kn none kc],.blk [.lit (.int .i64 len),.lit (.int .i64 ofs),.lit (.int .i64 nls),.isl 2 none cb,.isl nk none ck,.isl 1 none cd]]⟩/\
   M=wd/\D=List.drop p c/\m=(wd-i').toNat/\0<=i'/\i'<=wd/\a=(leV (bb.take i'.toNat):Nat)) (fun m st hs' ih=>?_)
  ⟨0,0,_,_,rfl,by simp(disch:=omega)only[hA,Ba];omega,by (simp(disch:=omega)only[hA,Ba]);congr 1;omega,rfl,by omega,by omega,rfl⟩
 obtain⟨i',a,M,D,rfl,hM,hD,hm,hi1,hi2,hav⟩:=hs'
 obtain⟨x,hx⟩:∃x:Int,x=(bb.getD i'.toNat 0:Nat):=⟨_,rfl⟩
 have hL:i'<wd->List.take 1 (List.drop (A.idx 0 i' 1) D)=[.lit (.int .u8 x)]:=fun h=>by
  rw[hA,B3,Nat.zero_add,Nat.mul_one,hD,Ir hc (by omega),hx,hdn _ (by omega)]
 obtain⟨y,hy⟩:∃y:Int,y=(b.getD (p+(wd-1)) 0:Nat):=⟨_,rfl⟩
 have hT:List.take 1 (List.drop (A.idx 0 (A.ib .sub .i64 z 1) 1) D)=[.lit (.int .u8 y)]:=by
  rw[show A.ib .sub .i64 z 1=((wd-1:Nat):Int) by simp(disch:=omega)only[hA,Ba];omega,hA,B3,Nat.zero_add,Nat.mul_one,hD,Ir hc (by omega),hy]
  rfl
 have hlt:=Hx bb hba
 have hmx:stdA.wr .u64 (stdA.imax dlen 0)=max dlen 0:=by
  have e:stdA.imax dlen 0=max dlen 0:=by
   show (if _ then _ else _)=_
   split<;>omega
  rw[e,JV _ (by omega) (by omega)]
 have l3:List.take 1 (List.drop (A.add (A.idx 0 0 6) 0) cd)=[.lit (.int .i64 dlen)]:=by
  have e:=congrArg (List.take 1) g0;rw[List.take_take]at e;rw[hA];exact e
 with_reducible refine Be hA hd hQ 200 ?hk ?_
 case hk=>trivial
 conv=>arg 9;cbv
 try simp only[OK]
 repeat' first|(with_reducible refine OKK.again ?_)|((with_reducible refine⟨fun hbr=>?_,fun hbr=>?_⟩)<;>(try simp(disch:=omega)only[hA,Ba]at hbr)<;>(try (with_reducible exfalso;omega)))|((with_reducible refine Bd hA hd hQ 200 ?hk ?_);(case hk=>trivial);(conv=>arg 9;cbv);(try simp only[OK]))|((with_reducible refine Bp ?hn ?_);(case hn=>((simp(disch:=omega)only[hA,Ba])<;>omega)))|((refine⟨_,_,?l1,(hL (by omega)),rfl,?_⟩);(case l1=>exact rfl))|((refine⟨_,_,?l1,hT,rfl,?_⟩);(case l1=>exact rfl))|((refine⟨_,_,?l1,l3,rfl,?_⟩);(case l1=>exact rfl))
 ·have hxl:bb.getD i'.toNat 0<256:=hba.get _
  have hal:leV (bb.take i'.toNat)<256^i'.toNat:=by
   have:=Hx _ (hba.take i'.toNat)
   rwa [lK,Nat.min_eq_left (by omega)]at this
  refine oK_ (msk 70 [3,4,7,8,9,29,30,31]) (OKs.mv [0,1] [] (by rw[hρ];rfl) ⟨by decide,by simp[Bc],by simp⟩ (ih _ _ ⟨A.ib .add .i64 i' 1,A.ib .or .u64 a (A.sh .shl .u64 (A.wr .u64 x) (A.ib .mul .i64 8 i')),M,D,rfl,hM,hD,rfl,?_,?_,?_⟩ ?_))
  ·simp(disch:=omega)only[hA,Ba]<;>omega
  ·simp(disch:=omega)only[hA,Ba]<;>omega
  ·show A.ib .or .u64 a (A.sh .shl .u64 (A.wr .u64 x) (A.ib .mul .i64 8 i'))=(leV (bb.take (A.ib .add .i64 i' 1).toNat):Nat)
   rw[show (A.ib .add .i64 i' 1).toNat=i'.toNat+1 by simp(disch:=omega)only[hA,Ba]<;>omega,R7 bb _ (by omega),hav,hx,hA,show i'=(i'.toNat:Int) by omega]
   exact Vq _ _ _ hal hxl (by omega)
  ·simp(disch:=omega)only[hA,Ba]<;>omega
 all_goals
  rw[lT (by omega)]at hav
  refine fI_ rfl ?_
  try have hb3:max dlen 0<=a:=by rw[<-hmx];exact hbr
  try have hb3:¬max dlen 0<=a:=by rw[<-hmx];exact hbr
  first
   |(rw[if_pos (by omega)];rfl)
   |(rw[if_neg (by omega)];show EV.lit (.int .i64 (A.wr .i64 a))=_;rw[show A.wr .i64 a=a by simp(disch:=omega)only[hA,Ba]<;>omega,hav])
   |trace_state
theorem WT(f:Fld)(d:Dat)(hk:f.kind≠12/\f.kind≠13/\f.kind≠15/\f.kind≠18/\f.kind≠19)(h:EH) :
  Tri Tryz.prog gs 72 [.agg (Bo f),.agg (Bs d)] h fun v h'=>IsF0 True v/\h'=h:=by
 rw[BF,BL]at *
 generalize d.len=len,d.ofs=ofs,d.nuls=nls,d.bufs.length=nb,Bx d.bufs=cb,d.kids.length=nk,Bi d.kids=ck,d.dict.length=nd,Bi d.dict=cd at *
 generalize Bl f.kids=kc,f.kids.length=kn,f.nm=nm,f.nul=nul,f.kind=k,f.width=w,f.id=i,f.idx=ix at *
 obtain⟨k1,k2,k3,k4,k5⟩:=hk
 refine Tri.faultC0 rfl (Bj F72_ok fun I0 ρ0 w0 Q hρ hQ=>?_) h
 obtain⟨A,hA⟩:∃A,A=stdA:=⟨_,rfl⟩
 with_reducible refine Be hA hd hQ 200 ?hk ?_
 case hk=>trivial
 conv=>arg 9;cbv
 try simp only[OK]
 repeat' first|((with_reducible refine⟨fun hbr=>?_,fun hbr=>?_⟩)<;>(try simp(disch:=omega)only[hA,Ba]at hbr)<;>(try (with_reducible exfalso;omega)))|((with_reducible refine Bd hA hd hQ 200 ?hk ?_);(case hk=>trivial);(conv=>arg 9;cbv);(try simp only[OK]))
 all_goals exact FinR.f0 rfl (Up.nil []) (iff_of_true rfl trivial)
theorem zB3(f:Fld)(d:Dat)(hk:f.kind=12\/f.kind=13\/f.kind=15)(P:Prop)
  (ho:∀h:EH,Tri Tryz.prog gs 97 [.agg (Bo f),.agg (Bs d)] h fun v h'=>IsF0 P v/\h'=h) (h:EH) :
  Tri Tryz.prog gs 72 [.agg (Bo f),.agg (Bs d)] h fun v h'=>IsF0 P v/\h'=h:=by
 rw[BF,BL]at *
 generalize d.len=len,d.ofs=ofs,d.nuls=nls,d.bufs.length=nb,Bx d.bufs=cb,d.kids.length=nk,Bi d.kids=ck,d.dict.length=nd,Bi d.dict=cd at *
 generalize Bl f.kids=kc,f.kids.length=kn,f.nm=nm,f.nul=nul,f.kind=k,f.width=w,f.id=i,f.idx=ix at *
 refine Tri.faultC0 rfl (Bj F72_ok fun I0 ρ0 w0 Q hρ hQ=>?_) h
 obtain⟨A,hA⟩:∃A,A=stdA:=⟨_,rfl⟩
 with_reducible refine Be hA hd hQ 200 ?hk ?_
 case hk=>trivial
 conv=>arg 9;cbv
 try simp only[OK]
 repeat' first|((with_reducible refine⟨fun hbr=>?_,fun hbr=>?_⟩)<;>(try simp(disch:=omega)only[hA,Ba]at hbr)<;>(try (with_reducible exfalso;omega)))|((with_reducible refine Bd hA hd hQ 200 ?hk ?_);(case hk=>trivial);(conv=>arg 9;cbv);(try simp only[OK]))|((with_reducible refine cO ?hg ?_);(case hg=>with_reducible exact Bb F97_ok);(refine tM (ho _) fun v hh hx=>?_);(obtain⟨⟨e,at',hv,he⟩,hh'⟩:=hx;subst hv;subst hh'))
 all_goals exact FinR.f0 rfl (Up.refl _) he
def dictP(x:Int)(d:Dat)(n:Nat):Prop:=∀i<n,BJ 19 d (d.ofs.toNat+i)=true\/0<=CP x d (d.ofs.toNat+i)
theorem dictP.succ{x:Int}{d:Dat}{n:Nat}:dictP x d (n+1)↔dictP x d n/\(BJ 19 d (d.ofs.toNat+n)=true\/0<=CP x d (d.ofs.toNat+n)):=
 ⟨fun h=>⟨fun i hi=>h i (by omega),h n (by omega)⟩,fun⟨h,k⟩ i hi=>by
  rcases Nat.lt_succ_iff_lt_or_eq.1 hi with hi|rfl
  ·exact h i hi
  ·exact k⟩
theorem dictP.le{x:Int}{d:Dat}{n m:Nat}(h:dictP x d n)(hm:m<=n):dictP x d m:=fun i hi=>h i (by omega)
theorem zAu (f : Fld) (d : Dat) (hk : f.kind = 19) (hdd : Cn d) (h1 : 3 ≤ f.idx) (h2 : f.idx ≤ 10) (hb2 : d.bufs.length = 2) (hd1 : d.dict.length = 1) (hl : (d.buf 1).length ≤ 65536) (ha : AllB (d.buf 1))
    (hr : (d.ofs.toNat + d.len.toNat) * Bk f.idx ≤ (d.buf 1).length) (hlen : BH (d.dict.getD 0 Bf).len) (hp : ∀ r, r < d.ofs.toNat + d.len.toNat → Dc f.kind d r) (h : EH) :
    Tri Tryz.prog gs 72 [.agg (Bo f), .agg (Bs d)] h fun v h' => IsF0 (dictP f.idx d d.len.toNat) v ∧ h' = h := by
  have hix := fun r (hrr : r < d.ofs.toNat + d.len.toNat) => U4 f d r h1 h2 hb2 hd1 hl ha (Nat.le_trans (Nat.mul_le_mul_right _ hrr) hr) hlen
  have hnl := fun r (hrr : r < d.ofs.toNat + d.len.toNat) => Lh f d r (hp r hrr)
  rw [hk] at hnl;have hF := fun a => Ds 86 a
  have hsc := fun n => dictP.succ (x := f.idx) (d := d) (n := n)
  have hal := fun m => fun (h : dictP f.idx d d.len.toNat) (hm : m ≤ d.len.toNat) => h.le hm
  have ha0 : dictP f.idx d 0 := fun i hi => by omega
  clear hp hlen hr ha hl hd1 hb2;unfold Cn at hdd;generalize dictP f.idx d = DP, BJ 19 d = NR, CP f.idx d = IR at *;rw [BF, BL] at *;generalize d.len = len, d.ofs = ofs, d.nuls = nls, d.bufs.length = nb, Bx d.bufs = cb, d.kids.length = nk, Bi d.kids = ck, d.dict.length = nd, Bi d.dict = cd at *;generalize Bl f.kids = kc, f.kids.length = kn, f.nm = nm, f.nul = nul, f.kind = k, f.width = w, f.id = i, f.idx = ix at *;refine Tri.faultC0 rfl (Bj F72_ok fun I0 ρ0 w0 Q hρ hQ => ?_) h
  obtain ⟨A, hA⟩ : ∃ A, A = stdA := ⟨_, rfl⟩
  with_reducible refine Be hA hd hQ 200 ?hk ?_
  case hk => trivial
  conv => arg 9; cbv
  try simp only [OK]
  repeat' first | (with_reducible refine OKK.loop ?_) | ((with_reducible refine ⟨fun hbr => ?_, fun hbr => ?_⟩) <;> (try simp (disch := omega) only [hA, Ba] at hbr) <;> (try (with_reducible exfalso; omega))) | ((with_reducible refine Bd hA hd hQ 200 ?hk ?_); (case hk => trivial); (conv => arg 9; cbv); (try simp only [OK]))
  refine oK_ (msk 95 [2, 3, 4, 71, 72]) ?_
  refine oL_ (fun m st => ∃ (z : Int), st = ⟨mkT 95 [(2, .ptr 0 0), (3, .ptr 1 0), (4, .ptr 2 0), (71, .lit (.int .i64 len)), (72, .lit (.int .i64 z))],
      [.blk [.lit (.string nm), .lit (.bool nul), .lit (.int .i64 k), .lit (.int .i64 w), .lit (.int .i64 i), .lit (.int .i64 ix), .isl kn none kc],
       .blk [.lit (.int .i64 len), .lit (.int .i64 ofs), .lit (.int .i64 nls), .isl nb none cb, .isl nk none ck, .isl nd none cd],
       .blk [.lit (.int .i64 0), .lit (.slice none 0 0), .lit (.int .i64 0)]]⟩ ∧
      m = (len - z).toNat ∧ 0 ≤ z ∧ z ≤ len ∧ DP z.toNat) (fun m st hs' ih => ?_) ⟨0, rfl, rfl, by omega, by omega, ha0⟩
  obtain ⟨z, rfl, hm, hz1, hz2, hap⟩ := hs';have hs2 := hsc z.toNat
  have hn : z < len → ∀ h : EH, Tri Tryz.prog gs 99 [.agg [.lit (.string nm), .lit (.bool nul), .lit (.int .i64 k), .lit (.int .i64 w), .lit (.int .i64 i), .lit (.int .i64 ix), .isl kn none kc], .agg [.lit (.int .i64 len), .lit (.int .i64 ofs), .lit (.int .i64 nls), .isl nb none cb, .isl nk none ck, .isl nd none cd], .lit (.int .i64 (A.ib .add .i64 ofs z))] h fun v h' => IsP (NR (ofs.toNat + z.toNat) = true) v ∧ h' = h := fun hz h => by
    have := hnl (ofs.toNat + z.toNat) (by omega) h
    rw [show A.ib .add .i64 ofs z = ((ofs.toNat + z.toNat : Nat) : Int) by simp (disch := omega) only [hA, Ba] <;> omega]
    exact this
  have hi : z < len → ∀ h : EH, Tri Tryz.prog gs 100 [.agg [.lit (.string nm), .lit (.bool nul), .lit (.int .i64 k), .lit (.int .i64 w), .lit (.int .i64 i), .lit (.int .i64 ix), .isl kn none kc], .agg [.lit (.int .i64 len), .lit (.int .i64 ofs), .lit (.int .i64 nls), .isl nb none cb, .isl nk none ck, .isl nd none cd], .lit (.int .i64 (A.ib .add .i64 ofs z))] h fun v h' => v = .lit (.int .i64 (IR (ofs.toNat + z.toNat))) ∧ h' = h := fun hz h => by
    have := hix (ofs.toNat + z.toNat) (by omega) h
    rw [show A.ib .add .i64 ofs z = ((ofs.toNat + z.toNat : Nat) : Int) by simp (disch := omega) only [hA, Ba] <;> omega]
    exact this
  have hend : z = len → len.toNat = z.toNat := fun e => by rw [e]
  have hnext : z < len → (A.ib .add .i64 z 1).toNat = z.toNat + 1 := fun hz => by simp (disch := omega) only [hA, Ba]; omega
  have halz := hal (z.toNat + 1);generalize IR (ofs.toNat + z.toNat) = X at *;generalize NR (ofs.toNat + z.toNat) = NB at *
  with_reducible refine Be hA hd hQ 200 ?hk ?_
  case hk => trivial
  conv => arg 9; cbv
  try simp only [OK]
  repeat' first | (with_reducible refine OKK.again ?_) | ((with_reducible refine ⟨fun hbr => ?_, fun hbr => ?_⟩) <;> (try simp (disch := omega) only [hA, Ba, reduceCtorEq] at hbr) <;> (try (with_reducible exfalso; omega))) | ((with_reducible refine Bd hA hd hQ 200 ?hk ?_); (case hk => trivial); (conv => arg 9; cbv); (try simp only [OK])) | ((with_reducible refine cO ?hg ?_); (case hg => with_reducible exact Bb F99_ok); (refine tM (hn (by omega) _) fun v hh hx => ?_); (obtain ⟨⟨b, hv, hb⟩, he⟩ := hx; subst hv; subst he; cases b <;> simp (disch := omega) only [bF, true_iff, false_iff, eq_self] at hb) <;> (try (with_reducible exfalso; omega))) | ((with_reducible refine cO ?hg ?_); (case hg => with_reducible exact Bb F100_ok); refine tM (hi (by omega) _) ?_; rintro _ _ ⟨rfl, rfl⟩) | ((with_reducible refine cO ?hg ?_); (case hg => with_reducible exact Bb F44_ok); refine tM (hF _ _) ?_; rintro _ _ ⟨rfl, rfl⟩)
  · refine FinR.f0 rfl (Up.refl _) (iff_of_false (by decide) fun hh => ?_)
    rcases (hs2.1 (halz hh (by omega))).2 with h9 | h9
    · simp_all
    · omega
  iterate 2
    refine oK_ (msk 95 [2, 3, 4, 71, 72]) (OKs.mv [0, 1, 2] [] (by rw [hρ]; rfl) ⟨by decide, by simp [Bc], by simp⟩ (ih _ _ ⟨_, rfl, rfl, ?_, ?_, ?_⟩ ?_))
    · simp (disch := omega) only [hA, Ba]; omega
    · simp (disch := omega) only [hA, Ba]; omega
    · rw [hnext (by omega)]
      refine hs2.2 ⟨hap, ?_⟩
      first
        | exact .inl (by assumption)
        | exact .inr (by omega)
    · simp (disch := omega) only [hA, Ba]; omega
  · refine FinR.f0 rfl (Up.nil []) (iff_of_true rfl ?_)
    rw [hend (by omega)]
    exact hap
def PT(d:Dat)(r:Nat):Prop:=(d.buf 0).getD r 0<d.kids.length/\0<=Bt d r/\Bt d r<(d.kids.getD ((d.buf 0).getD r 0) Bf).len
def unionP(d:Dat)(n:Nat):Prop:=∀i<n,PT d (d.ofs.toNat+i)
theorem unionP.succ{d:Dat}{n:Nat}:unionP d (n+1)↔unionP d n/\PT d (d.ofs.toNat+n):=
 ⟨fun h=>⟨fun i hi=>h i (by omega),h n (by omega)⟩,fun⟨h,k⟩ i hi=>by
  rcases Nat.lt_succ_iff_lt_or_eq.1 hi with hi|rfl
  ·exact h i hi
  ·exact k⟩
theorem unionP.le{d:Dat}{n m:Nat}(h:unionP d n)(hm:m<=n):unionP d m:=fun i hi=>h i (by omega)
theorem Gx(l:List Dat)(i:Nat)(h:i<l.length):List.take 1 (List.drop (i*6) (Bi l))=[.lit (.int .i64 (l.getD i Bf).len)]:=by
 have e:=congrArg (List.take 1) (C5 l i h)
 rw[List.take_take,BL]at e
 exact e
theorem WJ (f : Fld) (d : Dat) (hk : f.kind = 18) (hdd : Cn d) (hb2 : d.bufs.length = 2) (hnk : d.kids.length ≤ 140737488351232)
    (hl0 : d.ofs + d.len ≤ (d.buf 0).length) (hm0 : (d.buf 0).length ≤ 65536) (ha0 : AllB (d.buf 0)) (hl1 : 4 * (d.ofs + d.len) ≤ (d.buf 1).length) (hm1 : (d.buf 1).length ≤ 65536) (ha1 : AllB (d.buf 1)) (h : EH) :
    Tri Tryz.prog gs 72 [.agg (Bo f), .agg (Bs d)] h fun v h' => IsF0 (unionP d d.len.toNat) v ∧ h' = h := by
  have g1 := CA (l := d.bufs) (j := 1) (by omega)
  change List.take 1 (List.drop 1 (Bx d.bufs)) = [isB (d.buf 1)] at g1
  have g0 := CA (l := d.bufs) (j := 0) (by omega)
  change List.take 1 (List.drop 0 (Bx d.bufs)) = [isB (d.buf 0)] at g0
  have hsg : ∀ i : Nat, (i : Int) < d.len → ∀ h, Tri Tryz.prog gs 98 [isB (d.buf 1), .lit (.int .i64 (d.ofs.toNat + i : Nat))] h fun v h' => v = .lit (.int .i64 (Bt d (d.ofs.toNat + i))) ∧ h' = h := fun i hi h => by
    obtain ⟨a1, a2, a3⟩ := hdd;exact Ip _ _ hm1 ha1 (by omega) h
  have hF1 := fun a => Ds 85 a
  have hF2 := fun a => Ds 83 a
  have hsc := fun n => unionP.succ (d := d) (n := n)
  unfold PT at hsc;have hal := fun m => fun (h : unionP d d.len.toNat) (hm : m ≤ d.len.toNat) => h.le hm
  have hu0 : unionP d 0 := fun i hi => by omega
  have hkl := Gx d.kids;generalize isB (d.buf 1) = B1 at *;clear hl1 hm1 ha1;unfold Cn at hdd;generalize unionP d = DP, Bt d = OF at *;unfold isB at g0;obtain ⟨n, hn⟩ : ∃ n, n = (d.buf 0).length := ⟨_, rfl⟩;obtain ⟨c, hc⟩ : ∃ n, n = Br (d.buf 0) := ⟨_, rfl⟩;rw [← hn, ← hc] at g0;generalize d.buf 0 = b at *;rw [BF, BL] at *;rw [hb2];generalize d.len = len, d.ofs = ofs, d.nuls = nls, Bx d.bufs = cb, Bi d.kids = ck, d.dict.length = nd, Bi d.dict = cd at *;generalize d.kids = KS at *;obtain ⟨nk, hnke⟩ : ∃ n, n = KS.length := ⟨_, rfl⟩;rw [← hnke];generalize Bl f.kids = kc, f.kids.length = kn, f.nm = nm, f.nul = nul, f.kind = k, f.width = w, f.id = i, f.idx = ix at *;refine Tri.faultC0 rfl (Bj F72_ok fun I0 ρ0 w0 Q hρ hQ => ?_) h
  obtain ⟨A, hA⟩ : ∃ A, A = stdA := ⟨_, rfl⟩
  with_reducible refine Be hA hd hQ 200 ?hk ?_
  case hk => trivial
  conv => arg 9; cbv
  try simp only [OK]
  repeat' first | (with_reducible refine OKK.loop ?_) | ((with_reducible refine ⟨fun hbr => ?_, fun hbr => ?_⟩) <;> (try simp (disch := omega) only [hA, Ba] at hbr) <;> (try (with_reducible exfalso; omega))) | ((with_reducible refine Bd hA hd hQ 200 ?hk ?_); (case hk => trivial); (conv => arg 9; cbv); (try simp only [OK]))
  refine oK_ (msk 95 [2, 3, 4, 24, 25]) ?_
  refine oL_ (fun m st => ∃ (z : Int), st = ⟨mkT 95 [(2, .ptr 0 0), (3, .ptr 1 0), (4, .ptr 2 0), (24, .lit (.int .i64 len)), (25, .lit (.int .i64 z))],
      [.blk [.lit (.string nm), .lit (.bool nul), .lit (.int .i64 k), .lit (.int .i64 w), .lit (.int .i64 i), .lit (.int .i64 ix), .isl kn none kc],
       .blk [.lit (.int .i64 len), .lit (.int .i64 ofs), .lit (.int .i64 nls), .isl 2 none cb, .isl nk none ck, .isl nd none cd],
       .blk [.lit (.int .i64 0), .lit (.slice none 0 0), .lit (.int .i64 0)]]⟩ ∧
      m = (len - z).toNat ∧ 0 ≤ z ∧ z ≤ len ∧ DP z.toNat) (fun m st hs' ih => ?_) ⟨0, rfl, rfl, by omega, by omega, hu0⟩
  obtain ⟨z, rfl, hm, hz1, hz2, hap⟩ := hs';have hs2 := hsc z.toNat;have hrow : z < len → A.ib .add .i64 ofs z = ((ofs.toNat + z.toNat : Nat) : Int) := fun hz => by simp (disch := omega) only [hA, Ba] <;> omega
  have hn : z < len → ∀ h : EH, Tri Tryz.prog gs 98 [B1, .lit (.int .i64 (A.ib .add .i64 ofs z))] h fun v h' => v = .lit (.int .i64 (OF (ofs.toNat + z.toNat))) ∧ h' = h := fun hz h => by
    rw [hrow hz];exact hsg z.toNat (by omega) h
  obtain ⟨x, hx⟩ : ∃ x : Int, x = (b.getD (ofs.toNat + z.toNat) 0 : Nat) := ⟨_, rfl⟩;have hx1 : x < 256 := by have := ha0.get (ofs.toNat + z.toNat); omega
  have l0 : List.take 1 (List.drop (A.idx 0 0 1) cb) = [.isl n none c] := by rw [hA]; exact g0
  have l1 : List.take 1 (List.drop (A.idx 0 1 1) cb) = [B1] := by rw [hA]; exact g1
  have l2 : z < len → List.take 1 (List.drop (A.idx 0 (A.ib .add .i64 ofs z) 1) c) = [.lit (.int .u8 x)] := fun hz => by
    rw [hrow hz, hA, B3, Nat.zero_add, Nat.mul_one, hx, hc];exact DO b _ (by show ofs.toNat + z.toNat < _; omega)
  have hwx : A.wr .i64 x = ((b.getD (ofs.toNat + z.toNat) 0 : Nat) : Int) := by rw [← hx]; simp (disch := omega) only [hA, Ba] <;> omega
  obtain ⟨kl, hkl'⟩ : ∃ y : Int, y = (KS.getD (b.getD (ofs.toNat + z.toNat) 0) Bf).len := ⟨_, rfl⟩
  have l3 : x < nk → List.take 1 (List.drop (A.add (A.idx 0 (A.wr .i64 x) 6) 0) ck) = [.lit (.int .i64 kl)] := fun hz => by
    rw [hwx, hA, hkl', ← hkl (b.getD (ofs.toNat + z.toNat) 0) (by omega), B3]
    show List.take 1 (List.drop (0 + _ * 6 + 0) ck) = _;rw [Nat.zero_add, Nat.add_zero];rfl
  have hend : z = len → len.toNat = z.toNat := fun e => by rw [e]
  have hnext : z < len → (A.ib .add .i64 z 1).toNat = z.toNat + 1 := fun hz => by simp (disch := omega) only [hA, Ba]; omega
  have halz := hal (z.toNat + 1);generalize OF (ofs.toNat + z.toNat) = X at *
  with_reducible refine Be hA hd hQ 200 ?hk ?_
  case hk => trivial
  conv => arg 9; cbv
  try simp only [OK]
  repeat' first | (with_reducible refine OKK.again ?_) | ((with_reducible refine ⟨fun hbr => ?_, fun hbr => ?_⟩) <;> (try simp (disch := omega) only [hA, Ba] at hbr) <;> (try (with_reducible exfalso; omega))) | ((with_reducible refine Bd hA hd hQ 200 ?hk ?_); (case hk => trivial); (conv => arg 9; cbv); (try simp only [OK])) | ((with_reducible refine Bp ?hn ?_); (case hn => ((simp (disch := omega) only [hA, Ba]) <;> omega))) | ((refine ⟨_, _, ?l1, l0, rfl, ?_⟩); (case l1 => exact rfl)) | ((refine ⟨_, _, ?l1, l1, rfl, ?_⟩); (case l1 => exact rfl)) | ((refine ⟨_, _, ?l1, (l2 (by omega)), rfl, ?_⟩); (case l1 => exact rfl)) | ((refine ⟨_, _, ?l1, (l3 (by omega)), rfl, ?_⟩); (case l1 => exact rfl)) | ((with_reducible refine cO ?hg ?_); (case hg => with_reducible exact Bb F98_ok); refine tM (hn (by omega) _) ?_; rintro _ _ ⟨rfl, rfl⟩) | ((with_reducible refine cO ?hg ?_); (case hg => with_reducible exact Bb F44_ok); refine tM (hF1 _ _) ?_; rintro _ _ ⟨rfl, rfl⟩) | ((with_reducible refine cO ?hg ?_); (case hg => with_reducible exact Bb F44_ok); refine tM (hF2 _ _) ?_; rintro _ _ ⟨rfl, rfl⟩)
  · refine FinR.f0 rfl (Up.refl _) (iff_of_false (by decide) fun hh => ?_)
    have := (hs2.1 (halz hh (by omega))).2.1
    have hbr9 : (nk : Int) ≤ A.wr .i64 x := by first | exact hbr | (rw [hA]; exact hbr) | (rw [hwx]; omega)
    rw [hwx] at hbr9;omega
  · refine FinR.f0 rfl (Up.refl _) (iff_of_false (by decide) fun hh => ?_)
    have := (hs2.1 (halz hh (by omega))).2
    omega
  · refine FinR.f0 rfl (Up.refl _) (iff_of_false (by decide) fun hh => ?_)
    have := (hs2.1 (halz hh (by omega))).2
    omega
  · refine oK_ (msk 95 [2, 3, 4, 24, 25]) (OKs.mv [0, 1, 2] [] (by rw [hρ]; rfl) ⟨by decide, by simp [Bc], by simp⟩ (ih _ _ ⟨_, rfl, rfl, ?_, ?_, ?_⟩ ?_))
    · simp (disch := omega) only [hA, Ba]; omega
    · simp (disch := omega) only [hA, Ba]; omega
    · rw [hnext (by omega)]
      refine hs2.2 ⟨hap, ?_, ?_, ?_⟩ <;> omega
    · simp (disch := omega) only [hA, Ba]; omega
  · refine FinR.f0 rfl (Up.nil []) (iff_of_true rfl ?_)
    rw [hend (by omega)]
    exact hap
def C3(d:Dat):Nat->Int
 |0=>0
 |i+1=>Bt d (d.ofs.toNat+i)
def offP(d:Dat)(T:Int)(n:Nat):Prop:=∀i<n,C3 d i<=C3 d (i+1)/\C3 d (i+1)<=T
theorem offP.succ{d:Dat}{T:Int}{n:Nat}:offP d T (n+1)↔offP d T n/\C3 d n<=C3 d (n+1)/\C3 d (n+1)<=T:=
 ⟨fun h=>⟨fun i hi=>h i (by omega),h n (by omega)⟩,fun⟨h,k⟩ i hi=>by
  rcases Nat.lt_succ_iff_lt_or_eq.1 hi with hi|rfl
  ·exact h i hi
  ·exact k⟩
theorem offP.le{d:Dat}{T:Int}{n m:Nat}(h:offP d T n)(hm:m<=n):offP d T m:=fun i hi=>h i (by omega)
def Ee(k:Int)(d:Dat):Int:=if k=15 then (d.kids.getD 0 Bf).len else ((d.buf 2).length:Nat)
def Bv(d:Dat):List Dat:=if 0<d.dict.length then d.dict else d.kids
theorem Ug(d:Dat)(h:EH):Tri Tryz.prog gs 73 [.agg (Bs d)] h fun v h'=>v = .isl (Bv d).length none (Bi (Bv d))/\h'=h:=by
 have e:EV.isl (Bv d).length none (Bi (Bv d))=if 0<d.dict.length then .isl d.dict.length none (Bi d.dict)else .isl d.kids.length none (Bi d.kids):=by
  unfold Bv;split<;>rfl
 rw[e,BL]
 clear e
 generalize d.len=len,d.ofs=ofs,d.nuls=nls,d.bufs.length=nb,d.kids.length=nk,Bx d.bufs=cb,Bi d.kids=ck,d.dict.length=nd,Bi d.dict=cd at *
 refine Tri.valA (by split<;>rfl) rfl (Bj F73_ok fun I0 ρ0 w0 Q hρ hQ=>?_) h
 obtain⟨A,hA⟩:∃A,A=stdA:=⟨_,rfl⟩
 with_reducible refine Be hA hd hQ 200 ?hk ?_
 case hk=>trivial
 conv=>arg 9;cbv
 try simp only[OK]
 repeat' first|((with_reducible refine⟨fun hbr=>?_,fun hbr=>?_⟩)<;>(try simp(disch:=omega)only[hA,Ba]at hbr)<;>(try (with_reducible exfalso;omega)))|((with_reducible refine Bd hA hd hQ 200 ?hk ?_);(case hk=>trivial);(conv=>arg 9;cbv);(try simp only[OK]))
 ·exact fI_ rfl (by rw[if_pos (by omega)];rfl)
 ·exact fI_ rfl (by rw[if_neg (by omega)];rfl)
def Cz:Fld:=.mk ⟨#[101,110,100,115]⟩ false 5 0 0 0 []
def Bz(f:Fld)(j:Nat):Fld:=if f.kind=20 then (if j=0 then Cz else f.kids.getD 0 BQ)else f.kids.getD j BQ
theorem V4(f:Fld)(j:Nat)(hk:f.kind=20->j<=1/\f.kids.length=1)(hj:f.kind≠20->j<f.kids.length)(h:EH) :
  Tri Tryz.prog gs 74 [.agg (Bo f),.lit (.int .i64 j)] h fun v h'=>v = .agg (Bo (Bz f j))/\h'=h:=by
 have g0:f.kind=20->_:=fun e=>D5 f.kids 0 (by have:=hk e;omega)
 have gj:f.kind≠20->_:=fun e=>D5 f.kids j (hj e)
 have e1:f.kind=20->j=0->Bz f j=Cz:=fun a b=>by unfold Bz;rw[if_pos a,if_pos b]
 have e2:f.kind=20->j≠0->Bz f j=f.kids.getD 0 BQ:=fun a b=>by unfold Bz;rw[if_pos a,if_neg b]
 have e3:f.kind≠20->Bz f j=f.kids.getD j BQ:=fun a=>by unfold Bz;rw[if_neg a]
 have g1:f.kind=20->j≠0->List.take 7 (List.drop (0*7) (Bl f.kids))=Bo (Bz f j):=fun a b=>by rw[e2 a b];exact g0 a
 have g2:f.kind≠20->List.take 7 (List.drop (j*7) (Bl f.kids))=Bo (Bz f j):=fun a=>by rw[e3 a];exact gj a
 have e4:f.kind=20->j=0->Bo (Bz f j)=[.lit (.string ⟨#[101,110,100,115]⟩),.lit (.bool false),.lit (.int .i64 5),.lit (.int .i64 0),.lit (.int .i64 0),.lit (.int .i64 0),.isl 0 none []]:=fun a b=>by rw[e1 a b];rfl
 clear g0 gj e1 e2 e3
 generalize hP:Bo (Bz f j)=P at *
 have hP7:∃a b c d e g x y,P=[.lit (.string a),.lit (.bool b),.lit (.int .i64 c),.lit (.int .i64 d),.lit (.int .i64 e),.lit (.int .i64 g),.isl x none y]:=by
  rw[<-hP,BF];exact⟨_,_,_,_,_,_,_,_,rfl⟩
 obtain⟨p1,p2,p3,p4,p5,p6,p7,p8,rfl⟩:=hP7
 clear hP
 rw[BF]
 obtain⟨j',hj'⟩:∃q:Int,q=j:=⟨_,rfl⟩
 rw[<-hj']
 generalize Bl f.kids=kc,f.kids.length=kn,f.nm=nm,f.nul=nul,f.kind=k,f.width=w,f.id=i,f.idx=ix at *
 refine Tri.valA rfl rfl (Tri.up (R:=fun v _=>Up v (.agg [.lit (.string p1),.lit (.bool p2),.lit (.int .i64 p3),.lit (.int .i64 p4),.lit (.int .i64 p5),.lit (.int .i64 p6),.isl p7 none p8])) (Bj F74_ok fun I0 ρ0 w0 Q hρ hQ=>?_) fun v h' hu=>⟨_,rfl,hu⟩) h
 obtain⟨A,hA⟩:∃A,A=stdA:=⟨_,rfl⟩
 have l1:k=20->j'≠0->List.take 7 (List.drop (A.idx 0 0 7) kc)=_:=fun a b=>(show A.idx 0 0 7=0*7 by rw[hA];rfl)▸g1 a (by omega)
 have l2:k≠20->List.take 7 (List.drop (A.idx 0 j' 7) kc)=_:=fun a=>(show A.idx 0 j' 7=j*7 by rw[hA,B3];omega)▸g2 a
 with_reducible refine Be hA hd hQ 200 ?hk ?_
 case hk=>trivial
 conv=>arg 9;cbv
 try simp only[OK]
 repeat' first|((with_reducible refine⟨fun hbr=>?_,fun hbr=>?_⟩)<;>(try simp(disch:=omega)only[hA,Ba]at hbr)<;>(try (with_reducible exfalso;omega)))|((with_reducible refine Bd hA hd hQ 200 ?hk ?_);(case hk=>trivial);(conv=>arg 9;cbv);(try simp only[OK]))|((with_reducible refine Bp ?hn ?_);(case hn=>((simp(disch:=omega)only[hA,Ba])<;>omega)))|((refine⟨_,_,?l1,(l1 (by omega) (by omega)),rfl,?_⟩);(case l1=>exact rfl))|((refine⟨_,_,?l1,(l2 (by omega)),rfl,?_⟩);(case l1=>exact rfl))
 ·refine fI_ rfl ?_
  rw[e4 (by omega) (by omega)]
  exact Up.agg7 (Up.nil [])
 all_goals exact fI_ rfl (Up.refl _)
end Go.Proofs.YtehgpabfgjofhaaGreatDoor.Stats
