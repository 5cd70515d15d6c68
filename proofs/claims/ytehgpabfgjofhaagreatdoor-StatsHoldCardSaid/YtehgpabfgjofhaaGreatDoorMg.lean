/- No conditions. -/
import Derived.Test.YtehgpabfgjofhaaGreatDoorMf
import Derived.Test.YtehgpabfgjofhaaGreatDoorX37
set_option linter.unusedVariables false
set_option linter.unusedSimpArgs false
set_option maxRecDepth 100000
set_option maxHeartbeats 16000000
namespace Go.Proofs.YtehgpabfgjofhaaGreatDoor.Stats
open Go Go.Proofs.YtehgpabfgjofhaaGreatDoor Go.Proofs.YtehgpabfgjofhaaGreatDoor.Em Go.Proofs
theorem YI(f:Fld)(d:Dat)(a b:Int)(h:EH):Tri Tryz.prog gs 13 [BT f d a b] h fun v h'=>v = .lit (.int .i64 b)/\h'=h:=by
 have hl:=(C9 f d a b).num
 unfold BT
 generalize B2 f d a b=AC at *
 refine Tri.valA rfl rfl (Bj F13_ok fun I0 ρ0 w0 Q hρ hQ=>?_) h
 obtain⟨A,hA⟩:∃A,A=stdA:=⟨_,rfl⟩
 have hl:=hl A hA
 with_reducible refine Be hA hd hQ 200 ?hk ?_
 case hk=>trivial
 conv=>arg 9;cbv
 try simp only[OK]
 repeat' first|((with_reducible refine Bd hA hd hQ 200 ?hk ?_);(case hk=>trivial);(conv=>arg 9;cbv);(try simp only[OK]))|((refine⟨_,_,?l1,hl,rfl,?_⟩);(case l1=>exact rfl))
 all_goals exact fI_ rfl rfl
def ofP(k:Int)(Y:List Val)(s:StP):Prop:=
 s.rows=Y.length/\s.nulls=CD Y/\((s.has=false/\s.l.none/\s.m.none)\/
  (s.has=true/\(2<=k/\k<=14)/\CD Y≠Y.length/\s.l.bnd k/\s.m.bnd k/\∀v∈Y,v.null=false->BZ k s.l.n v.num s.l.t v.text<=0/\BZ k v.num s.m.n v.text s.m.t<=0))
def OfV(f:Fld)(d:Dat)(k:Int)(v:EV):Prop:=∃(s:StP) (e:Int),v = .tup [.agg s.cells,.lit (.int .i64 e)]/\s.ok/\
 ((e≠0/\¬(B7 f/\BS f d))\/(e=0/\B7 f/\BS f d/\ofP k (Cg f d) s))
theorem JW(f:Fld)(d:Dat):(Cg f d).length=d.len.toNat:=by unfold Cg;rw[List.length_map,RG]
theorem zCd(f:Fld)(d:Dat)(j:Nat):(Cg f d).getD j Bw=((CM f d).getD j (Bw,0)).1:=by
 unfold Cg
 rw[lG,List.getElem?_map,lG]
 cases (CM f d)[j]?<;>rfl
theorem Rw{f g:Fld}{d:Dat}(hc:Core f g)(ho:okP f d)(hsm:Cu f)(hk:2<=g.kind/\g.kind<=14):∀v∈Cg f d,EQ g.kind v:=fun v hv=>by
 unfold Cg CM at hv
 rw[List.map_map]at hv
 obtain⟨i,hi,rfl⟩:=List.mem_map.1 hv
 exact WY hc ho hsm hk i (List.mem_range.1 hi)
theorem Up.agg11{a b c d e f g h i y z y' z':EV}(h1:Up y y')(h2:Up z z'):Up (.agg [a,b,c,d,e,f,y,g,h,i,z]) (.agg [a,b,c,d,e,f,y',g,h,i,z']):=Up.agg rfl fun j p q hp hq=>by
 match j,hp,hq with
 |0,hp,hq=>simp at hp hq;subst hp;subst hq;exact Up.refl _
 |1,hp,hq=>simp at hp hq;subst hp;subst hq;exact Up.refl _
 |2,hp,hq=>simp at hp hq;subst hp;subst hq;exact Up.refl _
 |3,hp,hq=>simp at hp hq;subst hp;subst hq;exact Up.refl _
 |4,hp,hq=>simp at hp hq;subst hp;subst hq;exact Up.refl _
 |5,hp,hq=>simp at hp hq;subst hp;subst hq;exact Up.refl _
 |6,hp,hq=>simp at hp hq;subst hp;subst hq;exact h1
 |7,hp,hq=>simp at hp hq;subst hp;subst hq;exact Up.refl _
 |8,hp,hq=>simp at hp hq;subst hp;subst hq;exact Up.refl _
 |9,hp,hq=>simp at hp hq;subst hp;subst hq;exact Up.refl _
 |10,hp,hq=>simp at hp hq;subst hp;subst hq;exact h2
 |j+11,hp,hq=>simp at hp
theorem zAb(f g:Fld)(d:Dat)(hok:okF f)(hokd:okA d)(hm:B7 f)(hv:BS f d)(hcore:Core f g)(hg:CJ g)(nm:ByteArray)(nul:Bool) :
  Tri Tryz.prog gs 31 [.yl 6,.iptr [.iptr (B2 f d d.ofs d.len) 0] 0] (HO (PCc nm nul g.kind g.width g.id g.idx g.kids.length (Bl g.kids)) d.len 0 zV zV false (LTo (B2 f d d.ofs d.len)) LAo LBo 0)
   fun v h'=>∃nl lc mc has tl,OfI g.kind (Cg f d) (Cg f d).length nl lc mc has/\h'=HO (PCc nm nul g.kind g.width g.id g.idx g.kids.length (Bl g.kids)) d.len nl lc mc has (LTo (B2 f d d.ofs d.len)) LAo LBo 0++tl:=by
 have hs:=SubF.of hok hm
 have hsm:=H0 (Ei hm)
 have ho:=okP.ofV hs hokd hv
 have own:=W7 _ f d (Nat.le_refl _) ho hsm
 have hlen:=ho.sz.len
 unfold Cn at hlen
 have hsum:BA ((CM f d).map (·.2))<=4194304:=Ps hv
 have hrl:=RG f d
 have hwt:∀j,j<(CM f d).length->((CM f d).getD j (Bw,0)).2<=4194304:=fun j hj=>by have:=HR (CM f d) j (Bw,0) hj;omega
 have:=zBb nm nul g.kind g.width g.id g.idx g.kids.length (Bl g.kids) (B2 f d d.ofs d.len) (LTo (B2 f d d.ofs d.len)) LAo LBo (Jd _) d.len (CM f d) d.len.toNat hrl.symm (by omega) hsum
  (fun A hA=>by rw[Int.toNat_of_nonneg hlen.1];exact(C9 f d d.ofs d.len).num A hA)
  (fun j hj h=>by
   have hw:=hwt j hj;rw[JR f d j (by omega)]at hw ⊢
   exact W6 f d j own (by omega) hw h)
  (fun j z nl lc mc has hj hI=>Y8 nm nul g.kind g.width g.id g.idx g.kids.length (Bl g.kids) (B2 f d d.ofs d.len) d.len (fun hk=>Rk hg hk) (Cg f d) (by rw[JW];omega) (fun hk=>Rw hcore ho hsm hk) j (by rw[JW];omega) z nl lc mc has hI _ (zCd f d j))
 rw[show (Cg f d).length=(CM f d).length by rw[JW,hrl]]
 exact this
abbrev L6:List Nat:=[0,1,2,3,4,5]
theorem zAc{PC lc mc T:List EV}{len nl:Int}{has:Bool}{LA LB:EC}{st:Nat}(hP:clL PC=true)(hlc:clL lc=true)(hmc:clL mc=true)(t:EH) :
  mvH L6 [] (BG (HO PC len nl lc mc has T LA LB st++t) 6 .dead) L6=[.blk z11,.blk PC,.blk ([.lit (.int .i64 len),.lit (.int .i64 nl),.lit (.bool false)]++zV++zV),.blk lc,.blk mc,.blk [.lit (.bool has)]]:=by
 show ([.blk z11,.blk (mvL _ _ PC),.blk ([.lit (.int .i64 len),.lit (.int .i64 nl),.lit (.bool false)]++zV++zV),.blk (mvL _ _ lc),.blk (mvL _ _ mc),.blk [.lit (.bool has)]]:EH)=_
 rw[BR _ _ _ hP,BR _ _ _ hlc,BR _ _ _ hmc]
theorem SS{k:Int}{Y:List Val}(hY:∀v∈Y,EQ k v){n:Int}{t:ByteArray}(h:Val.mk false n t []∈Y):t.size<=65536/\(12<=k->n=0):=by
 rcases hY _ h with e|⟨n',t',e,a,b,c⟩
 ·cases e
 ·cases e
  refine⟨b,fun h=>?_⟩
  rw[if_pos h]at c;exact c
theorem st0_ok:st0.ok:=by refine⟨?_,?_,⟨?_,?_,?_⟩,?_,?_,?_⟩<;>first|decide|(unfold BH;decide)
theorem YA(f g:Fld)(d:Dat)(hok:okF f)(hokd:okA d)(hcore:B7 f->Core f g/\CJ g) :
  Tri Tryz.prog gs 4 [.agg (Bo f),.agg (Bs d)] [] fun v h'=>∃v',OfV f d g.kind v'/\Up v v':=by
 have hck:=Kj f hok
 have hop:=zDl f d hok hokd
 have hpl:=Hid.mk fun hm:B7 f=>N4 f g (Ei hm) (hcore hm).1
 have hal:=zDt (B2 f d d.ofs d.len) (Vr _ _ _ _)
 have hln:=YI f d d.ofs d.len
 unfold BT at hln
 have hiter:=Hid.mk fun(hm:B7 f) (hv:BS f d)=>zAb f g d hok hokd hm hv (hcore hm).1 (hcore hm).2
 have hYl:=Hid.mk fun(hm:B7 f) (hv:BS f d)=>(by
  have hlen:=(Ii hokd hv).len;unfold Cn at hlen;exact⟨by rw[JW,Int.toNat_of_nonneg hlen.1],by omega⟩:((Cg f d).length:Int)=d.len/\d.len<=4096)
 have hpl2:=Hid.mk fun(hm:B7 f) (hv:BS f d)=>(fun hk=>Rw (hcore hm).1 (okP.ofV (SubF.of hok hm) hokd hv) (H0 (Ei hm)) hk:2<=g.kind/\g.kind<=14->∀v∈Cg f d,EQ g.kind v)
 unfold OpV at hop
 unfold OfV
 generalize B7 f=MF,BS f d=VF at *
 generalize hYY:Cg f d=Y at *
 generalize B2 f d d.ofs d.len=AC at *
 have hgk:12<=g.kind/\g.kind<=14->True:=fun _=>trivial
 unfold PlainV at hpl
 rw[BF]at *
 rw[BL]at *
 generalize Bl g.kids=gkc,g.kids.length=gkn,g.kind=gk,g.width=gw,g.id=gi,g.idx=gix at *
 generalize Bl f.kids=kc,f.kids.length=kn,f.nm=nm,f.nul=nul,f.kind=k,f.width=w,f.id=i,f.idx=ix at *
 generalize d.len=len,d.ofs=ofs,d.nuls=nls,d.bufs.length=nb,Bx d.bufs=cb,d.kids.length=nk,Bi d.kids=ck,d.dict.length=nd,Bi d.dict=cd at *
 refine Bj F4_ok fun I0 ρ0 w0 Q hρ hQ=>?_
 obtain⟨A,hA⟩:∃A,A=stdA:=⟨_,rfl⟩
 with_reducible refine Be hA hd hQ 200 ?hk ?_
 case hk=>trivial
 conv=>arg 9;cbv
 try simp only[OK]
 repeat' first|((with_reducible refine⟨fun hbr=>?_,fun hbr=>?_⟩)<;>(try simp(disch:=omega)only[hA,Ba]at hbr)<;>(try (with_reducible exfalso;omega)))|((with_reducible refine Bd hA hd hQ 200 ?hk ?_);(case hk=>trivial);(conv=>arg 9;cbv);(try simp only[OK]))|((with_reducible refine cO ?hg ?_);(case hg=>with_reducible exact Bb F10_ok);(refine tM (hck _) fun v hh hx=>?_);(obtain⟨⟨e,at',pn,pc,hv,he⟩,hh'⟩:=hx;subst hv;subst hh'))
 ·exact fI_ rfl ⟨_,⟨st0,5,rfl,st0_ok,.inl ⟨by decide,fun h=>hbr (he.2 h.1)⟩⟩,Up.tup2 (Up.agg11 (Up.nil _) (Up.nil _)) (Up.refl _)⟩
 refine cO (Bb F11_ok) (tM (hop _) fun v hh hx=>?_)
 obtain⟨hor,hh'⟩:=hx
 subst hh'
 rcases hor with ⟨e2,a2,pn2,pc2,he2,hv,hno⟩|⟨hv,hMF,hVF⟩<;>subst hv
 all_goals
  with_reducible refine Bd hA hd hQ 1 ?hk ?_
  case hk=>trivial
  conv=>arg 9;cbv
  try simp only[OK]
 all_goals
  repeat' first|(with_reducible refine OKK.rfS ?_)|(with_reducible refine And.intro trivial ?_)|((with_reducible refine⟨fun hbr=>?_,fun hbr=>?_⟩)<;>(try simp(disch:=omega)only[hA,Ba]at hbr)<;>(try (with_reducible exfalso;omega)))|((with_reducible refine Bd hA hd hQ 1 ?hk ?_);(case hk=>trivial);(conv=>arg 9;cbv);(try simp only[OK]))|((with_reducible refine cO ?hg ?_);(case hg=>with_reducible exact Bb F13_ok);refine tM (hln _) ?_;rintro _ _ ⟨rfl,rfl⟩)|((with_reducible refine cO ?hg ?_);(case hg=>with_reducible exact Bb F14_ok);refine tM (hal _) ?_;rintro _ _ ⟨rfl,rfl⟩)|((with_reducible refine cO ?hg ?_);(case hg=>with_reducible exact Bb F12_ok);(refine tM ((hpl.out (by assumption)) _) fun v hh hx=>?_);(obtain⟨⟨gnm,gnul,hv⟩,hh'⟩:=hx;subst hv;subst hh'))
 ·exact fI_ rfl ⟨_,⟨st0,e2,rfl,st0_ok,.inl ⟨he2,hno⟩⟩,Up.tup2 (Up.agg11 (Up.nil _) (Up.nil _)) (Up.refl _)⟩
 refine oK_ (msk 99 [4,8,9,10,11,12,40]) (OKs.mv [2,4,5,6,7,8] [] (by rw[hρ];rfl) ⟨by decide,by simp[Bc],by simp⟩ ?_)
 refine OKs.rf (av:=[]) (bv:=[.iptr [.iptr AC 0] 0]) (gf:=31) rfl (Bb F31_ok) (hiter.out hMF hVF gnm gnul) fun v h' hx=>?_
 obtain⟨nl,lc,mc,has,tl,hI,rfl⟩:=hx
 obtain⟨hlc,hmc⟩:=hI.cl
 refine⟨LTo AC,[41,42],LAo,LBo,0,none,rfl,by decide,?_⟩
 refine oK_ (msk 99 [4,8,9,10,11,12]) (OKs.mvE L6 [] (by rw[hρ];rfl) ⟨by decide,fun id hid=>?_,by simp⟩ (zAc rfl hlc hmc tl) ?_)
 ·have:id<6:=by revert hid;revert id;decide
  show id<_;show id<Bc tl+1+1+1+1+1+1+1;omega
 obtain⟨hY1,hY2⟩:=hYl.out hMF hVF
 have hnn:=Hq Y
 obtain⟨hnl,hor⟩:=hI
 rw[List.take_length]at hnl
 rcases hor with ⟨rfl,rfl,rfl,hall⟩|⟨rfl,hk,ln,lt,mn,mt,rfl,rfl,hl,hm,hall⟩
 ·unfold z11 zV PCc
  with_reducible refine Be hA hd hQ 200 ?hk ?_
  case hk=>trivial
  conv=>arg 9;cbv
  try simp only[OK]
  exact fI_ rfl ⟨_,⟨⟨len,nl,false,vp0,vp0⟩,0,rfl,⟨by show BH len;unfold BH;omega,by show BH nl;unfold BH;omega,st0_ok.2.2.1,st0_ok.2.2.2⟩,.inr ⟨rfl,hMF,hVF,hY1.symm,hnl,.inl ⟨rfl,⟨rfl,rfl,rfl,rfl⟩,⟨rfl,rfl,rfl,rfl⟩⟩⟩⟩,Up.tup2 (Up.agg11 (Up.nil _) (Up.nil _)) (Up.refl _)⟩
 ·rw[List.take_length]at hl hm hall
  obtain⟨l1,l2⟩:=Lw (hpl2.out hMF hVF hk) (j:=Y.length) (by rw[List.take_length];exact hl)
  obtain⟨m1,m2⟩:=Lw (hpl2.out hMF hVF hk) (j:=Y.length) (by rw[List.take_length];exact hm)
  have hne:CD Y≠Y.length:=fun h=>by
   have:=List.filter_eq_self.1 (List.filter_sublist.eq_of_length h:Y.filter Val.null=Y) _ hl;cases this
  have l3:=SS (hpl2.out hMF hVF hk) hl;have m3:=SS (hpl2.out hMF hVF hk) hm;have hti:=Jq gk;have hc1:=Yd lt l3.1;have hr1:=zCw mt m3.1;have hcl:=zCs lt (min lt.size 16);have hcs:=zCy lt;generalize lt.extract 0 (min lt.size 16)=ct at *;have hi:∀z:Int,0<=z->z<=4096->BH z:=fun z h1 h2=>by unfold BH;omega
  unfold z11 zV PCc vC
  with_reducible refine Be hA hd hQ 200 ?hk ?_
  case hk=>trivial
  conv=>arg 9;cbv
  try simp only[OK]
  repeat' first|(with_reducible refine And.intro trivial ?_)|((with_reducible refine⟨fun hbr=>?_,fun hbr=>?_⟩)<;>(try simp(disch:=omega)only[reduceCtorEq]at hbr)<;>(try (with_reducible exfalso;omega)))|((with_reducible refine Bd hA hd hQ 200 ?hk ?_);(case hk=>trivial);(conv=>arg 9;cbv);(try simp only[OK]))|((with_reducible refine cO ?hg ?_);(case hg=>with_reducible exact Bb F17_ok);(refine tM (hti _) fun v hh hx=>?_);(obtain⟨⟨b,hv,hb⟩,he⟩:=hx;subst hv;subst he;cases b<;>simp(disch:=omega)only[bF,true_iff,false_iff,eq_self]at hb)<;>(try (with_reducible exfalso;omega)))|((with_reducible refine cO ?hg ?_);(case hg=>with_reducible exact Bb F18_ok);refine tM (hc1 _) ?_;rintro _ _ ⟨rfl,rfl⟩)|((with_reducible refine cO ?hg ?_);(case hg=>with_reducible exact Bb F19_ok);(refine tM (hr1 _) fun v hh hx=>?_);(obtain⟨⟨rt,rb,hv,hr⟩,hh⟩:=hx;subst hv;subst hh;cases rb))
  ·have h11:¬12<=gk:=by omega
   refine fI_ rfl ⟨_,⟨⟨len,nl,true,⟨false,ln,lt,0,[]⟩,⟨false,mn,mt,0,[]⟩⟩,0,rfl,⟨hi len (by omega) (by omega),hi nl (by omega) (by omega),⟨l1,by have:=l3.1;show lt.size<=140737488351232;omega,Nat.zero_le _⟩,m1,by have:=m3.1;show mt.size<=140737488351232;omega,Nat.zero_le _⟩,.inr ⟨rfl,hMF,hVF,hY1.symm,hnl,.inr ⟨rfl,hk,hne,⟨rfl,rfl,?_⟩,⟨rfl,rfl,?_⟩,hall⟩⟩⟩,Up.refl _⟩
   ·rw[if_neg h11];exact l2 (by omega)
   ·rw[if_neg h11];exact m2 (by omega)
  ·exact fI_ rfl ⟨_,⟨⟨len,nl,false,vp0,vp0⟩,0,rfl,⟨hi len (by omega) (by omega),hi nl (by omega) (by omega),st0_ok.2.2.1,st0_ok.2.2.2⟩,.inr ⟨rfl,hMF,hVF,hY1.symm,hnl,.inl ⟨rfl,⟨rfl,rfl,rfl,rfl⟩,⟨rfl,rfl,rfl,rfl⟩⟩⟩⟩,Up.tup2 (Up.agg11 (Up.nil _) (Up.nil _)) (Up.refl _)⟩
  ·have h12:12<=gk:=hb.1
   obtain⟨r1,r2⟩:=hr rfl;have o1:∀n m:Int,∀a b,BZ gk n m a b=C1 a b:=fun n m a b=>by unfold BZ;rw[if_pos h12]
   refine fI_ rfl ⟨_,⟨⟨len,nl,true,⟨false,ln,ct,0,[]⟩,⟨false,mn,rt,0,[]⟩⟩,0,rfl,⟨hi len (by omega) (by omega),hi nl (by omega) (by omega),⟨l1,by show ct.size<=140737488351232;omega,Nat.zero_le _⟩,m1,by show rt.size<=140737488351232;omega,Nat.zero_le _⟩,.inr ⟨rfl,hMF,hVF,hY1.symm,hnl,.inr ⟨rfl,hk,hne,⟨rfl,rfl,?_⟩,⟨rfl,rfl,?_⟩,fun v hv hvn=>?_⟩⟩⟩,Up.refl _⟩
   ·rw[if_pos h12];exact⟨l3.2 h12,hcs⟩
   ·rw[if_pos h12];exact⟨m3.2 h12,r1⟩
   ·obtain⟨a,b⟩:=hall v hv hvn
    exact⟨Dx (b:=ln) (u:=lt) (by rw[o1];exact hcl) a,Dx (b:=mn) (u:=mt) b (by rw[o1];exact r2)⟩
theorem OfV.cl{f:Fld}{d:Dat}{k:Int}{v:EV}(h:OfV f d k v):clE v=true:=by obtain⟨s,e,rfl,_⟩:=h;rfl
theorem TV(f g:Fld)(d:Dat)(hok:okF f)(hokd:okA d)(hcore:B7 f->Core f g/\CJ g)(h:EH) :
  Tri Tryz.prog gs 4 [.agg (Bo f),.agg (Bs d)] h fun v h'=>OfV f d g.kind v/\h'=h:=
 Tri.litC (φ:=fun v=>OfV f d g.kind v) (fun v hv=>hv.cl) (by rw[BF,BL];rfl) (Tri.up (R:=fun v _=>∃v',OfV f d g.kind v'/\Up v v') (YA f g d hok hokd hcore) fun v h' ⟨v',h1,h2⟩=>⟨v',h1,h2⟩) h
theorem zDy(Y Z:List Val):CD (Y++Z)=CD Y+CD Z:=by unfold CD;rw[List.filter_append,List.length_append]
theorem Z3{Y:List Val}(h:CD Y≠Y.length):∃v∈Y,v.null=false:=by
 refine Classical.byContradiction fun hn=>h ?_
 unfold CD
 rw[List.filter_eq_self.2 fun v hv=>?_]
 cases hv2:v.null with
 |true=>rfl
 |false=>exact absurd ⟨v,hv,hv2⟩ hn
theorem ofP.may{k:Int}{Y:List Val}{s:StP}(h:ofP k Y s)(hY:Y.length<=4096):s.may k:=by
 obtain⟨h1,h2,h3⟩:=h
 have hn:=Hq Y
 refine⟨by omega,by omega,by omega,by omega,fun hh=>?_,fun hh=>?_⟩
 ·rcases h3 with ⟨_,a,b⟩|⟨a,_⟩
  ·exact⟨a,b⟩
  ·rw[hh]at a;cases a
 ·rcases h3 with ⟨a,_⟩|⟨_,hk,hne,hl,hm,hall⟩
  ·rw[hh]at a;cases a
  ·obtain⟨v,hv,hvn⟩:=Z3 hne
   obtain⟨a,b⟩:=hall v hv hvn;exact⟨hk,by omega,hl,hm,Dx a b⟩
def holdP(k:Int)(Y:List Val)(s:StP):Prop:=
 s.rows=Y.length/\s.nulls=CD Y/\(s.has=true->(2<=k/\k<=14)/\s.l.b=false/\s.l.ln=0/\s.m.b=false/\s.m.ln=0/\
  ∀v∈Y,v.null=false->BZ k s.l.n v.num s.l.t v.text<=0/\BZ k v.num s.m.n v.text s.m.t<=0)
theorem ofP.hold{k:Int}{Y:List Val}{s:StP}(h:ofP k Y s):holdP k Y s:=by
 obtain⟨h1,h2,h3⟩:=h
 refine⟨h1,h2,fun hh=>?_⟩
 rcases h3 with ⟨a,_⟩|⟨_,hk,hne,hl,hm,hall⟩
 ·rw[hh]at a;cases a
 ·exact⟨hk,hl.1,hl.2.1,hm.1,hm.2.1,hall⟩
theorem holdP.same{k:Int}{Y:List Val}{s t:StP}(h:holdP k Y t)(e:s.same t):holdP k Y s:=by
 obtain⟨h1,h2,h3⟩:=h
 obtain⟨e1,e2,e3,⟨l1,l2,l3,l4,l5⟩,⟨m1,m2,m3,m4,m5⟩⟩:=e
 refine⟨by rw[e1];exact h1,by rw[e2];exact h2,fun hh=>?_⟩
 obtain⟨a,b,c,d,f,g⟩:=h3 (by rw[<-e3];exact hh)
 refine⟨a,by rw[l1];exact b,l4,by rw[m1];exact d,m4,?_⟩
 rw[l2,l3,m2,m3]
 exact g
theorem ofP.all{k:Int}{Y:List Val}{s:StP}(h:ofP k Y s)(e:s.nulls=s.rows):s.has=false/\s.l.none/\s.m.none/\∀v∈Y,v.null=true:=by
 obtain⟨h1,h2,h3⟩:=h
 have hall:∀v∈Y,v.null=true:=fun v hv=>by
  have:(Y.filter Val.null).length=Y.length:=by show CD Y=_;omega
  exact List.filter_eq_self.1 (List.filter_sublist.eq_of_length this) v hv
 rcases h3 with ⟨a,b,c⟩|⟨_,_,hne,_⟩
 ·exact⟨a,b,c,hall⟩
 ·exact absurd (by omega) hne
theorem LL{t:ByteArray}(h:t.size=0):t=⟨#[]⟩:=by
 cases t with
 |mk d=>
  have:d.size=0:=h;rw[Array.size_eq_zero_iff.1 this]
theorem UI{v w:VP}(h:v.none)(k:w.none):v.same w:=by
 obtain⟨a,b,c,d⟩:=h
 obtain⟨a',b',c',d'⟩:=k
 exact⟨a.trans a'.symm,b.trans b'.symm,(LL c).trans (LL c').symm,d,d'⟩
theorem Sf{k:Int}{v w:VP}(h:v.bnd k)(k':w.bnd k)(hv:v.ok)(hw:w.ok)(e:BZ k v.n w.n v.t w.t=0):v.same w:=by
 obtain⟨a,b,c⟩:=h
 obtain⟨a',b',c'⟩:=k'
 have:=zD3 hv.1 hw.1 e
 by_cases h12:12<=k
 ·rw[if_pos h12]at c c' this
  exact⟨a.trans a'.symm,c.1.trans c'.1.symm,this,b,b'⟩
 ·rw[if_neg h12]at c c' this
  exact⟨a.trans a'.symm,this,(LL c.1).trans (LL c'.1).symm,b,b'⟩
theorem E3{v:VP}(h:v.ln=0):v.same v:=⟨rfl,rfl,rfl,h,h⟩
theorem ofP.ln{k:Int}{Y:List Val}{s:StP}(h:ofP k Y s):s.l.ln=0/\s.m.ln=0:=by
 rcases h.2.2 with ⟨_,a,b⟩|⟨_,_,_,a,b,_⟩
 ·exact⟨a.2.2.2,b.2.2.2⟩
 ·exact⟨a.2.1,b.2.1⟩
theorem zBY{M:Prop}(hM:M){k:Int}{Y Z:List Val}{s t:StP}(hs:ofP k Y s)(ht:ofP k Z t)(so:s.ok)(to:t.ok)(hY:Y.length<=4096)(hZ:Z.length<=4096) :
  (Cs M k s t).2=0/\(Cs M k t s).2=0/\(Cs M k s t).1.same (Cs M k t s).1/\holdP k (Y++Z) (Cs M k s t).1:=by
 have m1:=hs.may hY
 have m2:=ht.may hZ
 obtain⟨r1,n1,c1⟩:=hs
 obtain⟨r2,n2,c2⟩:=ht
 have hs:ofP k Y s:=⟨r1,n1,c1⟩
 have ht:ofP k Z t:=⟨r2,n2,c2⟩
 have hr1:¬1048576<s.rows+t.rows:=by omega
 have hr2:¬1048576<t.rows+s.rows:=by omega
 have hrow:s.rows+t.rows=(Y++Z).length:=by rw[List.length_append];omega
 have hnul:s.nulls+t.nulls=CD (Y++Z):=by rw[zDy];omega
 obtain⟨ls,lm⟩:=hs.ln
 obtain⟨lt,ltm⟩:=ht.ln
 by_cases e1:s.nulls=s.rows
 ·obtain⟨f1,f2,f3,f4⟩:=hs.all e1
  by_cases e2:t.nulls=t.rows
  ·obtain⟨g1,g2,g3,g4⟩:=ht.all e2
   rw[I6 hM ⟨m1,m2⟩ hr1 e1,I6 hM ⟨m2,m1⟩ hr2 e2];refine⟨rfl,rfl,⟨Int.add_comm _ _,Int.add_comm _ _,g1.trans f1.symm,UI g2 f2,UI g3 f3⟩,hrow,hnul,fun hh=>?_⟩
   have hh:t.has=true:=hh;rw[g1]at hh;cases hh
  ·rw[I6 hM ⟨m1,m2⟩ hr1 e1,Lj hM ⟨m2,m1⟩ hr2 e2 e1]
   refine⟨rfl,rfl,⟨Int.add_comm _ _,Int.add_comm _ _,rfl,E3 lt,E3 ltm⟩,hrow,hnul,fun hh=>?_⟩
   obtain⟨a,b,c,d,e,f⟩:=ht.hold.2.2 hh;refine⟨a,b,c,d,e,fun v hv hvn=>?_⟩
   rcases List.mem_append.1 hv with hv|hv
   ·rw[f4 v hv]at hvn;cases hvn
   ·exact f v hv hvn
 ·by_cases e2:t.nulls=t.rows
  ·obtain⟨g1,g2,g3,g4⟩:=ht.all e2
   rw[Lj hM ⟨m1,m2⟩ hr1 e1 e2,I6 hM ⟨m2,m1⟩ hr2 e2];refine⟨rfl,rfl,⟨Int.add_comm _ _,Int.add_comm _ _,rfl,E3 ls,E3 lm⟩,hrow,hnul,fun hh=>?_⟩
   obtain⟨a,b,c,d,e,f⟩:=hs.hold.2.2 hh;refine⟨a,b,c,d,e,fun v hv hvn=>?_⟩
   rcases List.mem_append.1 hv with hv|hv
   ·exact f v hv hvn
   ·rw[g4 v hv]at hvn;cases hvn
  ·by_cases e3:s.has=true/\t.has=true
   ·rw[NL hM ⟨m1,m2⟩ hr1 e1 e2 e3,NL hM ⟨m2,m1⟩ hr2 e2 e1 e3.symm]
    rcases c1 with ⟨a,_⟩|⟨_,hk,_,bl1,bm1,all1⟩
    ·rw[e3.1]at a;cases a
    rcases c2 with ⟨a,_⟩|⟨_,_,_,bl2,bm2,all2⟩
    ·rw[e3.2]at a;cases a
    have fl:=Lc k t.l.n s.l.n t.l.t s.l.t;have fm:=Lc k t.m.n s.m.n t.m.t s.m.t;refine⟨rfl,rfl,⟨Int.add_comm _ _,Int.add_comm _ _,rfl,?_,?_⟩,hrow,hnul,fun _=>?_⟩
    ·show VP.same (if _ then t.l else s.l) (if _ then s.l else t.l)
     by_cases q1:BZ k t.l.n s.l.n t.l.t s.l.t<0
     ·rw[if_pos q1,if_neg (by omega)];exact E3 lt
     ·rw[if_neg q1]
      by_cases q2:BZ k s.l.n t.l.n s.l.t t.l.t<0
      ·rw[if_pos q2];exact E3 ls
      ·rw[if_neg q2];exact Sf bl1 bl2 so.2.2.1 to.2.2.1 (by omega)
    ·show VP.same (if _ then t.m else s.m) (if _ then s.m else t.m)
     by_cases q1:0<BZ k t.m.n s.m.n t.m.t s.m.t
     ·rw[if_pos q1,if_neg (by omega)];exact E3 ltm
     ·rw[if_neg q1]
      by_cases q2:0<BZ k s.m.n t.m.n s.m.t t.m.t
      ·rw[if_pos q2];exact E3 lm
      ·rw[if_neg q2];exact Sf bm1 bm2 so.2.2.2 to.2.2.2 (by omega)
    ·simp only
     by_cases q1:BZ k t.l.n s.l.n t.l.t s.l.t<0<;>by_cases q2:0<BZ k t.m.n s.m.n t.m.t s.m.t
     ·rw[if_pos q1,if_pos q2]
      refine⟨hk,bl2.1,bl2.2.1,bm2.1,bm2.2.1,fun v hv hvn=>?_⟩
      rcases List.mem_append.1 hv with hv|hv
      ·obtain⟨a,b⟩:=all1 v hv hvn;exact⟨Dx (by omega) a,Dx b (by omega)⟩
      ·exact all2 v hv hvn
     ·rw[if_pos q1,if_neg q2]
      refine⟨hk,bl2.1,bl2.2.1,bm1.1,bm1.2.1,fun v hv hvn=>?_⟩
      rcases List.mem_append.1 hv with hv|hv
      ·obtain⟨a,b⟩:=all1 v hv hvn;exact⟨Dx (by omega) a,b⟩
      ·obtain⟨a,b⟩:=all2 v hv hvn;exact⟨a,Dx b (by omega)⟩
     ·rw[if_neg q1,if_pos q2]
      refine⟨hk,bl1.1,bl1.2.1,bm2.1,bm2.2.1,fun v hv hvn=>?_⟩
      rcases List.mem_append.1 hv with hv|hv
      ·obtain⟨a,b⟩:=all1 v hv hvn;exact⟨a,Dx b (by omega)⟩
      ·obtain⟨a,b⟩:=all2 v hv hvn;exact⟨Dx (by omega) a,b⟩
     ·rw[if_neg q1,if_neg q2]
      refine⟨hk,bl1.1,bl1.2.1,bm1.1,bm1.2.1,fun v hv hvn=>?_⟩
      rcases List.mem_append.1 hv with hv|hv
      ·exact all1 v hv hvn
      ·obtain⟨a,b⟩:=all2 v hv hvn;exact⟨Dx (by omega) a,Dx b (by omega)⟩
   ·rw[Lb hM ⟨m1,m2⟩ hr1 e1 e2 e3,Lb hM ⟨m2,m1⟩ hr2 e2 e1 fun h=>e3 h.symm]
    refine⟨rfl,rfl,⟨Int.add_comm _ _,Int.add_comm _ _,rfl,E3 rfl,E3 rfl⟩,hrow,hnul,fun hh=>by cases hh⟩
theorem Va(nm:ByteArray)(nul:Bool)(q w i x:Int)(y:EV)(hy0:y = .lit (.slice none 0 0)\/∃n c,y = .isl n none c)(k a b:Int)(t u:ByteArray)(c d:List EV)(hk:2<=k/\k<=14)(hq:(12<=k->12<=q/\q<=14)/\(¬12<=k->q=k))(ha:BH a)(hb0:BH b)(h:EH) :
  Tri Tryz.prog gs 25 [.agg [.lit (.string nm),.lit (.bool nul),.lit (.int .i64 q),.lit (.int .i64 w),.lit (.int .i64 i),.lit (.int .i64 x),y],.agg [.lit (.bool false),.lit (.int .i64 a),.lit (.string t),.isl 0 none c],.agg [.lit (.bool false),.lit (.int .i64 b),.lit (.string u),.isl 0 none d]] h fun v h'=>IsN .i64 (fun n=>n=BZ k a b t u) v/\h'=h:=by
 have hy:clE y=true:=by rcases hy0 with rfl|⟨n,c,rfl⟩<;>rfl
 refine Tri.intC (by show (_&&_)=true;simp[clL,clE,hy]) (Bj F25_ok fun I0 ρ0 w0 Q hρ hQ=>?_) h
 obtain⟨A,hA⟩:∃A,A=stdA:=⟨_,rfl⟩
 have hs:=fun a b h=>zDF a b h
 rcases hy0 with rfl|⟨yn,yc,rfl⟩
 all_goals
  with_reducible refine Be hA hd hQ 200 ?hk ?_
  case hk=>trivial
  conv=>arg 9;cbv
  try simp only[OK]
  repeat' first|(with_reducible refine And.intro trivial ?_)|((with_reducible refine⟨fun hbr=>?_,fun hbr=>?_⟩)<;>(try simp(disch:=omega)only[hA,Ba]at hbr)<;>(try (with_reducible exfalso;omega)))|((with_reducible refine Bd hA hd hQ 200 ?hk ?_);(case hk=>trivial);(conv=>arg 9;cbv);(try simp only[OK]))|(refine cO (Bb F39_ok) (tM (hs _ _ _) fun v hh hx=>?_);(obtain⟨⟨z,hv,hz⟩,he⟩:=hx;subst hv;subst he))|(refine cO (Bb F40_ok) (tM (zAe _ (by assumption) _) fun v hh hx=>?_);(obtain⟨⟨z,hv,hz⟩,he⟩:=hx;subst hv;subst he))
 all_goals refine FinR.n rfl ?_
 all_goals unfold BZ Ez
 all_goals rw[hz,hA]
 all_goals first
  |(rw[if_neg (show ¬12<=k by omega),if_pos (show k=10 by omega)];exact RS _ _)
  |(rw[if_neg (show ¬12<=k by omega),if_neg (show ¬k=10 by omega),if_pos (show k=11 by omega)];subst_vars;exact RS _ _)
  |(rw[if_pos (show 12<=k by omega)];exact ZH t u)
  |(rw[if_neg (show ¬12<=k by omega),if_neg (show ¬k=10 by omega),if_neg (show ¬k=11 by omega)];exact RS _ _)
theorem Nb:∀(l:List Val) (i:Nat),i<l.length->List.take 4 (List.drop (i*4) (BE l))=BK (l.getD i Bw)
 |[],i,h=>by simp at h
 |v::l,0,h=>by cases v;simp[BE,BK]
 |v::l,i+1,h=>by
  have:=Nb l i (by simpa using h)
  rw[show (i+1)*4=4+i*4 by omega,<-List.drop_drop]
  have e:List.drop 4 (BE (v::l))=BE l:=by cases v;simp[BE,BK]
  rw[e,this];simp
theorem ZG(l:List Val)(i:Nat)(h:i<l.length):List.take 1 (List.drop (i*4) (BE l))=[.lit (.bool (l.getD i Bw).null)]:=by
 have e:=congrArg (List.take 1) (Nb l i h)
 rw[List.take_take]at e
 rw[show List.take 1 (List.drop (i*4) (BE l))=List.take (min 1 4) (List.drop (i*4) (BE l))from rfl,e]
 generalize l.getD i Bw=V
 cases V;rfl
theorem PQ{a b:List EV}{c1 c2 c3 c4 c5 c6:Value}(y:EV)(hy:clE y=true)(ha:clL a=true)(hb:clL b=true) :
  mvH [0,1,2] [] [.blk a,.blk b,.blk [.lit c1,.lit c2,.lit c3,.lit c4,.lit c5,.lit c6,y]] [0,1,2]=[.blk a,.blk b,.blk [.lit c1,.lit c2,.lit c3,.lit c4,.lit c5,.lit c6,y]]:=by
 show ([.blk (mvL _ _ a),.blk (mvL _ _ b),.blk [.lit c1,.lit c2,.lit c3,.lit c4,.lit c5,.lit c6,mvE _ _ y]]:EH)=_
 rw[BR _ _ _ ha,BR _ _ _ hb,Gq _ _ _ hy]
theorem zCR(f g:Fld)(hall:CJ f)(hcore:Core f g)(s:StP)(so:s.ok)(Y:List Val)(hY:Y.length<=8192)(hpl:2<=g.kind/\g.kind<=14->∀v∈Y,EQ g.kind v)(hh:holdP g.kind Y s) :
  Tri Tryz.prog gs 9 [.agg (Bo f),.agg s.cells,.isl Y.length none (BE Y)] [] fun v _=>∃b:Bool,(v = .lit (.bool b)\/v = .sb b)/\(b=true↔True):=by
 have hp:=zDj f g hall hcore
 unfold PlainV at hp
 obtain⟨h1,h2,h3⟩:=hh
 have hnn:=Hq Y
 have g4:=Hid.mk fun z (h:z<Y.length)=>Nb Y z h
 have g0:=Hid.mk fun z (h:z<Y.length)=>ZG Y z h
 have hns:=Hid.mk fun z (h:z<Y.length)=>Kh h Bw
 obtain⟨rows,nulls,has,⟨lb,ln,lt,ll,lc⟩,⟨mb,mn,mt,ml,mc⟩⟩:=s
 simp only[StP.cells,VP.cells,lC,lN]at *
 obtain⟨so1,so2,⟨so3,so4,so5⟩,so6,so7,so8⟩:=so
 simp only at so3 so6
 rw[BF]at *
 generalize Bl g.kids=gkc,g.kids.length=gkn,g.kind=gk,g.width=gw,g.id=gi,g.idx=gix at *
 generalize Bl f.kids=kc,f.kids.length=kn,f.nm=nm,f.nul=nul,f.kind=k,f.width=w,f.id=i,f.idx=ix at *
 obtain⟨yc,hyc⟩:∃yc,yc=BE Y:=⟨_,rfl⟩
 obtain⟨yn,hyn⟩:∃yn,yn=Y.length:=⟨_,rfl⟩
 rw[<-hyc]at g4 g0 ⊢
 rw[<-hyn]at h1 hnn hY ⊢
 refine Bj F9_ok fun I0 ρ0 w0 Q hρ hQ=>?_
 obtain⟨A,hA⟩:∃A,A=stdA:=⟨_,rfl⟩
 with_reducible refine Be hA hd hQ 200 ?hk ?_
 case hk=>trivial
 conv=>arg 9;cbv
 try simp only[OK]
 repeat' first|(with_reducible refine OKK.loop ?_)|((with_reducible refine⟨fun hbr=>?_,fun hbr=>?_⟩)<;>(try simp(disch:=omega)only[hA,Ba]at hbr)<;>(try (with_reducible exfalso;omega)))|((with_reducible refine Bd hA hd hQ 200 ?hk ?_);(case hk=>trivial);(conv=>arg 9;cbv);(try simp only[OK]))|((with_reducible refine cO ?hg ?_);(case hg=>with_reducible exact Bb F24_ok);(refine tM (hp _) fun v hh hx=>?_);(obtain⟨⟨gnm,gnul,hv⟩,hh'⟩:=hx;subst hv;subst hh'))
 all_goals
  refine oK_ (msk 66 [2,4,7,8,9]) ?_
  refine oL_ (fun m st=>∃(z n:Int) (nm':ByteArray) (nul':Bool) (q w' i' x':Int) (y:EV),(y = .lit (.slice none 0 0)\/∃n c,y = .isl n none c)/\(2<=gk/\gk<=14->(12<=gk->12<=q/\q<=14)/\(¬12<=gk->q=gk))/\
   st=⟨mkT 66 [(2,.isl yn none yc),(4,.ptr 1 0),(7,.ptr 2 0),(8,.lit (.int .i64 n)),(9,.lit (.int .i64 z))],[.blk [.lit (.string nm),.lit (.bool nul),.lit (.int .i64 k),.lit (.int .i64 w),.lit (.int .i64 i),.lit (.int .i64 ix),.isl kn none kc],
    .blk [.lit (.int .i64 rows),.lit (.int .i64 nulls),.lit (.bool has),.lit (.bool lb),.lit (.int .i64 ln),.lit (.string lt),.isl ll none lc,.lit (.bool mb),.lit (.int .i64 mn),.lit (.string mt),.isl ml none mc],
    .blk [.lit (.string nm'),.lit (.bool nul'),.lit (.int .i64 q),.lit (.int .i64 w'),.lit (.int .i64 i'),.lit (.int .i64 x'),y]]⟩/\m=(yn-z).toNat/\0<=z/\z<=yn/\n=CD (Y.take z.toNat)) (fun m st hs' ih=>?_)
   ⟨0,0,_,_,_,_,_,_,_,by first|exact .inl rfl|exact .inr ⟨_,_,rfl⟩,by omega,rfl,rfl,by omega,by omega,by simp[CD]⟩
  obtain⟨zz,n,nm',nul',q,w',i',x',y,hy0,hq,rfl,hm,hz1,hz2,hn⟩:=hs';have hy:clE y=true:=by rcases hy0 with rfl|⟨n,c,rfl⟩<;>rfl
  by_cases hzn:zz<yn
  ·have l4:List.take 4 (List.drop (A.idx 0 zz 4) yc)=BK (Y.getD zz.toNat Bw):=by rw[hA,B3,Nat.zero_add];exact g4.out zz.toNat (by omega)
   have l0:List.take 1 (List.drop (A.add (A.idx 0 zz 4) 0) yc)=[.lit (.bool (Y.getD zz.toNat Bw).null)]:=by rw[hA,B3,Nat.zero_add];exact g0.out zz.toNat (by omega)
   have hs1:=hns.out zz.toNat (by omega)
   have hmem:Y.getD zz.toNat Bw∈Y:=by
    rw[lG,lE (by omega:zz.toNat<Y.length)];exact List.getElem_mem _
   have hnb:CD (Y.take zz.toNat)<=yn:=by have:=Hq (Y.take zz.toNat);rw[lK]at this;omega
   have ez:(A.ib .add .i64 zz 1).toNat=zz.toNat+1:=by simp(disch:=omega)only[hA,Ba];omega
   generalize Y.getD zz.toNat Bw=V at *;obtain⟨vb,vn,vt,vl⟩:=V;simp only[BK,Val.null]at l4 l0 hs1;clear g4 g0 hns;cases vb with
   |true=>
    with_reducible refine Be hA hd hQ 200 ?hk ?_
    case hk=>trivial
    conv=>arg 9;cbv
    try simp only[OK]
    repeat' first|(with_reducible refine OKK.again ?_)|((with_reducible refine⟨fun hbr=>?_,fun hbr=>?_⟩)<;>(try simp(disch:=omega)only[hA,Ba]at hbr)<;>(try (with_reducible exfalso;omega)))|((with_reducible refine Bd hA hd hQ 200 ?hk ?_);(case hk=>trivial);(conv=>arg 9;cbv);(try simp only[OK]))|((with_reducible refine Bp ?hn ?_);(case hn=>((simp(disch:=omega)only[hA,Ba])<;>omega)))|((refine⟨_,_,?l1,l0,rfl,?_⟩);(case l1=>exact rfl))
    refine oK_ (msk 66 [2,4,7,8,9]) (OKs.mvE [0,1,2] [] (by rw[hρ];rfl) ⟨by decide,by simp[Bc],by simp⟩ (PQ y hy rfl rfl) (ih _ _ ⟨A.ib .add .i64 zz 1,A.ib .add .i64 n 1,nm',nul',q,w',i',x',y,hy0,hq,rfl,rfl,?_,?_,?_⟩ ?_))
    ·simp(disch:=omega)only[hA,Ba];omega
    ·simp(disch:=omega)only[hA,Ba];omega
    ·rw[ez,hs1];simp only[reduceIte];simp(disch:=omega)only[hA,Ba];push_cast;omega
    ·simp(disch:=omega)only[hA,Ba];omega
   |false=>
    cases has with
    |false=>
     with_reducible refine Be hA hd hQ 200 ?hk ?_
     case hk=>trivial
     conv=>arg 9;cbv
     try simp only[OK]
     repeat' first|(with_reducible refine OKK.again ?_)|((with_reducible refine⟨fun hbr=>?_,fun hbr=>?_⟩)<;>(try simp(disch:=omega)only[hA,Ba]at hbr)<;>(try (with_reducible exfalso;omega)))|((with_reducible refine Bd hA hd hQ 200 ?hk ?_);(case hk=>trivial);(conv=>arg 9;cbv);(try simp only[OK]))|((with_reducible refine Bp ?hn ?_);(case hn=>((simp(disch:=omega)only[hA,Ba])<;>omega)))|((refine⟨_,_,?l1,l0,rfl,?_⟩);(case l1=>exact rfl))
     refine oK_ (msk 66 [2,4,7,8,9]) (OKs.mvE [0,1,2] [] (by rw[hρ];rfl) ⟨by decide,by simp[Bc],by simp⟩ (PQ y hy rfl rfl) (ih _ _ ⟨A.ib .add .i64 zz 1,n,nm',nul',q,w',i',x',y,hy0,hq,rfl,rfl,?_,?_,?_⟩ ?_))
     ·simp(disch:=omega)only[hA,Ba];omega
     ·simp(disch:=omega)only[hA,Ba];omega
     ·rw[ez,hs1];simp only[bF,reduceIte,Nat.add_zero];exact hn
     ·simp(disch:=omega)only[hA,Ba];omega
    |true=>
     obtain⟨hk,b1,b2,b3,b4,hbd⟩:=h3 rfl;subst b1;subst b2;subst b3;subst b4;rcases hpl hk _ hmem with e|⟨n',t',e,v1,v2,v3⟩
     ·cases e
     cases e;obtain⟨c1,c2⟩:=hbd _ hmem rfl;simp only[Val.num,Val.text]at c1 c2;have o1:=Va nm' nul' q w' i' x' y hy0 gk ln vn lt vt lc (BE []) hk (hq hk) so3 v1;have o2:=Va nm' nul' q w' i' x' y hy0 gk vn mn vt mt (BE []) mc hk (hq hk) v1 so6;simp only[List.length_nil,BE]at l4 o1 o2;generalize BZ gk ln vn lt vt=O1,BZ gk vn mn vt mt=O2 at *
     with_reducible refine Be hA hd hQ 200 ?hk ?_
     case hk=>trivial
     conv=>arg 9;cbv
     try simp only[OK]
     repeat' first|(with_reducible refine OKK.again ?_)|((with_reducible refine⟨fun hbr=>?_,fun hbr=>?_⟩)<;>(try simp(disch:=omega)only[hA,Ba]at hbr)<;>(try (with_reducible exfalso;omega)))|((with_reducible refine Bd hA hd hQ 200 ?hk ?_);(case hk=>trivial);(conv=>arg 9;cbv);(try simp only[OK]))|((with_reducible refine Bp ?hn ?_);(case hn=>((simp(disch:=omega)only[hA,Ba])<;>omega)))|((refine⟨_,_,?l1,l0,rfl,?_⟩);(case l1=>exact rfl))|((refine⟨_,_,?l1,l4,rfl,?_⟩);(case l1=>exact rfl))|(refine cO (Bb F25_ok) (tM (o1 _) fun v hh hx=>?_);(obtain⟨⟨z,hv,hz⟩,he⟩:=hx;subst hv;subst he))|(refine cO (Bb F25_ok) (tM (o2 _) fun v hh hx=>?_);(obtain⟨⟨z,hv,hz⟩,he⟩:=hx;subst hv;subst he))
     refine oK_ (msk 66 [2,4,7,8,9]) (OKs.mvE [0,1,2] [] (by rw[hρ];rfl) ⟨by decide,by simp[Bc],by simp⟩ (PQ y hy rfl rfl) (ih _ _ ⟨A.ib .add .i64 zz 1,n,nm',nul',q,w',i',x',y,hy0,hq,rfl,rfl,?_,?_,?_⟩ ?_))
     ·simp(disch:=omega)only[hA,Ba];omega
     ·simp(disch:=omega)only[hA,Ba];omega
     ·rw[ez,hs1];simp only[bF,reduceIte,Nat.add_zero];exact hn
     ·simp(disch:=omega)only[hA,Ba];omega
  ·have hall':CD (Y.take zz.toNat)=CD Y:=by rw[lT (by omega)]
   with_reducible refine Be hA hd hQ 200 ?hk ?_
   case hk=>trivial
   conv=>arg 9;cbv
   try simp only[OK]
   repeat' first|((with_reducible refine⟨fun hbr=>?_,fun hbr=>?_⟩)<;>(try simp(disch:=omega)only[hA,Ba]at hbr)<;>(try (with_reducible exfalso;omega)))|((with_reducible refine Bd hA hd hQ 200 ?hk ?_);(case hk=>trivial);(conv=>arg 9;cbv);(try simp only[OK]))
   exact FinR.bs rfl (by simp(disch:=omega)only[hA,Ba];simp;omega)
theorem zBU(f g:Fld)(hall:CJ f)(hcore:Core f g)(s:StP)(so:s.ok)(Y:List Val)(hY:Y.length<=8192)(hpl:2<=g.kind/\g.kind<=14->∀v∈Y,EQ g.kind v)(hh:holdP g.kind Y s)(h:EH) :
  Tri Tryz.prog gs 9 [.agg (Bo f),.agg s.cells,.isl Y.length none (BE Y)] h fun v h'=>IsP True v/\h'=h:=
 Tri.boolC (by rw[BF];rfl) (zCR f g hall hcore s so Y hY hpl hh) h
theorem StP.same.trans'{a b c:StP}(h:a.same b)(k:b.same c):a.same c:=by
 obtain⟨e1,e2,e3,⟨e4,e5,e6,e7,e8⟩,⟨e9,e10,e11,e12,e13⟩⟩:=h
 obtain⟨k1,k2,k3,⟨k4,k5,k6,k7,k8⟩,⟨k9,k10,k11,k12,k13⟩⟩:=k
 exact⟨e1.trans k1,e2.trans k2,e3.trans k3,⟨e4.trans k4,e5.trans k5,e6.trans k6,e7,k8⟩,⟨e9.trans k9,e10.trans k10,e11.trans k11,e12,k13⟩⟩
theorem zC0{M:Prop}{k:Int}{s t:StP}(so:s.ok)(to:t.ok)(h1:0<=s.rows/\s.rows<=4096)(h2:0<=t.rows/\t.rows<=4096)(h3:0<=s.nulls/\s.nulls<=4096)(h4:0<=t.nulls/\t.nulls<=4096):(Cs M k s t).1.ok:=by
 have hr:BH (s.rows+t.rows):=by unfold BH;omega
 have hn:BH (s.nulls+t.nulls):=by unfold BH;omega
 unfold Cs
 split
 ·exact st0_ok
 split
 ·exact st0_ok
 split
 ·exact st0_ok
 simp only
 split
 ·exact⟨hr,hn,to.2.2.1,to.2.2.2⟩
 split
 ·exact⟨hr,hn,so.2.2.1,so.2.2.2⟩
 split
 ·refine⟨hr,hn,?_,?_⟩
  ·show VP.ok (if _ then _ else _)
   split
   ·exact to.2.2.1
   ·exact so.2.2.1
  ·show VP.ok (if _ then _ else _)
   split
   ·exact to.2.2.2
   ·exact so.2.2.2
 ·exact⟨hr,hn,st0_ok.2.2.1,st0_ok.2.2.2⟩
theorem zAl{s t:StP}(h:s.same t)(k:t.ok):s.ok:=by
 obtain⟨e1,e2,e3,⟨e4,e5,e6,e7,e8⟩,⟨e9,e10,e11,e12,e13⟩⟩:=h
 obtain⟨k1,k2,⟨k3,k4,k5⟩,⟨k6,k7,k8⟩⟩:=k
 exact⟨by rw[e1];exact k1,by rw[e2];exact k2,⟨by rw[e5];exact k3,by rw[e6];exact k4,by rw[e7];exact Nat.zero_le _⟩,⟨by rw[e10];exact k6,by rw[e11];exact k7,by rw[e12];exact Nat.zero_le _⟩⟩
theorem V3(f g:Fld)(d o:Dat)(hok:okF f)(hokd:okA d)(hoko:okA o)(hcore:B7 f->Core f g/\CJ g) :
  Tri Tryz.prog gs 3 [.agg (Bo f),.agg (Bs d),.agg (Bs o)] [] fun v _=>∃b:Bool,(v = .lit (.bool b)\/v = .sb b)/\(b=true↔True):=by
 have ho1:=TV f g d hok hokd hcore
 have ho2:=TV f g o hok hoko hcore
 have hmg:=fun a b ha hb=>zCj f hok a b ha hb
 have hfx:∀h:EH,Tri Tryz.prog gs 5 [] h fun v h'=>IsP True v/\h'=h:=fun h=>(zDz h).mono fun v h' hx=>⟨⟨true,hx.1,by simp⟩,hx.2⟩
 have hvd:=fun(d:Dat) (hokd:okA d) (hm:B7 f) (hv:BS f d)=>(by
  have hs:=SubF.of hok hm;have hsm:=H0 (Ei hm);have ho:=okP.ofV hs hokd hv;have hlen:=ho.sz.len;unfold Cn at hlen;exact⟨Tri.ownC (zBe f d (zCW _ f d (Nat.le_refl _) ho hsm) (by omega) (by omega) (Ps hv)) (Do _) (by simp[clL,clE,clF,clA]),by rw[JW];omega,fun hk=>Rw (hcore hm).1 ho hsm hk⟩ :
  (∀h:EH,Tri Tryz.prog gs 8 [.agg (Bo f),.agg (Bs d)] h fun v h'=>v = .sl 4 (Bc h) 0 (Cg f d).length none/\h'=B0 h (.blk (BE (Cg f d))))/\(Cg f d).length<=4096/\(2<=g.kind/\g.kind<=14->∀v∈Cg f d,EQ g.kind v))
 have hv1:=Hid.mk (hvd d hokd)
 have hv2:=Hid.mk (hvd o hoko)
 clear hvd
 have hho:=Hid.mk fun(hm:B7 f) (s:StP) (so:s.ok) (Y:List Val) (hY:Y.length<=8192) (hpl:2<=g.kind/\g.kind<=14->∀v∈Y,EQ g.kind v) (hh:holdP g.kind Y s) (h:EH)=>zBU f g (Ei hm) (hcore hm).1 s so Y hY hpl hh h
 have hml:=Hid.mk fun(hm:B7 f)=>@zBY (B7 f) hm g.kind
 have hck:=Hid.mk fun(hm:B7 f)=>UN (hcore hm).1
 unfold OfV at ho1 ho2
 unfold MergeV at hmg
 clear hcore
 generalize hY1:Cg f d=Y1,hY2:Cg f o=Y2 at *
 generalize BS f d=V1,BS f o=V2 at *
 generalize B7 f=MF at *
 generalize ck f=CK,g.kind=gk at *
 rw[BF]at *
 rw[BL d,BL o]at *
 generalize Bl f.kids=kc,f.kids.length=kn,f.nm=nm,f.nul=nul,f.kind=k,f.width=w,f.id=i,f.idx=ix at *
 generalize d.len=len,d.ofs=ofs,d.nuls=nls,d.bufs.length=nb,Bx d.bufs=cb,d.kids.length=nk,Bi d.kids=ck,d.dict.length=nd,Bi d.dict=cd at *
 generalize o.len=olen,o.ofs=oofs,o.nuls=onls,o.bufs.length=onb,Bx o.bufs=ocb,o.kids.length=onk,Bi o.kids=ock,o.dict.length=ond,Bi o.dict=ocd at *
 refine Bj F3_ok fun I0 ρ0 w0 Q hρ hQ=>?_
 obtain⟨A,hA⟩:∃A,A=stdA:=⟨_,rfl⟩
 with_reducible refine Be hA hd hQ 200 ?hk ?_
 case hk=>trivial
 conv=>arg 9;cbv
 try simp only[OK]
 refine cO (Bb F4_ok) (tM (ho1 _) fun v hh hx=>?_)
 obtain⟨⟨s1,e1,hv,so1,hs1⟩,hh'⟩:=hx
 subst hv;subst hh'
 obtain⟨r1,n1,b1,⟨lb1,ln1,lt1,ll1,lc1⟩,⟨mb1,mn1,mt1,ml1,mc1⟩⟩:=s1
 simp only[StP.cells,VP.cells,lC,lN]
 with_reducible refine Bd hA hd hQ 1 ?hk ?_
 case hk=>trivial
 conv=>arg 9;cbv
 try simp only[OK]
 repeat' first|((with_reducible refine Bd hA hd hQ 200 ?hk ?_);(case hk=>trivial);(conv=>arg 9;cbv);(try simp only[OK]))
 refine cO (Bb F4_ok) (tM (ho2 _) fun v hh hx=>?_)
 obtain⟨⟨s2,e2,hv,so2,hs2⟩,hh'⟩:=hx
 subst hv;subst hh'
 obtain⟨r2,n2,b2,⟨lb2,ln2,lt2,ll2,lc2⟩,⟨mb2,mn2,mt2,ml2,mc2⟩⟩:=s2
 simp only[StP.cells,VP.cells,lC,lN]
 with_reducible refine Bd hA hd hQ 1 ?hk ?_
 case hk=>trivial
 conv=>arg 9;cbv
 try simp only[OK]
 repeat' first|((with_reducible refine⟨fun hbr=>?_,fun hbr=>?_⟩)<;>(try simp(disch:=omega)only[hA,Ba]at hbr)<;>(try (with_reducible exfalso;omega)))|((with_reducible refine Bd hA hd hQ 200 ?hk ?_);(case hk=>trivial);(conv=>arg 9;cbv);(try simp only[OK]))|((with_reducible refine cO ?hg ?_);(case hg=>with_reducible exact Bb F5_ok);(refine tM (hfx _) fun v hh hx=>?_);(obtain⟨⟨b,hv,hb⟩,he⟩:=hx;subst hv;subst he;cases b<;>simp(disch:=omega)only[bF,false_iff,eq_self,not_true_eq_false]at hb)<;>(try (with_reducible exfalso;omega)))
 rotate_right
 ·rcases hs1 with ⟨c,_⟩|⟨-,hM,hV1,p1⟩
  ·exact absurd c (by assumption)
  rcases hs2 with ⟨c,_⟩|⟨-,_,hV2,p2⟩
  ·exact absurd c (by assumption)
  obtain⟨va1,va2,va3⟩:=hv1.out hM hV1;obtain⟨vb1,vb2,vb3⟩:=hv2.out hM hV2;obtain⟨q1,q2,q3,q4⟩:=hml.out hM p1 p2 so1 so2 va2 vb2;have mo:=zC0 (M:=MF) (k:=gk) so1 so2 ⟨by rw[p1.1];omega,by rw[p1.1];omega⟩ ⟨by rw[p2.1];omega,by rw[p2.1];omega⟩ ⟨by rw[p1.2.1];omega,by rw[p1.2.1];have:=Hq Y1;omega⟩ ⟨by rw[p2.2.1];omega,by rw[p2.2.1];have:=Hq Y2;omega⟩
  have hm1:=hmg _ _ so1 so2;have hm2:=hmg _ _ so2 so1;rw[hck.out hM]at hm1 hm2;generalize Cs MF gk ⟨r1,n1,b1,⟨lb1,ln1,lt1,ll1,lc1⟩,⟨mb1,mn1,mt1,ml1,mc1⟩⟩ ⟨r2,n2,b2,⟨lb2,ln2,lt2,ll2,lc2⟩,⟨mb2,mn2,mt2,ml2,mc2⟩⟩=M1,Cs MF gk ⟨r2,n2,b2,⟨lb2,ln2,lt2,ll2,lc2⟩,⟨mb2,mn2,mt2,ml2,mc2⟩⟩ ⟨r1,n1,b1,⟨lb1,ln1,lt1,ll1,lc1⟩,⟨mb1,mn1,mt1,ml1,mc1⟩⟩=M2 at *;have hh3:=fun(s:StP) (hs:s.same M1.1)=>hho.out hM s (zAl hs mo) (Y1++Y2) (by rw[List.length_append];omega) (fun hk v hv=>(List.mem_append.1 hv).elim (va3 hk v) (vb3 hk v)) (q4.same hs)
  rw[List.length_append,PA]at hh3;have hh1:=hho.out hM _ so1 Y1 (by omega) va3 p1.hold
  have hh2:=hho.out hM _ so2 Y2 (by omega) vb3 p2.hold
  simp only[StP.cells,VP.cells,lC,lN]at hm1 hm2 hh1 hh2;have y1l:=Ec Y1;have y2l:=Ec Y2;have y1k:=Do Y1;have y2k:=Do Y2;clear p1 p2 va3 vb3 q4 hho hml hck hmg hv1 hv2 ho1 ho2;generalize BE Y1=y1c,BE Y2=y2c,Y1.length=y1n,Y2.length=y2n at *;refine cO (Bb F6_ok) (tM (hm1 _) fun v hh hx=>?_)
  obtain⟨⟨s3,e3,hv,hs3,he3⟩,hh'⟩:=hx;subst hv;subst hh';obtain⟨r3,n3,b3,⟨lb3,ln3,lt3,ll3,lc3⟩,⟨mb3,mn3,mt3,ml3,mc3⟩⟩:=s3;simp only[];rw[q1]at he3;subst he3
  with_reducible refine Bd hA hd hQ 1 ?hk ?_
  case hk=>trivial
  conv=>arg 9;cbv
  try simp only[OK]
  repeat' first|((with_reducible refine Bd hA hd hQ 200 ?hk ?_);(case hk=>trivial);(conv=>arg 9;cbv);(try simp only[OK]))
  refine cO (Bb F6_ok) (tM (hm2 _) fun v hh hx=>?_)
  obtain⟨⟨s4,e4,hv,hs4,he4⟩,hh'⟩:=hx;subst hv;subst hh';obtain⟨r4,n4,b4,⟨lb4,ln4,lt4,ll4,lc4⟩,⟨mb4,mn4,mt4,ml4,mc4⟩⟩:=s4;simp only[];rw[q2]at he4;subst he4
  have q3':M2.1.same M1.1:=by
   obtain⟨a1,a2,a3,⟨c1,c2,c3,c4,c5⟩,⟨d1,d2,d3,d4,d5⟩⟩:=q3;exact⟨a1.symm,a2.symm,a3.symm,⟨c1.symm,c2.symm,c3.symm,c5,c4⟩,⟨d1.symm,d2.symm,d3.symm,d5,d4⟩⟩
  have hh3':=hh3 _ hs3;simp only[StP.cells,VP.cells,lC,lN]at hh3'
  have y3l:A.app (A.tak (A.mul y1n 4) (A.drp 0 y1c)) (A.tak (A.mul y2n 4) (A.drp 0 y2c))=y1c++y2c:=by
   rw[hA];simp only[DL,C7,CV,CT,List.drop_zero];rw[lT (by omega),lT (by omega)]
  have y3k:clL (y1c++y2c)=true:=R9 y1k y2k;have y3n:y1n+y2n=A.add y1n y2n:=by rw[hA];rfl
  rw[<-y3l]at hh3' y3k;rw[y3n]at hh3';have hs34:=WP _ _ (zCN hs3 (hs4.trans' q3'));simp only[StP.cells,VP.cells,lC,lN]at hs34
  with_reducible refine Bd hA hd hQ 1 ?hk ?_
  case hk=>trivial
  conv=>arg 9;cbv
  try simp only[OK]
  repeat' first|(with_reducible refine And.intro trivial ?_)|((with_reducible refine⟨fun hbr=>?_,fun hbr=>?_⟩)<;>(try simp(disch:=omega)only[hA,Ba,reduceCtorEq]at hbr)<;>(try (with_reducible exfalso;omega)))|((with_reducible refine Bd hA hd hQ 200 ?hk ?_);(case hk=>trivial);(conv=>arg 9;cbv);(try simp only[OK]))|((with_reducible refine Bp ?hn ?_);(case hn=>((simp(disch:=omega)only[hA,Ba])<;>omega)))|((with_reducible refine cO ?hg ?_);(case hg=>with_reducible exact Bb F7_ok);(refine tM (hs34 _) fun v hh hx=>?_);(obtain⟨⟨b,hv,hb⟩,he⟩:=hx;subst hv;subst he;cases b<;>simp(disch:=omega)only[bF,false_iff,eq_self,not_true_eq_false]at hb)<;>(try (with_reducible exfalso;omega)))|((with_reducible refine cO ?hg ?_);(case hg=>with_reducible exact Bb F5_ok);(refine tM (hfx _) fun v hh hx=>?_);(obtain⟨⟨b,hv,hb⟩,he⟩:=hx;subst hv;subst he;cases b<;>simp(disch:=omega)only[bF,false_iff,eq_self,not_true_eq_false]at hb)<;>(try (with_reducible exfalso;omega)))|((with_reducible refine cO ?hg ?_);(case hg=>with_reducible exact Bb F8_ok);refine tM (va1 _) ?_;rintro _ _ ⟨rfl,rfl⟩)|((with_reducible refine cO ?hg ?_);(case hg=>with_reducible exact Bb F8_ok);refine tM (vb1 _) ?_;rintro _ _ ⟨rfl,rfl⟩)|((with_reducible refine cO ?hg ?_);(case hg=>with_reducible exact Bb F9_ok);(refine tM (Tri.lendB [7] (fun id hid=>by simp at hid;subst hid;exact⟨_,rfl,y1k⟩) rfl (hh1 [])) fun v hh hx=>?_);(obtain⟨⟨b,hv,hb⟩,he⟩:=hx;subst hv;subst he;cases b<;>simp(disch:=omega)only[bF,false_iff,eq_self,not_true_eq_false]at hb)<;>(try (with_reducible exfalso;omega)))|((with_reducible refine cO ?hg ?_);(case hg=>with_reducible exact Bb F9_ok);(refine tM (Tri.lendB [8] (fun id hid=>by simp at hid;subst hid;exact⟨_,rfl,y2k⟩) rfl (hh2 [])) fun v hh hx=>?_);(obtain⟨⟨b,hv,hb⟩,he⟩:=hx;subst hv;subst he;cases b<;>simp(disch:=omega)only[bF,false_iff,eq_self,not_true_eq_false]at hb)<;>(try (with_reducible exfalso;omega)))|((with_reducible refine cO ?hg ?_);(case hg=>with_reducible exact Bb F9_ok);(refine tM (Tri.lendB [9] (fun id hid=>by simp at hid;subst hid;exact⟨_,rfl,y3k⟩) rfl (hh3' [])) fun v hh hx=>?_);(obtain⟨⟨b,hv,hb⟩,he⟩:=hx;subst hv;subst he;cases b<;>simp(disch:=omega)only[bF,false_iff,eq_self,not_true_eq_false]at hb)<;>(try (with_reducible exfalso;omega)))
  all_goals (try (with_reducible refine FinR.self ?_;first|refine FinR.bl rfl ?_|refine FinR.bs rfl ?_|refine FinR.blh rfl ?_ rfl|refine FinR.bsh rfl ?_ rfl))
  all_goals (try simp(disch:=omega)only[eq_self])
  all_goals simp
 all_goals (try (with_reducible refine FinR.self ?_;first|refine FinR.bl rfl ?_|refine FinR.bs rfl ?_|refine FinR.blh rfl ?_ rfl|refine FinR.bsh rfl ?_ rfl))
 all_goals (try simp(disch:=omega)only[eq_self])
 all_goals simp
theorem YT(f:Fld)(d o:Dat)(hok:okF f)(hokd:okA d)(hoko:okA o) :
  Tri Tryz.prog gs 3 [.agg (Bo f),.agg (Bs d),.agg (Bs o)] [] fun v _=>v = .lit (.bool true)\/v = .sb true:=by
 by_cases hm:B7 f
 ·obtain⟨g,hc,hg,_⟩:=Sg _ f (Nat.le_refl _) (Ei hm)
  exact(V3 f g d o hok hokd hoko fun _=>⟨hc,hg⟩).mono fun v h' ⟨b,hv,hb⟩=>by rw[hb.2 trivial]at hv;exact hv
 ·exact(V3 f f d o hok hokd hoko fun h=>absurd h hm).mono fun v h' ⟨b,hv,hb⟩=>by rw[hb.2 trivial]at hv;exact hv
def tysD:List TypeId:=[26,24,22,30,28,27,62,5,3,9,4]
theorem zCP:okL Tryz.prog tysD=true:=by kernel_rfl
theorem zC7:Tryz.prog.cellsOf 5=1:=by kernel_rfl
theorem zBO:Tryz.prog.cellsOf 62=1:=by kernel_rfl
theorem zBu:Tryz.prog.cellsOf 27=1:=by kernel_rfl
theorem SD:Tryz.prog.cellsOf 30=6:=by kernel_rfl
theorem Vt:Tryz.prog.cellsOf 28=1:=by kernel_rfl
theorem Px:∀(len:Nat) (c:List EV) (m:Nat),c.length=len*1->(∀i,i<len->HasT Tryz.prog m 5 ((c.drop (i*1)).take 1))->∃l:List Nat,l.length=len/\c=Br l/\AllB l
 |0,c,m,hl,_=>⟨[],rfl,List.length_eq_zero_iff.1 (by omega),AllB.nil⟩
 |len+1,c,m,hl,h=>by
  obtain⟨n,e1,q1,q2⟩:=HasT.int Tryz.underlying5 (h 0 (by omega))
  obtain⟨l,k1,k2,k3⟩:=Px len (c.drop 1) m (by rw[lD,hl];omega) (fun i hi=>by
   have:=h (i+1) (by omega)
   rw[List.drop_drop,show 1+i*1=(i+1)*1 by omega];exact this)
  have hr:0<=n/\n<=255:=⟨q1,q2⟩;refine⟨n.toNat::l,by simp[k1],?_,fun x hx=>?_⟩
  ·have hc:c=_:=DB (x:=.lit (.int .u8 n)) (by simpa using e1)
   rw[hc,k2];show _=EV.lit (.int .u8 ((n.toNat:Nat):Int))::Br l;rw[show ((n.toNat:Nat):Int)=n by omega]
  ·rcases List.mem_cons.1 hx with rfl|hx
   ·omega
   ·exact k3 x hx
theorem Wy(m:Nat):∀(len:Nat) (c:List EV),c.length=len*1->(∀i,i<len->HasT Tryz.prog m 62 ((c.drop (i*1)).take 1))->∃l:List (List Nat),l.length=len/\c=Bx l/\∀b∈l,LI b
 |0,c,hl,_=>⟨[],rfl,List.length_eq_zero_iff.1 (by omega),fun b hb=>by cases hb⟩
 |len+1,c,hl,h=>by
  obtain⟨m1,n,cs, -,e1,q1,hl1,hk⟩:=HasT.slice Tryz.underlying62 zC7 (h 0 (by omega))
  obtain⟨b,k1,k2,k3⟩:=Px n cs m1 hl1 hk
  obtain⟨l,j1,j2,j3⟩:=Wy m len (c.drop 1) (by rw[lD,hl];omega) (fun i hi=>by
   have:=h (i+1) (by omega)
   rw[List.drop_drop,show 1+i*1=(i+1)*1 by omega];exact this)
  refine⟨b::l,by simp[j1],?_,fun x hx=>?_⟩
  ·have hc:c=_:=DB (x:=.isl n none cs) (by simpa using e1)
   rw[hc,j2,k2,<-k1];rfl
  ·rcases List.mem_cons.1 hx with rfl|hx
   ·exact⟨by omega,k3⟩
   ·exact j3 x hx
theorem Uo:∀(m:Nat) (c:List EV),HasT Tryz.prog m 30 c->∃d,c=Bs d/\okA d:=by
 intro m
 induction m using Nat.strongRecOn with
 |_ m ih=>
 intro c h
 obtain⟨m1,rfl,g1⟩:=HasT.struct Tryz.underlying30 h
 obtain⟨_,h1,g2⟩:=HasTF.cons g1 rfl Hr
 obtain⟨_,h2,g3⟩:=HasTF.cons g2 rfl Hr
 obtain⟨_,h3,g4⟩:=HasTF.cons g3 rfl Hr
 obtain⟨_,h5,g5⟩:=HasTF.cons g4 rfl zBu
 obtain⟨_,h6,g6⟩:=HasTF.cons g5 rfl Vt
 obtain⟨_,h7,g7⟩:=HasTF.cons g6 rfl Vt
 have h8:=HasTF.nil g7
 obtain⟨ln,e1,q1⟩:=HasT.int Tryz.underlying3 h1
 obtain⟨of,e2,q2⟩:=HasT.int Tryz.underlying3 h2
 obtain⟨nl,e3,q3⟩:=HasT.int Tryz.underlying3 h3
 obtain⟨m2,bn,bl,rfl,e5,q5,hl5,hk5⟩:=HasT.slice Tryz.underlying27 zBO h5
 obtain⟨bufs,b1,b2,b3⟩:=Wy m2 bn bl hl5 hk5
 obtain⟨m3,kn,kl,hm3,e6,q6,hl6,hk6⟩:=HasT.slice Tryz.underlying28 SD h6
 obtain⟨kids,k1,k2,k3⟩:=Kz (n:=6) (cells:=Bs) (cellss:=Bi) (ok:=okA) (oks:=GS) rfl (fun _ _=>rfl) trivial (fun _ _ a b=>⟨a,b⟩) kn kl hl6 (fun i hi=>ih m3 (by omega) _ (hk6 i hi))
 obtain⟨m4,dn,dl,hm4,e7,q7,hl7,hk7⟩:=HasT.slice Tryz.underlying28 SD h7
 obtain⟨dict,d1,d2,d3⟩:=Kz (n:=6) (cells:=Bs) (cellss:=Bi) (ok:=okA) (oks:=GS) rfl (fun _ _=>rfl) trivial (fun _ _ a b=>⟨a,b⟩) dn dl hl7 (fun i hi=>ih m4 (by omega) _ (hk7 i hi))
 refine⟨.mk ln of nl bufs kids dict,?_,q1,q2,q3,by omega,b3,by omega,k3,by omega,d3⟩
 have d1':=DB e1
 have d2':=DB e2
 have d3':=DB e3
 have d5':=DB e5
 have d6':=DB e6
 have d7':=DB e7
 rw[d1',d2',d3',d5',d6',d7',h8,<-k1,k2,<-b1,b2,<-d1,d2]
 rfl
end Go.Proofs.YtehgpabfgjofhaaGreatDoor.Stats
