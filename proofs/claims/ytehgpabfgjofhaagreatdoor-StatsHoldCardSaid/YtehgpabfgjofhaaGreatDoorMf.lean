/- No conditions. -/
import Derived.Test.YtehgpabfgjofhaaGreatDoorMe
import Derived.Test.YtehgpabfgjofhaaGreatDoorX37
set_option linter.unusedVariables false
set_option linter.unusedSimpArgs false
set_option maxRecDepth 100000
set_option maxHeartbeats 16000000
namespace Go.Proofs.YtehgpabfgjofhaaGreatDoor.Stats
open Go Go.Proofs.YtehgpabfgjofhaaGreatDoor Go.Proofs.YtehgpabfgjofhaaGreatDoor.Em Go.Proofs
abbrev L7:List Nat:=[0,1,2,3,4,5,6]
theorem zBI{nm:ByteArray}{nul:Bool}{k w i x:Int}{kn:Nat}{kc lc mc T:List EV}{len nl:Int}{has:Bool}{LA LB:EC}{st:Nat}(hT:GM T)(hlc:clL lc=true)(hmc:clL mc=true)(t:EH) :
  mvH L7 [] (HO (PCc nm nul k w i x kn kc) len nl lc mc has T LA LB st++t) L7=HO (PCc nm nul k w i x kn kc) len nl lc mc has T LA LB st:=by
 show ([.blk z11,.blk (PCc nm nul k w i x kn kc),.blk ([.lit (.int .i64 len),.lit (.int .i64 nl),.lit (.bool false)]++zV++zV),.blk (mvL _ _ lc),.blk (mvL _ _ mc),.blk [.lit (.bool has)],.lp (mvL (mvG L7 []) (mvZ [] _) T) [41,42] LA LB st none]:EH)=_
 rw[hT _ _ (by decide),BR _ _ _ hlc,BR _ _ _ hmc]
 rfl
theorem zBb(nm:ByteArray)(nul:Bool)(k w i x:Int)(kn:Nat)(kc AC T:List EV)(LA LB:EC)(hT:GM T)(len:Int)(Y:List (Val×Nat))(n:Nat)(hn:n=Y.length)(hY:Y.length<=4096)(hsum:BA (Y.map (·.2))<=4194304)
  (hnum:∀A,A=stdA->List.take 1 (List.drop (A.add 0 14) AC)=[.lit (.int .i64 n)])
  (hget:∀j,j<Y.length->∀h:EH,Tri Tryz.prog gs 32 [.iptr AC 0,.lit (.int .i64 j)] h fun v h'=>v = .tup [.agg (BK (Y.getD j (Bw,0)).1),.lit (.int .i64 (Y.getD j (Bw,0)).2),.lit (.int .i64 0)]/\h'=h)
  (hround:∀(j:Nat) (z nl:Int) (lc mc:List EV) (has:Bool),j<Y.length->OfI k (Y.map (·.1)) j nl lc mc has->TriY Tryz.prog gs 6 [.lit (.int .i64 z),.agg (BK (Y.getD j (Bw,0)).1)] (HO (PCc nm nul k w i x kn kc) len nl lc mc has T LA LB 0++[.blk (BK (Y.getD j (Bw,0)).1)]) (Ta k (Y.map (·.1)) j (PCc nm nul k w i x kn kc) len T LA LB (BK (Y.getD j (Bw,0)).1))) :
  Tri Tryz.prog gs 31 [.yl 6,.iptr [.iptr AC 0] 0] (HO (PCc nm nul k w i x kn kc) len 0 zV zV false T LA LB 0) fun v h'=>∃nl lc mc has tl,OfI k (Y.map (·.1)) Y.length nl lc mc has/\h'=HO (PCc nm nul k w i x kn kc) len nl lc mc has T LA LB 0++tl:=by
 have hws:=fun n=>HG Y n (Bw,0)
 have hle:=fun n=>HR Y n (Bw,0)
 obtain⟨n',hn'⟩:∃q:Int,q=n:=⟨_,rfl⟩
 rw[<-hn']at hnum
 replace hget:=Hid.mk hget
 replace hround:=Hid.mk hround
 refine Bj F31_ok fun I0 ρ0 w0 Q hρ hQ=>?_
 obtain⟨A,hA⟩:∃A,A=stdA:=⟨_,rfl⟩
 have hnum:=hnum A hA
 have hbx:List.take 1 (List.drop 0 [EV.iptr AC 0])=[EV.iptr AC 0]:=rfl
 unfold HO
 with_reducible refine Be hA hd hQ 200 ?hk ?_
 case hk=>trivial
 conv=>arg 9;cbv
 try simp only[OK]
 repeat' first|(with_reducible refine OKK.loop ?_)|((with_reducible refine Bd hA hd hQ 200 ?hk ?_);(case hk=>trivial);(conv=>arg 9;cbv);(try simp only[OK]))|((refine⟨_,_,?l1,hbx,rfl,?_⟩);(case l1=>exact rfl))|((refine⟨_,_,?l1,hnum,rfl,?_⟩);(case l1=>exact rfl))
 refine oK_ (msk 39 [0,1,3,11,12]) ?_
 refine oL_ (fun m st=>∃(z LZ:Int) (nl:Int) (lc mc:List EV) (has:Bool),st=⟨mkT 39 [(0,.yl 6),(1,.iptr [.iptr AC 0] 0),(3,.lit (.int .i64 LZ)),(11,.lit (.int .i64 n')),(12,.lit (.int .i64 z))],HO (PCc nm nul k w i x kn kc) len nl lc mc has T LA LB 0⟩/\
  m=(n'-z).toNat/\0<=z/\z<=n'/\LZ=4194304-BA ((Y.take z.toNat).map (·.2))/\OfI k (Y.map (·.1)) z.toNat nl lc mc has) (fun m st hs' ih=>?_)
  ⟨0,4194304,0,zV,zV,false,rfl,rfl,by omega,by omega,by simp[BA],by simp[CD],.inl ⟨rfl,rfl,rfl,fun _ v hv=>by simp at hv⟩⟩
 obtain⟨z,LZ,nl,lc,mc,has,rfl,hm,hz1,hz2,hLZ,hI⟩:=hs'
 obtain⟨hlc,hmc⟩:=hI.cl
 by_cases hzn:z<n'
 ·have hg:=hget.out z.toNat (by omega)
  have hr:=hround.out z.toNat z nl lc mc has (by omega) hI
  have hw1:=hws z.toNat (by omega)
  have hw2:=hle z.toNat (by omega)
  rw[Int.toNat_of_nonneg hz1]at hg;generalize Y.getD z.toNat (Bw,0)=X at *;obtain⟨⟨vb,vn,vt,vl⟩,W⟩:=X;simp only[BK]at hg hr hw1 hw2;generalize vl.length=ln,BE vl=vc at *;clear hget hround hws hle;unfold HO at hr ⊢;obtain⟨W',hW'⟩:∃q:Int,q=W:=⟨_,rfl⟩;rw[<-hW']at hg
  with_reducible refine Be hA hd hQ 1 ?hk ?_
  case hk=>trivial
  conv=>arg 9;cbv
  try simp only[OK]
  repeat' first|((with_reducible refine⟨fun hbr=>?_,fun hbr=>?_⟩)<;>(try simp(disch:=omega)only[hA,Ba]at hbr)<;>(try (with_reducible exfalso;omega)))|((with_reducible refine Bd hA hd hQ 1 ?hk ?_);(case hk=>trivial);(conv=>arg 9;cbv);(try simp only[OK]))|((refine⟨_,_,?l1,hbx,rfl,?_⟩);(case l1=>exact rfl))
  all_goals try
   refine cO (Wb R3) (tM (hg _) fun v hh hx=>?_)
   obtain⟨hv,hh'⟩:=hx;subst hv;subst hh'
   with_reducible refine Bd hA hd hQ 1 ?hk ?_
   case hk=>trivial
   conv=>arg 9;cbv
   try simp only[OK]
   repeat' first|((with_reducible refine⟨fun hbr=>?_,fun hbr=>?_⟩)<;>(try simp(disch:=omega)only[hA,Ba]at hbr)<;>(try (with_reducible exfalso;omega)))|((with_reducible refine Bd hA hd hQ 1 ?hk ?_);(case hk=>trivial);(conv=>arg 9;cbv);(try simp only[OK]))
  refine .inr ⟨6,_,rfl,rfl,TriY.mono hr fun v hh hx=>?_⟩
  obtain⟨hv,nl2,lc2,mc2,has2,hI2,hh'⟩:=hx;obtain⟨hlc2,hmc2⟩:=hI2.cl;unfold HO at hh';subst hv;subst hh'
  with_reducible refine Bd hA hd hQ 1 ?hk ?_
  case hk=>trivial
  conv=>arg 9;cbv
  try simp only[OK]
  repeat' first|(with_reducible refine OKK.again ?_)|((with_reducible refine Bd hA hd hQ 1 ?hk ?_);(case hk=>trivial);(conv=>arg 9;cbv);(try simp only[OK]))
  refine oK_ (msk 39 [0,1,3,11,12]) (OKs.mvE L7 [] (by rw[hρ];rfl) ⟨by decide,by simp[Bc],by simp⟩ (zBI hT hlc2 hmc2 [_]) ?_)
  have ez:(A.ib .add .i64 z 1).toNat=z.toNat+1:=by simp(disch:=omega)only[hA,Ba];omega
  refine ih _ _ ⟨A.ib .add .i64 z 1,A.ib .sub .i64 LZ W',nl2,lc2,mc2,has2,rfl,rfl,?_,?_,?_,?_⟩ ?_
  ·simp(disch:=omega)only[hA,Ba];omega
  ·simp(disch:=omega)only[hA,Ba];omega
  ·rw[ez,hw1];simp(disch:=omega)only[hA,Ba];push_cast;omega
  ·rw[ez];exact hI2
  ·simp(disch:=omega)only[hA,Ba];omega
 ·unfold HO
  with_reducible refine Be hA hd hQ 200 ?hk ?_
  case hk=>trivial
  conv=>arg 9;cbv
  try simp only[OK]
  repeat' first|((with_reducible refine⟨fun hbr=>?_,fun hbr=>?_⟩)<;>(try simp(disch:=omega)only[hA,Ba]at hbr)<;>(try (with_reducible exfalso;omega)))|((with_reducible refine Bd hA hd hQ 200 ?hk ?_);(case hk=>trivial);(conv=>arg 9;cbv);(try simp only[OK]))
  refine fI_ rfl ⟨nl,lc,mc,has,[],?_,rfl⟩;rw[show Y.length=z.toNat by omega]
  exact hI
theorem Z4(t:ByteArray)(ht:t.size<=65536):Tri Tryz.prog gs 18 [.lit (.string t)] [] fun v h'=>v = .lit (.string (t.extract 0 (min t.size 16))):=by
 refine Bj F18_ok fun I0 ρ0 w0 Q hρ hQ=>?_
 obtain⟨A,hA⟩:∃A,A=stdA:=⟨_,rfl⟩
 have hm:A.imin (A.ofn (A.bsz t)) 16=((min t.size 16:Nat):Int):=by
  rw[hA];show (if (16:Int)<(t.size:Int)then (16:Int)else t.size)=_
  split<;>omega
 have hneed:A.slb 0 (A.imin (A.ofn (A.bsz t)) 16) (A.bsz t)=true:=by
  rw[hm,hA];show decide ((0:Int)<=0/\(0:Int)<=((min t.size 16:Nat):Int)/\((min t.size 16:Nat):Int)<=t.size)=true;exact decide_eq_true (by omega)
 with_reducible refine Be hA hd hQ 200 ?hk ?_
 case hk=>trivial
 conv=>arg 9;cbv
 try simp only[OK]
 repeat' first|((with_reducible refine⟨fun hbr=>?_,fun hbr=>?_⟩)<;>(try simp(disch:=omega)only[hA,OK,Ba,Int.reduceToNat,reduceCtorEq]at hbr)<;>(try (with_reducible exfalso;omega)))|((with_reducible refine Bd hA hd hQ 200 ?hk ?_);(case hk=>trivial);(conv=>arg 9;cbv);(try simp only[OK]))|((with_reducible refine Bp ?hn ?_);(case hn=>((simp(disch:=omega)only[hA,Ba])<;>omega)))|(refine⟨hneed,?_⟩)|fail
 refine fI_ rfl (congrArg (fun q=>EV.lit (.string q)) ?_)
 show A.bex t (A.tn 0) (A.tn (A.imin (A.ofn (A.bsz t)) 16))=_
 rw[hm,hA];rfl
theorem UZ:∀(p:List UInt8) (x y:UInt8) (s q:List UInt8),x<y->Lib.compareBytes (p++x::s) (p++y::q) = -1
 |[],x,y,s,q,h=>by simp[Lib.compareBytes,h]
 |a::p,x,y,s,q,h=>by simp[Lib.compareBytes,UZ p x y s q h,UInt8.lt_irrefl]
theorem zDW(t:ByteArray)(n:Nat)(hn:n<t.size)(y:Nat)(hy:y=(BI t).getD n 0)(h:y<255):C1 t (CH ((BI t).take n++[y+1]))<=0:=by
 have hlen:n<t.data.toList.length:=by simpa using hn
 have e1:t.data.toList=t.data.toList.take n++t.data.toList[n]::t.data.toList.drop (n+1):=by
  conv=>lhs;rw[<-List.take_append_drop n t.data.toList,List.drop_eq_getElem_cons hlen]
 have e2:y=(t.data.toList[n]).toNat:=by
  rw[hy];unfold BI;rw[lG,List.getElem?_map,lE hlen];rfl
 have e3:(CH ((BI t).take n++[y+1])).data.toList=t.data.toList.take n++UInt8.ofNat (y+1)::[]:=by
  unfold CH BI;rw[List.map_append,<-List.map_take,List.map_map];have:(UInt8.ofNat ∘ UInt8.toNat)=id:=by funext x;simp
  rw[this];simp
 unfold C1
 rw[e3]
 conv=>lhs;arg 1;rw[e1]
 rw[UZ _ _ _ _ _ (by rw[UInt8.lt_iff_toNat_lt,<-e2,UInt8.toNat_ofNat'];omega)]
 decide
theorem ZY(t:ByteArray)(ht:t.size<=65536):Tri Tryz.prog gs 19 [.lit (.string t)] [] fun v h'=>∃(r:ByteArray) (b:Bool),v = .tup [.lit (.string r),.lit (.bool b)]/\(b=true->r.size<=16/\C1 t r<=0):=by
 refine Bj F19_ok fun I0 ρ0 w0 Q hρ hQ=>?_
 obtain⟨A,hA⟩:∃A,A=stdA:=⟨_,rfl⟩
 have hbs:16<t.size->A.bsz (A.bex t (A.tn 0) (A.tn 16))=16:=fun h=>by
  rw[hA];show (t.extract 0 16).size=16;rw[ByteArray.size_extract];omega
 have hroom:16<t.size->A.room (A.bsz (A.bex t (A.tn 0) (A.tn 16))) 1=true:=fun h=>by rw[hbs h,hA];rfl
 with_reducible refine Be hA hd hQ 200 ?hk ?_
 case hk=>trivial
 conv=>arg 9;cbv
 try simp only[OK]
 repeat' first|(with_reducible refine OKK.loop ?_)|(with_reducible refine OKK.again ?_)|((with_reducible refine⟨fun hbr=>?_,fun hbr=>?_⟩)<;>(try simp(disch:=omega)only[hA,Ba]at hbr)<;>(try (with_reducible exfalso;omega)))|((with_reducible refine Bd hA hd hQ 200 ?hk ?_);(case hk=>trivial);(conv=>arg 9;cbv);(try simp only[OK]))|((with_reducible refine Bp ?hn ?_);(case hn=>((simp(disch:=omega)only[hA,Ba,Int.reduceToNat])<;>omega)))|(refine⟨hroom (by omega),?_⟩)|fail
 ·exact fI_ rfl ⟨_,_,rfl,fun _=>⟨by omega,by show Lib.compareBytes _ _<=0;rw[RQ];omega⟩⟩
 have h16:=hbs (by omega)
 have hC:A.enc (A.bex t (A.tn 0) (A.tn 16))=Br ((BI t).take 16):=by
  rw[hA,WS,TA];rfl
 have hBl:((BI t).take 16).length=16:=by rw[lK,GG];omega
 have hBa:AllB ((BI t).take 16):=(KJ t).take 16
 generalize hB:(BI t).take 16=B at *
 refine oK_ (msk 36 [4,5]) ?_
 refine oL_ (fun m st=>∃(N:Nat) (C:List EV) (n:Int),st=⟨mkT 36 [(4,.sl 1 0 0 N none),(5,.lit (.int .i64 n))],[.blk C]⟩/\N=16/\C=Br B/\m=n.toNat/\0<=n/\n<=16) (fun m st hs' ih=>?_) ⟨_,_,_,rfl,h16,hC,rfl,?_,?_⟩
 rotate_left
 ·show (0:Int)<=A.ofn (A.bsz (A.bex t (A.tn 0) (A.tn 16)))
  rw[h16,hA];decide
 ·show A.ofn (A.bsz (A.bex t (A.tn 0) (A.tn 16)))<=16
  rw[h16,hA];decide
 clear hroom hbs h16 hC
 obtain⟨N,C,n,rfl,hN,hC,hm,hn1,hn2⟩:=hs'
 have hCl:C.length=16:=by rw[hC,JK,hBl]
 obtain⟨y,hy⟩:∃y:Int,y=(B.getD (n.toNat-1) 0:Nat):=⟨_,rfl⟩
 have hL:0<n->List.take 1 (List.drop (A.idx 0 (A.ib .sub .i64 n 1) 1) C)=[.lit (.int .u8 y)]:=fun h=>by
  obtain⟨x,y1,y2⟩:=IK hC (n.toNat-1) (by omega)
  rw[show A.ib .sub .i64 n 1=((n.toNat-1:Nat):Int) by simp(disch:=omega)only[hA,Ba]<;>omega,hA,B3,Nat.zero_add,Nat.mul_one,Int.toNat_natCast,y1,y2,hy]
 have hy2:y<256/\0<=y:=by have:=hBa.get (n.toNat-1);omega
 with_reducible refine Be hA hd hQ 200 ?hk ?_
 case hk=>trivial
 conv=>arg 9;cbv
 try simp only[OK]
 repeat' first|(with_reducible refine OKK.loop ?_)|(with_reducible refine OKK.again ?_)|(with_reducible refine And.intro trivial ?_)|((with_reducible refine⟨fun hbr=>?_,fun hbr=>?_⟩)<;>(try simp(disch:=omega)only[hA,Ba]at hbr)<;>(try (with_reducible exfalso;omega)))|((with_reducible refine Bd hA hd hQ 200 ?hk ?_);(case hk=>trivial);(conv=>arg 9;cbv);(try simp only[OK]))|((with_reducible refine Bp ?hn ?_);(case hn=>((simp(disch:=omega)only[hA,Ba,Int.reduceToNat])<;>omega)))|((refine⟨_,_,?l1,(hL (by omega)),rfl,?_⟩);(case l1=>exact rfl))|fail
 ·have hn0:0<n:=by omega
  obtain⟨p,hp⟩:∃p:Nat,n=(p+1:Nat):=⟨n.toNat-1,by omega⟩
  have hpy:n.toNat-1=p:=by omega
  rw[hpy]at hy
  have hS:A.setl C (A.idx 0 (A.ib .sub .i64 n 1) 1) [.lit (.int .u8 (A.ib .add .u8 y 1))]=Br (B.take p++[y.toNat+1]++B.drop (p+1)):=by
   rw[show A.ib .sub .i64 n 1=(p:Int) by simp(disch:=omega)only[hA,Ba]<;>omega,show A.ib .add .u8 y 1=((y.toNat+1:Nat):Int) by rw[hA];exact(Nh _ (by omega) (by omega)).trans (by omega),hA,hC,B3,Gn,Nat.zero_add,Nat.mul_one,Int.toNat_natCast]
   simp only[Br,List.map_append,List.map_take,List.map_drop,List.length_singleton,List.map_cons,List.map_nil];rfl
  have hall:AllB (B.take p++[y.toNat+1]++B.drop (p+1)):=fun z hz=>by
   rcases List.mem_append.1 hz with hz|hz
   ·rcases List.mem_append.1 hz with hz|hz
    ·exact hBa z (List.mem_of_mem_take hz)
    ·rw[List.mem_singleton.1 hz];omega
   ·exact hBa z (List.mem_of_mem_drop hz)
  have hlp:(B.take p).length=p:=by rw[lK];omega
  have hnn:A.sub (A.tn n) (A.tn 0)=p+1:=by rw[hA];show n.toNat-(0:Int).toNat=_;rw[show (0:Int).toNat=0 from rfl];omega
  have h00:A.add 0 (A.mul (A.tn 0) 1)=0:=by rw[hA];rfl
  have hbyt:A.byt (A.sub (A.tn n) (A.tn 0)) (A.drp (A.add 0 (A.mul (A.tn 0) 1)) (A.setl C (A.idx 0 (A.ib .sub .i64 n 1) 1) [.lit (.int .u8 (A.ib .add .u8 y 1))]))=true:=by
   rw[hS,hnn,h00,hA];exact Ku hall (by simp[hlp])
  have hdec:A.dec (A.tak (A.sub (A.tn n) (A.tn 0)) (A.drp (A.add 0 (A.mul (A.tn 0) 1)) (A.setl C (A.idx 0 (A.ib .sub .i64 n 1) 1) [.lit (.int .u8 (A.ib .add .u8 y 1))])))=CH (B.take p++[y.toNat+1]):=by
   rw[hS,hnn,h00,hA];show stdA.dec (List.take (p+1) (Br _))=_;rw[Ki,List.take_append_of_le_length (by simp[hlp]),lT (by simp[hlp])]
   exact Lu _
  refine⟨hbyt,fI_ rfl ⟨_,_,rfl,fun _=>?_⟩⟩
  show ByteArray.size (A.dec (A.tak (A.sub (A.tn n) (A.tn 0)) (A.drp (A.add 0 (A.mul (A.tn 0) 1)) (A.setl C (A.idx 0 (A.ib .sub .i64 n 1) 1) [.lit (.int .u8 (A.ib .add .u8 y 1))]))))<=16/\C1 t (A.dec (A.tak (A.sub (A.tn n) (A.tn 0)) (A.drp (A.add 0 (A.mul (A.tn 0) 1)) (A.setl C (A.idx 0 (A.ib .sub .i64 n 1) 1) [.lit (.int .u8 (A.ib .add .u8 y 1))]))))<=0;rw[hdec];refine⟨by rw[Nl,List.length_append,hlp];show p+1<=16;omega,?_⟩
  have hBp:B.take p=(BI t).take p:=by rw[<-hB,List.take_take,Nat.min_eq_left (by omega)]
  have hyg:y.toNat=(BI t).getD p 0:=by
   rw[hy,<-hB,Int.toNat_natCast,lG,List.getElem?_take,if_pos (by omega),lG]
  rw[hBp];exact zDW t p (by omega) y.toNat hyg (by omega)
 ·refine oK_ (msk 36 [4,5]) (OKs.mvE [0] [] (by rw[hρ];rfl) ⟨by decide,by simp[Bc],by simp⟩ (hn:=[.blk C]) (by show [EO.blk (mvL _ _ C)]=_;rw[BR _ _ _ (by rw[hC];exact Zp _)]) ?_)
  refine ih _ _ ⟨N,C,A.ib .sub .i64 n 1,rfl,hN,hC,rfl,?_,?_⟩ ?_
  ·simp(disch:=omega)only[hA,Ba];omega
  ·simp(disch:=omega)only[hA,Ba];omega
  ·simp(disch:=omega)only[hA,Ba];omega
 ·exact fI_ rfl ⟨_,_,rfl,fun h=>by cases h⟩
theorem Yd(t:ByteArray)(ht:t.size<=65536)(h:EH):Tri Tryz.prog gs 18 [.lit (.string t)] h fun v h'=>v = .lit (.string (t.extract 0 (min t.size 16)))/\h'=h:=
 Tri.valA rfl rfl (Z4 t ht) h
theorem zCw(t:ByteArray)(ht:t.size<=65536)(h:EH):Tri Tryz.prog gs 19 [.lit (.string t)] h fun v h'=>(∃(r:ByteArray) (b:Bool),v = .tup [.lit (.string r),.lit (.bool b)]/\(b=true->r.size<=16/\C1 t r<=0))/\h'=h:=
 Tri.litC (φ:=fun v=>∃(r:ByteArray) (b:Bool),v = .tup [.lit (.string r),.lit (.bool b)]/\(b=true->r.size<=16/\C1 t r<=0)) (fun v ⟨r,b,hv,_⟩=>by rw[hv];rfl) rfl (ZY t ht) h
theorem Vz:∀(p s:List UInt8),Lib.compareBytes p (p++s)<=0
 |[],[]=>by simp[Lib.compareBytes]
 |[],_::_=>by simp[Lib.compareBytes]
 |a::p,s=>by simpa[Lib.compareBytes,UInt8.lt_irrefl]using Vz p s
theorem zCs(t:ByteArray)(n:Nat):C1 (t.extract 0 n) t<=0:=by
 unfold C1
 have e:t.data.toList=(t.extract 0 n).data.toList++t.data.toList.drop n:=by
  rw[ByteArray.data_extract,Array.toList_extract];simp
 conv=>lhs;arg 2;rw[e]
 exact Vz _ _
theorem zCy(t:ByteArray):(t.extract 0 (min t.size 16)).size<=16:=by rw[ByteArray.size_extract];omega
theorem Tr(a b:Int)(h1:0<=a*b)(h2:a*b<=18446744073709551615):stdA.ib .mul .u64 a b=a*b:=JV _ h1 h2
theorem zA2(a b:Int)(h1:0<=a+b)(h2:a+b<=18446744073709551615):stdA.ib .add .u64 a b=a+b:=JV _ h1 h2
theorem Lv(a:Int)(h1:0<=a)(h2:a<=9223372036854775807):stdA.ib .quo .i64 a 2=a/2:=by
 have:a.tdiv 2=a/2:=Int.tdiv_eq_ediv_of_nonneg h1
 show IntKind.i64.wrap (a.tdiv 2)=_
 rw[this]
 exact D6 _ (by omega) (by omega)
theorem K0(a:Int)(h1:0<=a)(h2:a<=9223372036854775807):stdA.ib .rem .i64 a 2=a%2:=by
 exact Int.tmod_eq_emod_of_nonneg h1
theorem YK(b:List Nat)(p n:Nat)(h:p<b.length):BW b p (n+1)=b.getD p 0+256*BW b (p+1) n:=by
 unfold BW
 rw[List.drop_eq_getElem_cons h,List.take_succ_cons,leV,lG,lE h];rfl
theorem Sp(b:List Nat)(p w:Nat)(hb:b.length<=65536)(ha:AllB b)(hw:w=1\/w=2\/w=4\/w=8)(hpw:p+w<=b.length)(h:EH) :
  Tri Tryz.prog gs 90 [isB b,.lit (.int .i64 p),.lit (.int .i64 w)] h fun v h'=>v = .lit (.int .i64 (B5 w (BW b p w)))/\h'=h:=by
 refine Tri.valA rfl rfl ?_ h
 unfold isB
 have hU:=JY b ha p w
 have hst:=fun i (hi:i<w)=>YK b (p+i) (w-1-i) (by omega)
 have hlt:=fun i=>JY b ha (p+i+1) (w-1-i)
 have hS:∀H:Int,H=2^(8*w-1)->B5 w (BW b p w)=if w<8/\H<=(BW b p w:Int)then (BW b p w:Int)-2*H else stdA.wr .i64 (BW b p w:Int):=fun H hH=>by
  have e2:(2:Int)^(8*w-1)=((2^(8*w-1):Nat):Int):=by push_cast;rfl
  have e3:(2:Int)^(8*w)=2*2^(8*w-1):=by rcases hw with rfl|rfl|rfl|rfl<;>decide
  by_cases h8:w=8
  ·subst h8;rw[if_neg (by omega),UP _ hU]
  ·unfold B5
   have h9:BW b p w<2^32:=Nat.lt_of_lt_of_le hU (by rcases hw with rfl|rfl|rfl|rfl<;>first|decide|exact absurd rfl h8)
   by_cases hge:BW b p w<2^(8*w-1)
   ·rw[if_pos hge,if_neg (by rw[hH,e2];omega)]
    exact(D6 _ (by omega) (by omega)).symm
   ·rw[if_neg hge,if_pos ⟨by omega,by rw[hH,e2];omega⟩,e3,hH]
 obtain⟨M,hM⟩:∃n,n=b.length:=⟨_,rfl⟩
 obtain⟨d,hd'⟩:∃c,c=Br b:=⟨_,rfl⟩
 obtain⟨p',hp'⟩:∃q:Int,q=p:=⟨_,rfl⟩
 obtain⟨w',hw'⟩:∃q:Int,q=w:=⟨_,rfl⟩
 rw[<-hM,<-hd',<-hp',<-hw']
 generalize hSG:B5 w (BW b p w)=SG at *
 have hw1:1<=w'/\w'<=8:=by omega
 refine Bj F90_ok fun I0 ρ0 w0 Q hρ hQ=>?_
 obtain⟨A,hA⟩:∃A,A=stdA:=⟨_,rfl⟩
 replace hst:=Hid.mk hst
 replace hlt:=Hid.mk hlt
 replace hS:=Hid.mk hS
 replace hw:=Hid.mk hw
 with_reducible refine Be hA hd hQ 200 ?hk ?_
 case hk=>trivial
 conv=>arg 9;cbv
 try simp only[OK]
 repeat' first|(with_reducible refine OKK.loop ?_)|((with_reducible refine⟨fun hbr=>?_,fun hbr=>?_⟩)<;>(try simp(disch:=omega)only[hA,Ba]at hbr)<;>(try (with_reducible exfalso;omega)))|((with_reducible refine Bd hA hd hQ 200 ?hk ?_);(case hk=>trivial);(conv=>arg 9;cbv);(try simp only[OK]))
 refine oK_ (msk 65 [0,1,2,7,8]) ?_
 refine oL_ (fun m st=>∃(i x:Int),st=⟨mkT 65 [(0,.isl M none d),(1,.lit (.int .i64 p')),(2,.lit (.int .i64 w')),(7,.lit (.int .u64 x)),(8,.lit (.int .i64 i))],[]⟩/\m=(i+1).toNat/\ -1<=i/\i<=w'-1/\x=(BW b (p+(i+1).toNat) (w-(i+1).toNat):Nat))
  (fun m st hs' ih=>?_) ⟨A.ib .sub .i64 w' 1,0,rfl,rfl,by simp(disch:=omega)only[hA,Ba]<;>omega,by simp(disch:=omega)only[hA,Ba]<;>omega,by rw[show A.ib .sub .i64 w' 1=w'-1 by simp(disch:=omega)only[hA,Ba]<;>omega,show w-(w'-1+1).toNat=0 by omega];simp[BW,leV]⟩
 obtain⟨i,x,rfl,hm,hi1,hi2,hx⟩:=hs'
 obtain⟨c,hc⟩:∃x:Int,x=(b.getD (p+i.toNat) 0:Nat):=⟨_,rfl⟩
 have hL:0<=i->List.take 1 (List.drop (A.idx 0 (A.ib .add .i64 p' i) 1) d)=[.lit (.int .u8 c)]:=fun h=>by
  obtain⟨y,y1,y2⟩:=IK hd' (p+i.toNat) (by omega)
  rw[show A.ib .add .i64 p' i=((p+i.toNat:Nat):Int) by simp(disch:=omega)only[hA,Ba]<;>omega,hA,B3,Nat.zero_add,Nat.mul_one,Int.toNat_natCast,y1,y2,hc]
 have hstep:Hid (0<=i->A.ib .add .u64 (A.ib .mul .u64 x 256) (A.wr .u64 c)=(BW b (p+i.toNat) (w-i.toNat):Nat)):=Hid.mk fun h0=>by
  have e1:=hst.out i.toNat (by omega)
  have e2:=hlt.out i.toNat;have e3:=ha.get (p+i.toNat);rw[show w-1-i.toNat+1=w-i.toNat by omega,show p+i.toNat+1=p+(i+1).toNat by omega,show w-1-i.toNat=w-(i+1).toNat by omega]at e1
  rw[show p+i.toNat+1=p+(i+1).toNat by omega,show w-1-i.toNat=w-(i+1).toNat by omega]at e2
  rw[e1,hA,hx,hc];have e4:BW b (p+(i+1).toNat) (w-(i+1).toNat)<256^7:=Nat.lt_of_lt_of_le e2 (Nat.pow_le_pow_right (by decide) (by omega))
  generalize BW b (p+(i+1).toNat) (w-(i+1).toNat)=X,b.getD (p+i.toNat) 0=Y at *;rw[show (256:Nat)^7=72057594037927936 by decide]at e4
  rw[JV _ (by omega) (by omega),Tr _ _ (by omega) (by omega),zA2 _ _ (by omega) (by omega)]
  push_cast;omega
 with_reducible refine Be hA hd hQ 200 ?hk ?_
 case hk=>trivial
 conv=>arg 9;cbv
 try simp only[OK]
 repeat' first|(with_reducible refine OKK.loop ?_)|(with_reducible refine OKK.again ?_)|((with_reducible refine⟨fun hbr=>?_,fun hbr=>?_⟩)<;>(try simp(disch:=omega)only[hA,Ba]at hbr)<;>(try (with_reducible exfalso;omega)))|((with_reducible refine Bd hA hd hQ 200 ?hk ?_);(case hk=>trivial);(conv=>arg 9;cbv);(try simp only[OK]))|((with_reducible refine Bp ?hn ?_);(case hn=>((simp(disch:=omega)only[hA,Ba])<;>omega)))|((refine⟨_,_,?l1,(hL (by omega)),rfl,?_⟩);(case l1=>exact rfl))
 ·refine oK_ (msk 65 [0,1,2,7,8]) (OKs.mv [] [] (by rw[hρ];rfl) ⟨by simp,by simp[Bc],by simp⟩ (ih _ _ ⟨A.ib .sub .i64 i 1,_,rfl,rfl,by simp(disch:=omega)only[hA,Ba]<;>omega,by simp(disch:=omega)only[hA,Ba]<;>omega,?_⟩ (by simp(disch:=omega)only[hA,Ba]<;>omega)))
  show A.ib .add .u64 (A.ib .mul .u64 x 256) (A.wr .u64 c)=_;rw[show (A.ib .sub .i64 i 1+1).toNat=i.toNat by simp(disch:=omega)only[hA,Ba]<;>omega]
  exact hstep.out (by omega)
 ·have hx2:x=(BW b p w:Nat):=by rw[hx,show (i+1).toNat=0 by omega];rfl
  clear hx hstep hst hlt hL;refine oK_ (msk 65 [2,7,9,10]) ?_
  refine oL_ (fun m st=>∃(k H:Int),st=⟨mkT 65 [(2,.lit (.int .i64 w')),(7,.lit (.int .u64 x)),(9,.lit (.int .u64 H)),(10,.lit (.int .i64 k))],[]⟩/\m=(8*w'-1-k).toNat/\0<=k/\k<=8*w'-1/\H=2^k.toNat)
   (fun m st hs' ih=>?_) ⟨0,1,rfl,rfl,by omega,by omega,rfl⟩
  obtain⟨k,H,rfl,hm,hk1,hk2,hH⟩:=hs'
  have hH2:k<8*w'-1->A.ib .mul .u64 H 2=2^(A.ib .add .i64 k 1).toNat:=fun hlt=>by
   rw[show (A.ib .add .i64 k 1).toNat=k.toNat+1 by simp(disch:=omega)only[hA,Ba]<;>omega,hA,hH,Int.pow_succ]
   have:(2:Int)^k.toNat<=2^62:=by exact_mod_cast Nat.pow_le_pow_right (by decide:0<2) (show k.toNat<=62 by omega)
   have h0:(0:Int)<2^k.toNat:=Int.pow_pos (by decide)
   rw[show (2:Int)^62=4611686018427387904 by decide]at this
   exact Tr _ _ (by omega) (by omega)
  have hSH:k=8*w'-1->SG=if w'<8/\H<=x then x-2*H else A.wr .i64 x:=fun he=>by
   have e:=hS.out H (by rw[hH,show k.toNat=8*w-1 by omega])
   rw[e,hx2,hA]
   by_cases hc:w<8/\H<=(BW b p w:Int)
   ·rw[if_pos hc,if_pos ⟨by omega,hc.2⟩]
   ·rw[if_neg hc,if_neg fun h=>hc ⟨by omega,h.2⟩]
  have hwrH:k=8*w'-1->w'<8->H<=x->A.ib .sub .i64 (A.wr .i64 x) (A.ib .mul .i64 2 (A.wr .i64 H))=x-2*H:=fun he hw8 hHx=>by
   have h9:BW b p w<2^32:=Nat.lt_of_lt_of_le hU (by rcases hw.out with rfl|rfl|rfl|rfl<;>first|decide|omega)
   have h0:(0:Int)<H:=by rw[hH];exact Int.pow_pos (by decide)
   rw[show A.wr .i64 x=x by rw[hA];exact D6 _ (by omega) (by omega),show A.wr .i64 H=H by rw[hA];exact D6 _ (by omega) (by omega)]
   simp(disch:=omega)only[hA,Ba]<;>omega
  with_reducible refine Be hA hd hQ 200 ?hk ?_
  case hk=>trivial
  conv=>arg 9;cbv
  try simp only[OK]
  repeat' first|(with_reducible refine OKK.again ?_)|((with_reducible refine⟨fun hbr=>?_,fun hbr=>?_⟩)<;>(try simp(disch:=omega)only[hA,Ba]at hbr)<;>(try (with_reducible exfalso;omega)))|((with_reducible refine Bd hA hd hQ 200 ?hk ?_);(case hk=>trivial);(conv=>arg 9;cbv);(try simp only[OK]))
  ·refine oK_ (msk 65 [2,7,9,10]) (OKs.mv [] [] (by rw[hρ];rfl) ⟨by simp,by simp[Bc],by simp⟩ (ih _ _ ⟨A.ib .add .i64 k 1,_,rfl,rfl,by simp(disch:=omega)only[hA,Ba]<;>omega,by simp(disch:=omega)only[hA,Ba]<;>omega,hH2 (by omega)⟩ (by simp(disch:=omega)only[hA,Ba]<;>omega)))
  ·refine fI_ rfl (congrArg (fun q=>EV.lit (.int .i64 q)) ?_)
   rw[hSH (by omega),if_pos ⟨by omega,by omega⟩]
   exact hwrH (by omega) (by omega) (by omega)
  ·refine fI_ rfl (congrArg (fun q=>EV.lit (.int .i64 q)) ?_)
   rw[hSH (by omega),if_neg (by omega)]
  ·refine fI_ rfl (congrArg (fun q=>EV.lit (.int .i64 q)) ?_)
   rw[hSH (by omega),if_neg (by omega)]
theorem zBr(k:Int)(h:EH):Tri Tryz.prog gs 89 [.lit (.int .i64 k)] h fun v h'=>v = .lit (.int .i64 (Bk k:Nat))/\h'=h:=by
 refine Tri.valA rfl rfl (Bj F89_ok fun I0 ρ0 w0 Q hρ hQ=>?_) h
 obtain⟨A,hA⟩:∃A,A=stdA:=⟨_,rfl⟩
 with_reducible refine Be hA hd hQ 200 ?hk ?_
 case hk=>trivial
 conv=>arg 9;cbv
 try simp only[OK]
 repeat' first|((with_reducible refine⟨fun hbr=>?_,fun hbr=>?_⟩)<;>(try simp(disch:=omega)only[hA,Ba]at hbr)<;>(try (with_reducible exfalso;omega)))|((with_reducible refine Bd hA hd hQ 200 ?hk ?_);(case hk=>trivial);(conv=>arg 9;cbv);(try simp only[OK]))
 all_goals
  refine fI_ rfl ?_;unfold Bk
  (repeat' split)<;>first|rfl|omega
theorem zAW(k:Int)(h:EH):Tri Tryz.prog gs 84 [.lit (.int .i64 k)] h fun v h'=>IsP (Cr k) v/\h'=h:=by
 unfold Cr
 refine Tri.boolC rfl (Bj F84_ok fun I0 ρ0 w0 Q hρ hQ=>?_) h
 obtain⟨A,hA⟩:∃A,A=stdA:=⟨_,rfl⟩
 with_reducible refine Be hA hd hQ 200 ?hk ?_
 case hk=>trivial
 conv=>arg 9;cbv
 try simp only[OK]
 repeat' first|((with_reducible refine⟨fun hbr=>?_,fun hbr=>?_⟩)<;>(try simp(disch:=omega)only[hA,Ba]at hbr)<;>(try (with_reducible exfalso;omega)))|((with_reducible refine Bd hA hd hQ 200 ?hk ?_);(case hk=>trivial);(conv=>arg 9;cbv);(try simp only[OK]))
 all_goals (try (with_reducible refine FinR.self ?_;first|refine FinR.bl rfl ?_|refine FinR.bs rfl ?_|refine FinR.blh rfl ?_ rfl|refine FinR.bsh rfl ?_ rfl))
 all_goals (try simp(disch:=omega)only[hA,Ba,bF,false_iff])
 all_goals omega
theorem Rx(k:Int)(b:List Nat)(r:Nat)(hk:3<=k/\k<=11)(hl:(r+1)*Bk k<=b.length)(hb:b.length<=65536)(ha:AllB b)(h:EH) :
  Tri Tryz.prog gs 62 [.lit (.int .i64 k),isB b,.lit (.int .i64 r)] h fun v h'=>v = .lit (.int .i64 (CI k b r))/\h'=h:=by
 have hw:Bk k=1\/Bk k=2\/Bk k=4\/Bk k=8:=by
  unfold Bk
  repeat' split
  all_goals omega
 have hl2:r*Bk k+Bk k<=b.length:=by rw[Nat.add_mul,Nat.one_mul]at hl;exact hl
 have hwd:=zBr k
 have hnm:=Sp b (r*Bk k) (Bk k) hb ha hw hl2
 have hlt:=JY b ha (r*Bk k) (Bk k)
 have hK:CI k b r=if B5 (Bk k) (BW b (r*Bk k) (Bk k))<0/\7<=k/\k<=9 then B5 (Bk k) (BW b (r*Bk k) (Bk k))+256^Bk k else B5 (Bk k) (BW b (r*Bk k) (Bk k)):=by
  have e3:(2:Int)^(8*Bk k)=256^Bk k:=by rcases hw with e|e|e|e<;>rw[e]<;>decide
  unfold CI
  by_cases h6:k<=6
  ·rw[if_pos h6,if_neg (by omega)]
  ·rw[if_neg h6]
   by_cases h10:k=10\/k=11
   ·have e8:Bk k=8:=by unfold Bk;rw[if_neg (by omega),if_neg (by omega),if_neg (by omega),if_pos (by omega)]
    rw[if_pos h10,if_neg (by omega),e8]
   ·rw[if_neg h10]
    generalize BW b (r*Bk k) (Bk k)=U at *;unfold B5;have h256:((256^Bk k:Nat):Int)=256^Bk k:=by push_cast;rfl
    have hlt':(U:Int)<256^Bk k:=by rw[<-h256];omega
    by_cases hc:U<2^(8*Bk k-1)
    ·rw[if_pos hc,if_neg (by omega)]
    ·rw[if_neg hc,e3,if_pos (by omega)];omega
 have hsm: -9223372036854775808<=B5 (Bk k) (BW b (r*Bk k) (Bk k))/\B5 (Bk k) (BW b (r*Bk k) (Bk k))<=9223372036854775807:=by
  unfold B5;generalize BW b (r*Bk k) (Bk k)=U at *;rcases hw with e|e|e|e<;>rw[e]at hlt ⊢ <;> simp only[Nat.reduceMul,Nat.reduceSub,Nat.reducePow,Int.reducePow]at hlt ⊢ <;> split<;>omega
 have hw4:7<=k/\k<=9->Bk k<=4:=fun h=>by
  unfold Bk
  repeat' split
  all_goals omega
 rw[hK]
 generalize B5 (Bk k) (BW b (r*Bk k) (Bk k))=S at *
 clear hK hlt
 generalize hW:Bk k=W at *
 have e1:∀A,A=stdA->A.ib .mul .i64 (r:Int) (W:Int)=((r*W:Nat):Int):=fun A hA=>by
  rw[hA];refine(Dq _ _ ?_ ?_).trans (by push_cast;rfl)
  ·have:(0:Int)<=((r*W:Nat):Int):=by omega
   push_cast at this;omega
  ·have:((r*W:Nat):Int)<=65536:=by omega
   push_cast at this;omega
 unfold isB at *
 generalize b.length=bn,Br b=bc at *
 obtain⟨r',hr'⟩:∃q:Int,q=r:=⟨_,rfl⟩
 obtain⟨W',hW'⟩:∃q:Int,q=W:=⟨_,rfl⟩
 rw[<-hr',<-hW']at e1
 rw[<-hW']at hwd hnm
 rw[<-hr']
 refine Tri.valA rfl rfl (Bj F62_ok fun I0 ρ0 w0 Q hρ hQ=>?_) h
 obtain⟨A,hA⟩:∃A,A=stdA:=⟨_,rfl⟩
 rw[<-e1 A hA]at hnm
 replace hw:=Hid.mk hw
 replace hw4:=Hid.mk hw4
 clear e1 hl hl2
 with_reducible refine Be hA hd hQ 200 ?hk ?_
 case hk=>trivial
 conv=>arg 9;cbv
 try simp only[OK]
 repeat' first|(with_reducible refine OKK.loop ?_)|((with_reducible refine⟨fun hbr=>?_,fun hbr=>?_⟩)<;>(try simp(disch:=omega)only[hA,Ba]at hbr)<;>(try (with_reducible exfalso;omega)))|((with_reducible refine Bd hA hd hQ 200 ?hk ?_);(case hk=>trivial);(conv=>arg 9;cbv);(try simp only[OK]))|((with_reducible refine cO ?hg ?_);(case hg=>with_reducible exact Bb F89_ok);refine tM (hwd _) ?_;rintro _ _ ⟨rfl,rfl⟩)|((with_reducible refine cO ?hg ?_);(case hg=>with_reducible exact Bb F90_ok);refine tM (hnm _) ?_;rintro _ _ ⟨rfl,rfl⟩)
 ·have hW1:1<=W/\W<=4:=⟨by rcases hw.out with e|e|e|e<;>omega,hw4.out (by omega)⟩
  rw[if_pos ⟨by assumption,by omega,by omega⟩]at hQ
  obtain⟨E,hE⟩:∃E:Int,E=256^W:=⟨_,rfl⟩
  have hE2:E<=4294967296:=by
   have:(256:Int)^W<=256^4:=by exact_mod_cast Nat.pow_le_pow_right (by decide:0<256) hW1.2
   rw[hE];exact this
  have hE0:0<E:=by rw[hE];exact Int.pow_pos (by decide)
  rw[<-hE]at hQ;refine oK_ (msk 40 [7,8,9,10]) ?_
  refine oL_ (fun m st=>∃(i H:Int),st=⟨mkT 40 [(7,.lit (.int .i64 W')),(8,.lit (.int .i64 S)),(9,.lit (.int .i64 H)),(10,.lit (.int .i64 i))],[]⟩/\m=(W'-i).toNat/\1<=i/\i<=W'/\H=256^i.toNat)
   (fun m st hs' ih=>?_) ⟨1,256,rfl,rfl,by omega,by omega,rfl⟩
  obtain⟨i,H,rfl,hm,hi1,hi2,hH⟩:=hs'
  have hb1:i<W'->A.ib .mul .i64 H 256=256^(A.ib .add .i64 i 1).toNat:=fun hlt=>by
   rw[show (A.ib .add .i64 i 1).toNat=i.toNat+1 by simp(disch:=omega)only[hA,Ba]<;>omega,hA,hH,Int.pow_succ]
   have:(256:Int)^i.toNat<=256^4:=by exact_mod_cast Nat.pow_le_pow_right (by decide:0<256) (show i.toNat<=4 by omega)
   have h0:(0:Int)<256^i.toNat:=Int.pow_pos (by decide)
   rw[show (256:Int)^4=4294967296 by decide]at this
   exact Dq _ _ (by omega) (by omega)
  have hHE:i=W'->H=E:=fun h=>by rw[hH,hE,show i.toNat=W by omega]
  with_reducible refine Be hA hd hQ 200 ?hk ?_
  case hk=>trivial
  conv=>arg 9;cbv
  try simp only[OK]
  repeat' first|(with_reducible refine OKK.again ?_)|((with_reducible refine⟨fun hbr=>?_,fun hbr=>?_⟩)<;>(try simp(disch:=omega)only[hA,Ba]at hbr)<;>(try (with_reducible exfalso;omega)))|((with_reducible refine Bd hA hd hQ 200 ?hk ?_);(case hk=>trivial);(conv=>arg 9;cbv);(try simp only[OK]))
  ·refine oK_ (msk 40 [7,8,9,10]) (OKs.mv [] [] (by rw[hρ];rfl) ⟨by simp,by simp[Bc],by simp⟩ (ih _ _ ⟨A.ib .add .i64 i 1,_,rfl,rfl,by simp(disch:=omega)only[hA,Ba]<;>omega,by simp(disch:=omega)only[hA,Ba]<;>omega,hb1 (by omega)⟩ (by simp(disch:=omega)only[hA,Ba]<;>omega)))
  ·refine fI_ rfl (congrArg (fun q=>EV.lit (.int .i64 q)) ?_)
   have e:=hHE (by omega)
   simp(disch:=omega)only[hA,Ba]<;>omega
 ·refine fI_ rfl (congrArg (fun q=>EV.lit (.int .i64 q)) ?_)
  rw[if_neg (by omega)]
 ·refine fI_ rfl (congrArg (fun q=>EV.lit (.int .i64 q)) ?_)
  rw[if_neg (by omega)]
 ·refine fI_ rfl (congrArg (fun q=>EV.lit (.int .i64 q)) ?_)
  rw[if_neg (by omega)]
theorem JL(d:Dat)(i:Nat)(hb2:2<=d.bufs.length)(hl:4*i+4<=(d.buf 1).length)(hm:(d.buf 1).length<=65536)(ha:AllB (d.buf 1))(h:EH) :
  Tri Tryz.prog gs 86 [.agg (Bs d),.lit (.int .i64 i)] h fun v h'=>v = .lit (.int .i64 (Bt d i))/\h'=h:=by
 have g1:=CA (l:=d.bufs) (j:=1) (by omega)
 change List.take 1 (List.drop 1 (Bx d.bufs))=[isB (d.buf 1)]at g1
 have hnm:=Sp (d.buf 1) (4*i) 4 hm ha (by omega) (by omega)
 change ∀h,Tri _ _ _ _ h fun v h'=>v = .lit (.int .i64 (Bt d i))/\h'=h at hnm
 rw[BL]
 generalize Bt d i=O at *
 unfold isB at *
 generalize (d.buf 1).length=bn,Br (d.buf 1)=bc at *
 generalize d.len=len,d.ofs=ofs,d.nuls=nls,d.bufs.length=nb,Bx d.bufs=cb,d.kids.length=nk,Bi d.kids=ck,d.dict.length=nd,Bi d.dict=cd at *
 obtain⟨i',hi'⟩:∃q:Int,q=i:=⟨_,rfl⟩
 have e1:∀A,A=stdA->A.ib .mul .i64 4 i'=((4*i:Nat):Int):=fun A hA=>by simp(disch:=omega)only[hA,Ba]<;>omega
 rw[<-hi']
 refine Tri.valA rfl rfl (Bj F86_ok fun I0 ρ0 w0 Q hρ hQ=>?_) h
 obtain⟨A,hA⟩:∃A,A=stdA:=⟨_,rfl⟩
 rw[<-e1 A hA]at hnm
 clear e1
 have l1:List.take 1 (List.drop (A.idx 0 1 1) cb)=[.isl bn none bc]:=by rw[show A.idx 0 1 1=1 by rw[hA];rfl];exact g1
 with_reducible refine Be hA hd hQ 200 ?hk ?_
 case hk=>trivial
 conv=>arg 9;cbv
 try simp only[OK]
 repeat' first|((with_reducible refine Bd hA hd hQ 200 ?hk ?_);(case hk=>trivial);(conv=>arg 9;cbv);(try simp only[OK]))|((with_reducible refine Bp ?hn ?_);(case hn=>((simp(disch:=omega)only[hA,Ba])<;>omega)))|((refine⟨_,_,?l1,l1,rfl,?_⟩);(case l1=>exact rfl))|((with_reducible refine cO ?hg ?_);(case hg=>with_reducible exact Bb F90_ok);refine tM (hnm _) ?_;rintro _ _ ⟨rfl,rfl⟩)
 all_goals exact fI_ rfl rfl
theorem zCO(f:Fld)(d:Dat)(r y:Nat)(hx:3<=f.idx/\f.idx<=10)(hb2:2<=d.bufs.length)(hl:(r+1)*Bk f.idx<=(d.buf 1).length)(hm:(d.buf 1).length<=65536)(ha:AllB (d.buf 1))(hy:CI f.idx (d.buf 1) r=y)(h:EH) :
  Tri Tryz.prog gs 58 [.agg (Bo f),.agg (Bs d),.lit (.int .i64 r)] h fun v h'=>v = .lit (.int .i64 y)/\h'=h:=by
 have g1:=CA (l:=d.bufs) (j:=1) (by omega)
 change List.take 1 (List.drop 1 (Bx d.bufs))=[isB (d.buf 1)]at g1
 have hnm:=Rx f.idx (d.buf 1) r (by omega) hl hm ha
 rw[hy]at hnm
 rw[BL,BF]
 unfold isB at *
 generalize (d.buf 1).length=bn,Br (d.buf 1)=bc at *
 generalize d.len=len,d.ofs=ofs,d.nuls=nls,d.bufs.length=nb,Bx d.bufs=cb,d.kids.length=nk,Bi d.kids=ck,d.dict.length=nd,Bi d.dict=cd at *
 generalize Bl f.kids=kc,f.kids.length=kn,f.nm=nm,f.nul=nul,f.kind=k,f.width=w,f.id=i,f.idx=ix at *
 obtain⟨r',hr'⟩:∃q:Int,q=r:=⟨_,rfl⟩
 obtain⟨y',hy'⟩:∃q:Int,q=y:=⟨_,rfl⟩
 rw[<-hr',<-hy']at hnm
 rw[<-hr',<-hy']
 refine Tri.valA rfl rfl (Bj F58_ok fun I0 ρ0 w0 Q hρ hQ=>?_) h
 obtain⟨A,hA⟩:∃A,A=stdA:=⟨_,rfl⟩
 have l1:List.take 1 (List.drop (A.idx 0 1 1) cb)=[.isl bn none bc]:=by rw[show A.idx 0 1 1=1 by rw[hA];rfl];exact g1
 with_reducible refine Be hA hd hQ 200 ?hk ?_
 case hk=>trivial
 conv=>arg 9;cbv
 try simp only[OK]
 repeat' first|((with_reducible refine⟨fun hbr=>?_,fun hbr=>?_⟩)<;>(try simp(disch:=omega)only[hA,Ba]at hbr)<;>(try (with_reducible exfalso;omega)))|((with_reducible refine Bd hA hd hQ 200 ?hk ?_);(case hk=>trivial);(conv=>arg 9;cbv);(try simp only[OK]))|((with_reducible refine Bp ?hn ?_);(case hn=>((simp(disch:=omega)only[hA,Ba])<;>omega)))|((refine⟨_,_,?l1,l1,rfl,?_⟩);(case l1=>exact rfl))|((with_reducible refine cO ?hg ?_);(case hg=>with_reducible exact Bb F62_ok);refine tM (hnm _) ?_;rintro _ _ ⟨rfl,rfl⟩)
 all_goals exact fI_ rfl rfl
theorem zCQ(d e:Dat)(r y:Nat)(hn:0<d.kids.length)(he0:d.kids.getD 0 Bf=e)(he:JN e)
  (hy:(y:Int)<e.len) (h1:(r:Int)<CB e y) (h2:∀j<y,CB e j<=r) (h:EH) :
  Tri Tryz.prog gs 59 [.agg (Bs d),.lit (.int .i64 r)] h fun v h'=>v = .lit (.int .i64 y)/\h'=h:=by
 have hpk:=C5 d.kids 0 hn
 rw[he0,BL e]at hpk
 obtain⟨g1,g2,g3,g4,g5⟩:=he
 unfold Cn at g1
 have gb:=CA (l:=e.bufs) (j:=1) (by omega)
 change List.take 1 (List.drop 1 (Bx e.bufs))=[isB (e.buf 1)]at gb
 have hpl:Hid (∀j:Nat,(j:Int)<e.len->∀h:EH,Tri Tryz.prog gs 62 [.lit (.int .i64 5),isB (e.buf 1),.lit (.int .i64 (e.ofs.toNat+j:Nat))] h fun v h'=>v = .lit (.int .i64 (CB e j))/\h'=h):=fun j hj h=>by
  have:=Rx 5 (e.buf 1) (e.ofs.toNat+j) (by omega) (by show (e.ofs.toNat+j+1)*4<=_;omega) g3 g4 h
  rw[show CI 5 (e.buf 1) (e.ofs.toNat+j)=CB e j by unfold CB Bt CI;rw[if_pos (by omega)];show B5 4 (BW _ ((e.ofs.toNat+j)*4) 4)=_;rw[Nat.mul_comm]]at this
  exact this
 rw[BL d]
 unfold isB at *
 generalize CB e=ee at *
 generalize (e.buf 1).length=bn,Br (e.buf 1)=bc at *
 generalize e.len=elen,e.ofs=eofs,e.nuls=enls,e.bufs.length=enb,Bx e.bufs=ecb,e.kids.length=enk,Bi e.kids=eck,e.dict.length=ned,Bi e.dict=ecd at *
 generalize d.len=len,d.ofs=ofs,d.nuls=nls,d.bufs.length=nb,Bx d.bufs=cb,d.kids.length=nk,Bi d.kids=ck,d.dict.length=nd,Bi d.dict=cd at *
 obtain⟨r',hr'⟩:∃q:Int,q=r:=⟨_,rfl⟩
 rw[<-hr']at h1 h2 ⊢
 replace h2:=Hid.mk h2
 refine Tri.valA rfl rfl (Bj F59_ok fun I0 ρ0 w0 Q hρ hQ=>?_) h
 obtain⟨A,hA⟩:∃A,A=stdA:=⟨_,rfl⟩
 have l0:List.take 6 (List.drop (A.idx 0 0 6) ck)=[.lit (.int .i64 elen),.lit (.int .i64 eofs),.lit (.int .i64 enls),.isl enb none ecb,.isl enk none eck,.isl ned none ecd]:=by rw[show A.idx 0 0 6=0*6 by rw[hA];rfl];exact hpk
 have l1:List.take 1 (List.drop (A.idx 0 1 1) ecb)=[.isl bn none bc]:=by rw[show A.idx 0 1 1=1 by rw[hA];rfl];exact gb
 with_reducible refine Be hA hd hQ 200 ?hk ?_
 case hk=>trivial
 conv=>arg 9;cbv
 try simp only[OK]
 repeat' first|(with_reducible refine OKK.loop ?_)|((with_reducible refine Bd hA hd hQ 200 ?hk ?_);(case hk=>trivial);(conv=>arg 9;cbv);(try simp only[OK]))|((with_reducible refine Bp ?hn ?_);(case hn=>((simp(disch:=omega)only[hA,Ba])<;>omega)))|((refine⟨_,_,?l1,l0,rfl,?_⟩);(case l1=>exact rfl))
 refine oK_ (msk 31 [1,5,6]) ?_
 refine oL_ (fun m st=>∃z:Int,st=⟨mkT 31 [(1,.lit (.int .i64 r')),(5,.ptr 1 0),(6,.lit (.int .i64 z))],[.blk [.lit (.int .i64 len),.lit (.int .i64 ofs),.lit (.int .i64 nls),.isl nb none cb,.isl nk none ck,.isl nd none cd],.blk [.lit (.int .i64 elen),.lit (.int .i64 eofs),.lit (.int .i64 enls),.isl enb none ecb,.isl enk none eck,.isl ned none ecd]]⟩/\m=(y-z).toNat/\0<=z/\z<=y) (fun m st hs' ih=>?_) ⟨0,rfl,rfl,by omega,by omega⟩
 obtain⟨z,rfl,hm,hz1,hz2⟩:=hs'
 have hs:∀h:EH,Tri Tryz.prog gs 62 [.lit (.int .i64 5),.isl bn none bc,.lit (.int .i64 (A.ib .add .i64 eofs z))] h fun v h'=>v = .lit (.int .i64 (ee z.toNat))/\h'=h:=fun h=>by
  rw[show A.ib .add .i64 eofs z=((eofs.toNat+z.toNat:Nat):Int) by simp(disch:=omega)only[hA,Ba]<;>omega]
  exact hpl.out z.toNat (by omega) h
 have hlt:Hid (z<y->ee z.toNat<=r'):=fun hz=>h2.out z.toNat (by omega)
 have heq:Hid (z=y->r'<ee z.toNat):=fun hz=>by rw[show z.toNat=y by omega];exact h1
 generalize ee z.toNat=EZ at *
 by_cases hzy:z<y
 case pos=>
  have e:=hlt.out hzy
  with_reducible refine Be hA hd hQ 200 ?hk ?_
  case hk=>trivial
  conv=>arg 9;cbv
  try simp only[OK]
  repeat' first|(with_reducible refine OKK.again ?_)|((with_reducible refine⟨fun hbr=>?_,fun hbr=>?_⟩)<;>(try simp(disch:=omega)only[hA,Ba]at hbr)<;>(try (with_reducible exfalso;omega)))|((with_reducible refine Bd hA hd hQ 200 ?hk ?_);(case hk=>trivial);(conv=>arg 9;cbv);(try simp only[OK]))|((with_reducible refine Bp ?hn ?_);(case hn=>((simp(disch:=omega)only[hA,Ba])<;>omega)))|((refine⟨_,_,?l1,l1,rfl,?_⟩);(case l1=>exact rfl))|((with_reducible refine cO ?hg ?_);(case hg=>with_reducible exact Bb F62_ok);refine tM (hs _) ?_;rintro _ _ ⟨rfl,rfl⟩)
  refine oK_ (msk 31 [1,5,6]) (OKs.mv [0,1] [] (by rw[hρ];rfl) ⟨by decide,by simp[Bc],by simp⟩ (ih _ _ ⟨A.ib .add .i64 z 1,rfl,rfl,?_,?_⟩ ?_))
  ·simp(disch:=omega)only[hA,Ba];omega
  ·simp(disch:=omega)only[hA,Ba];omega
  ·simp(disch:=omega)only[hA,Ba];omega
 case neg=>
  have e:=heq.out (by omega)
  with_reducible refine Be hA hd hQ 200 ?hk ?_
  case hk=>trivial
  conv=>arg 9;cbv
  try simp only[OK]
  repeat' first|((with_reducible refine⟨fun hbr=>?_,fun hbr=>?_⟩)<;>(try simp(disch:=omega)only[hA,Ba]at hbr)<;>(try (with_reducible exfalso;omega)))|((with_reducible refine Bd hA hd hQ 200 ?hk ?_);(case hk=>trivial);(conv=>arg 9;cbv);(try simp only[OK]))|((with_reducible refine Bp ?hn ?_);(case hn=>((simp(disch:=omega)only[hA,Ba])<;>omega)))|((refine⟨_,_,?l1,l1,rfl,?_⟩);(case l1=>exact rfl))|((with_reducible refine cO ?hg ?_);(case hg=>with_reducible exact Bb F62_ok);refine tM (hs _) ?_;rintro _ _ ⟨rfl,rfl⟩)
  exact fI_ rfl (by rw[show (y:Int)=z by omega];rfl)
theorem WI(b:List Nat)(r:Nat)(hb:b.length<=65536)(hl:r/8<b.length)(ha:AllB b)(h:EH) :
  Tri Tryz.prog gs 113 [isB b,.lit (.int .i64 r)] h fun v h'=>IsP (Ch b r=1) v/\h'=h:=by
 have hx:=ha.get (r/8)
 have hbit:Ch b r=b.getD (r/8) 0/2^(r%8)%2:=rfl
 refine Tri.boolC rfl ?_ h
 unfold isB
 obtain⟨M,hM⟩:∃n,n=b.length:=⟨_,rfl⟩
 obtain⟨d,hd'⟩:∃c,c=Br b:=⟨_,rfl⟩
 obtain⟨r',hr'⟩:∃q:Int,q=r:=⟨_,rfl⟩
 have hLL:∀A,A=stdA->List.take 1 (List.drop (A.idx 0 (A.ib .quo .i64 r' 8) 1) d)=[.lit (.int .u8 (b.getD (r/8) 0:Nat))]:=fun A hA=>by
  obtain⟨y,y1,y2⟩:=IK hd' (r/8) (by omega)
  rw[hA,Db _ (by omega) (by omega),B3,Nat.zero_add,Nat.mul_one,show (r'/8).toNat=r/8 by omega,y1,y2]
 rw[<-hM,<-hd',<-hr']
 generalize b.getD (r/8) 0=X at *
 generalize Ch b r=B at *
 obtain⟨x,hxx⟩:∃x:Int,x=(X:Nat):=⟨_,rfl⟩
 rw[<-hxx]at hLL
 refine Bj F113_ok fun I0 ρ0 w0 Q hρ hQ=>?_
 obtain⟨A,hA⟩:∃A,A=stdA:=⟨_,rfl⟩
 replace hLL:=hLL A hA
 with_reducible refine Be hA hd hQ 200 ?hk ?_
 case hk=>trivial
 conv=>arg 9;cbv
 try simp only[OK]
 repeat' first|(with_reducible refine OKK.loop ?_)|((with_reducible refine⟨fun hbr=>?_,fun hbr=>?_⟩)<;>(try simp(disch:=omega)only[hA,Ba,Db]at hbr)<;>(try (with_reducible exfalso;omega)))|((with_reducible refine Bd hA hd hQ 200 ?hk ?_);(case hk=>trivial);(conv=>arg 9;cbv);(try simp only[OK]))|((with_reducible refine Bp ?hn ?_);(case hn=>((simp(disch:=omega)only[hA,Ba,Db])<;>omega)))|((refine⟨_,_,?l1,hLL,rfl,?_⟩);(case l1=>exact rfl))
 refine oK_ (msk 33 [1,5,6]) ?_
 refine oL_ (fun m st=>∃(k v:Int),st=⟨mkT 33 [(1,.lit (.int .i64 r')),(5,.lit (.int .i64 v)),(6,.lit (.int .i64 k))],[]⟩/\m=(r'%8-k).toNat/\0<=k/\k<=r'%8/\v=(X/2^k.toNat:Nat))
  (fun m st hs' ih=>?_) ⟨0,A.wr .i64 x,rfl,rfl,by omega,by omega,by rw[hA,hxx];exact(D6 _ (by omega) (by omega)).trans (by simp)⟩
 obtain⟨k,v,rfl,hm,hk1,hk2,hv⟩:=hs'
 have hv0:0<=v/\v<=255:=by
  have:=Nat.div_le_self X (2^k.toNat);rw[hv];generalize X/2^k.toNat=Z at *;omega
 have hstep:A.ib .quo .i64 v 2=(X/2^(k.toNat+1):Nat):=by
  rw[hA,Lv _ (by omega) (by omega),hv,Nat.pow_succ,<-Nat.div_div_eq_div_mul];rfl
 have hend:k=r'%8->v%2=B:=fun he=>by rw[hbit,hv,show k.toNat=r%8 by omega];rfl
 with_reducible refine Be hA hd hQ 200 ?hk ?_
 case hk=>trivial
 conv=>arg 9;cbv
 try simp only[OK]
 repeat' first|(with_reducible refine OKK.again ?_)|((with_reducible refine⟨fun hbr=>?_,fun hbr=>?_⟩)<;>(try simp(disch:=omega)only[hA,Ba,DT]at hbr)<;>(try (with_reducible exfalso;omega)))|((with_reducible refine Bd hA hd hQ 200 ?hk ?_);(case hk=>trivial);(conv=>arg 9;cbv);(try simp only[OK]))|((with_reducible refine Bp ?hn ?_);(case hn=>((simp(disch:=omega)only[hA,Ba])<;>omega)))
 ·refine oK_ (msk 33 [1,5,6]) (OKs.mv [] [] (by rw[hρ];rfl) ⟨by simp,by simp[Bc],by simp⟩ (ih _ _ ⟨A.ib .add .i64 k 1,_,rfl,rfl,by simp(disch:=omega)only[hA,Ba]<;>omega,by simp(disch:=omega)only[hA,Ba]<;>omega,?_⟩ (by simp(disch:=omega)only[hA,Ba]<;>omega)))
  rw[show (A.ib .add .i64 k 1).toNat=k.toNat+1 by simp(disch:=omega)only[hA,Ba]<;>omega]
  exact hstep
 all_goals (try (with_reducible refine FinR.self ?_;first|refine FinR.bl rfl ?_|refine FinR.bs rfl ?_|refine FinR.blh rfl ?_ rfl|refine FinR.bsh rfl ?_ rfl))
 all_goals (try simp(disch:=omega)only[hA,Ba,K0])
 all_goals omega
theorem zD0(b:List Nat)(r:Nat)(hb:b.length<=65536)(hl:r<8*b.length)(h:EH) :
  Tri Tryz.prog gs 112 [isB b,.lit (.int .i64 r),.lit (.int .i64 1)] h fun v h'=>v = .lit (.int .i64 0)/\h'=h:=by
 unfold isB
 generalize b.length=M,Br b=d at *
 obtain⟨r',hr'⟩:∃q:Int,q=r:=⟨_,rfl⟩
 rw[<-hr']
 refine Tri.valA rfl rfl (Bj F112_ok fun I0 ρ0 w0 Q hρ hQ=>?_) h
 obtain⟨A,hA⟩:∃A,A=stdA:=⟨_,rfl⟩
 with_reducible refine Be hA hd hQ 200 ?hk ?_
 case hk=>trivial
 conv=>arg 9;cbv
 try simp only[OK]
 repeat' first|((with_reducible refine⟨fun hbr=>?_,fun hbr=>?_⟩)<;>(try simp(disch:=omega)only[hA,Ba]at hbr)<;>(try (with_reducible exfalso;omega)))|((with_reducible refine Bd hA hd hQ 200 ?hk ?_);(case hk=>trivial);(conv=>arg 9;cbv);(try simp only[OK]))
 all_goals exact fI_ rfl rfl
theorem Yz(b:List Nat)(r:Nat)(hb:b.length<=65536)(hl:r<8*b.length)(ha:AllB b)(h:EH) :
  Tri Tryz.prog gs 85 [isB b,.lit (.int .i64 r)] h fun v h'=>(∃c:Bool,v = .tup [.sb c,.lit (.int .i64 0)]/\(c=true↔Ch b r=1))/\h'=h:=by
 have ht:=zD0 b r hb hl
 have hbt:=WI b r hb (by omega) ha
 unfold isB at *
 generalize Ch b r=B at *
 generalize b.length=M,Br b=d at *
 obtain⟨r',hr'⟩:∃q:Int,q=r:=⟨_,rfl⟩
 rw[<-hr']at ht hbt ⊢
 refine Tri.litC (φ:=fun v=>∃c:Bool,v = .tup [.sb c,.lit (.int .i64 0)]/\(c=true↔B=1)) (fun v ⟨c,hv,_⟩=>by rw[hv];rfl) rfl (Bj F85_ok fun I0 ρ0 w0 Q hρ hQ=>?_) h
 obtain⟨A,hA⟩:∃A,A=stdA:=⟨_,rfl⟩
 with_reducible refine Be hA hd hQ 200 ?hk ?_
 case hk=>trivial
 conv=>arg 9;cbv
 try simp only[OK]
 repeat' first|((with_reducible refine⟨fun hbr=>?_,fun hbr=>?_⟩)<;>(try simp(disch:=omega)only[hA,Ba]at hbr)<;>(try (with_reducible exfalso;omega)))|((with_reducible refine Bd hA hd hQ 200 ?hk ?_);(case hk=>trivial);(conv=>arg 9;cbv);(try simp only[OK]))|((with_reducible refine cO ?hg ?_);(case hg=>with_reducible exact Bb F112_ok);refine tM (ht _) ?_;rintro _ _ ⟨rfl,rfl⟩)|((with_reducible refine cO ?hg ?_);(case hg=>with_reducible exact Bb F113_ok);(refine tM (hbt _) fun v hh hx=>?_);(obtain⟨⟨c,hv,hc⟩,hh⟩:=hx;subst hv;subst hh))
 all_goals first|exact absurd rfl (by assumption)|exact fI_ rfl ⟨_,rfl,hc⟩
theorem HZ(f:Fld)(d:Dat)(r:Nat)(hp:Dc f.kind d r)(hrm:(r:Int)<=9223372036854775807)(h:EH) :
  Tri Tryz.prog gs 57 [.agg (Bo f),.agg (Bs d),.lit (.int .i64 r)] h fun v h'=>IsP (BJ f.kind d r=true) v/\h'=h:=by
 have hv:=zAW f.kind
 have hcv:Hid (f.kind≠1->¬Cr f.kind->¬BJ f.kind d r=true):=fun h1 h2=>by unfold BJ;rw[if_neg h1,if_neg (fun h=>h2 h.1)];simp
 have hc0:Hid (f.kind≠1->(d.buf 0).length=0->¬BJ f.kind d r=true):=fun h1 h2=>by unfold BJ;rw[if_neg h1,if_neg (fun h=>h.2 h2)];simp
 have hc1:Hid (f.kind=1->BJ f.kind d r=true):=fun h1=>by unfold BJ;rw[if_pos h1]
 have hcb:Hid (f.kind≠1->Cr f.kind->(d.buf 0).length≠0->(BJ f.kind d r=true↔¬Ch (d.buf 0) r=1)):=fun h1 h2 h3=>by
  unfold BJ;rw[if_neg h1,if_pos ⟨h2,h3⟩,beq_iff_eq];have:Ch (d.buf 0) r<2:=by unfold Ch;exact Nat.mod_lt _ (by decide)
  omega
 have hbt:Hid (Cr f.kind->(d.buf 0).length≠0->∀h:EH,Tri Tryz.prog gs 85 [isB (d.buf 0),.lit (.int .i64 r)] h fun v h'=>(∃c:Bool,v = .tup [.sb c,.lit (.int .i64 0)]/\(c=true↔Ch (d.buf 0) r=1))/\h'=h):=fun h1 h2=>by
  have e:=(hp h1).2.2.2 h2;exact Yz _ _ (hp h1).2.2.1 e (hp h1).2.1.2
 have hlk:Hid (Cr f.kind->∀A,A=stdA->List.take 1 (List.drop (A.idx 0 0 1) (Bx d.bufs))=[isB (d.buf 0)]):=fun h1 A hA=>by
  rw[hA];exact CA (l:=d.bufs) (j:=0) (List.length_pos_iff.2 (hp h1).1)
 have hn0:Hid (Cr f.kind->0<d.bufs.length):=fun h1=>List.length_pos_iff.2 (hp h1).1
 generalize Ch (d.buf 0) r=B at *
 generalize BJ f.kind d r=NR at *
 generalize Cr f.kind=VM at *
 rw[BL,BF]
 unfold isB at *
 generalize (d.buf 0).length=bn,Br (d.buf 0)=bc at *
 generalize d.len=len,d.ofs=ofs,d.nuls=nls,d.bufs.length=nb,Bx d.bufs=cb,d.kids.length=nk,Bi d.kids=ck,d.dict.length=nd,Bi d.dict=cd at *
 generalize Bl f.kids=kc,f.kids.length=kn,f.nm=nm,f.nul=nul,f.kind=k,f.width=w,f.id=i,f.idx=ix at *
 obtain⟨r',hr'⟩:∃q:Int,q=r:=⟨_,rfl⟩
 rw[<-hr']at hbt ⊢
 refine Tri.boolC rfl (Bj F57_ok fun I0 ρ0 w0 Q hρ hQ=>?_) h
 obtain⟨A,hA⟩:∃A,A=stdA:=⟨_,rfl⟩
 with_reducible refine Be hA hd hQ 200 ?hk ?_
 case hk=>trivial
 conv=>arg 9;cbv
 try simp only[OK]
 repeat' first|((with_reducible refine⟨fun hbr=>?_,fun hbr=>?_⟩)<;>(try simp(disch:=omega)only[hA,Ba,reduceCtorEq]at hbr)<;>(try (with_reducible exfalso;omega)))|((with_reducible refine Bd hA hd hQ 200 ?hk ?_);(case hk=>trivial);(conv=>arg 9;cbv);(try simp only[OK]))|((refine⟨_,_,?l1,(hlk.out (by assumption) A hA),rfl,?_⟩);(case l1=>exact rfl))|((with_reducible refine Bp ?hn ?_);(case hn=>(have hneed:=(hn0.out (by assumption));(simp(disch:=omega)only[hA,Ba])<;>omega)))|((with_reducible refine cO ?hg ?_);(case hg=>with_reducible exact Bb F84_ok);(refine tM (hv _) fun v hh hx=>?_);(obtain⟨⟨b,hv,hb⟩,he⟩:=hx;subst hv;subst he;cases b<;>simp(disch:=omega)only[bF,true_iff,false_iff,eq_self]at hb)<;>(try (with_reducible exfalso;omega)))|((with_reducible refine cO ?hg ?_);(case hg=>with_reducible exact Bb F85_ok);(refine tM ((hbt.out (by assumption) (by omega)) _) fun v hh hx=>?_);(obtain⟨⟨c,hv,hc⟩,hh⟩:=hx;subst hv;subst hh))
 all_goals (try (with_reducible refine FinR.self ?_;first|refine FinR.bl rfl ?_|refine FinR.bs rfl ?_|refine FinR.blh rfl ?_ rfl|refine FinR.bsh rfl ?_ rfl))
 all_goals (try simp(disch:=omega)only[hA,Ba,bF,true_iff,false_iff,eq_self])
 ·exact hc1.out (by omega)
 ·exact hcv.out (by omega) (by assumption)
 ·exact hc0.out (by omega) (by omega)
 ·rw[hcb.out (by omega) (by assumption) (by omega),<-hc];cases c<;>simp
def RowD(x:Val×Nat)(L:Int)(v:EV)(h':EH):Prop:=∃c',(v = .tup [.agg (BK x.1),.lit (.bool true)]/\c'=[.lit (.int .i64 (L-(x.2:Nat)))])/\h'=[.blk c']
theorem RowD.at{P:Program}{G:List (List EV)}{f:FuncId}{post:List EV}{L:Int}{x:Val×Nat}(t:Tri P G f (.ptr 0 0::post) [.blk [.lit (.int .i64 L)]] (RowD x L))(hq:clL post=true)
  {id:Nat} {h:EH} (hg:Bh h id = .blk [.lit (.int .i64 L)]) :
  Tri P G f (.ptr id 0::post) h fun v h'=>∃z,(v = .tup [.agg (BK x.1),.lit (.bool true)]/\z=L-(x.2:Nat))/\h'=BG h id (.blk [.lit (.int .i64 z)]):=by
 refine(Tri.step (R:=fun V c'=>V = .tup [.agg (BK x.1),.lit (.bool true)]/\c'=[.lit (.int .i64 (L-(x.2:Nat)))]) (fun V c' ⟨h1,h2⟩=>by subst h1;subst h2;exact⟨by generalize x.1=V;cases V;rfl,rfl⟩) t hq rfl hg).mono fun v h' ⟨c',⟨h1,h2⟩,h3⟩=>?_
 subst h2
 exact⟨_,⟨h1,rfl⟩,h3⟩
theorem RowD.own{P:Program}{G:List (List EV)}{f:FuncId}{args:List EV}{L:Int}{x:Val×Nat}
  (t:Tri P G f args [.blk [.lit (.int .i64 L)]] fun v h'=>∃z tl,(v = .tup [.agg (BK x.1),.lit (.bool true)]/\z=L-(x.2:Nat))/\h' = .blk [.lit (.int .i64 z)]::tl):Tri P G f args [.blk [.lit (.int .i64 L)]] (RowD x L):=
 Tri.drop1 (R:=fun V c'=>V = .tup [.agg (BK x.1),.lit (.bool true)]/\c'=[.lit (.int .i64 (L-(x.2:Nat)))]) (fun V c' ⟨h1,h2⟩=>by subst h1;subst h2;exact⟨by generalize x.1=V;cases V;rfl,rfl⟩)
  (t.mono fun v h' ⟨z,tl,⟨e1,e2⟩,e3⟩=>⟨_,tl,⟨e1,rfl⟩,by rw[e3,e2]⟩)
theorem RowD.ofB{P:Program}{G:List (List EV)}{f:FuncId}{args:List EV}{L n:Int}{s:ByteArray}{w:Nat}{b:Bool}
  (t:Tri P G f args [.blk [.lit (.int .i64 L)]] fun v h'=>∃z tl,(v = .tup [.agg [.lit (.bool b),.lit (.int .i64 n),.lit (.string s),.lit (.slice none 0 0)],.lit (.bool true)]/\z=L-(w:Nat))/\h' = .blk [.lit (.int .i64 z)]::tl) :
  Tri P G f args [.blk [.lit (.int .i64 L)]] (RowD (.mk b n s [],w) L):=by
 refine RowD.own (Tri.up t fun v h' ⟨z,tl,⟨e1,e2⟩,e3⟩=>⟨_,⟨_,tl,⟨rfl,e2⟩,e3⟩,?_⟩)
 rw[e1]
 exact Up.tup2 (Up.vcell (Up.nil _)) (Up.refl _)
theorem RowD.lst{P:Program}{G:List (List EV)}{f:FuncId}{args:List EV}{L n:Int}{l:List Val}{w:Nat}
  (t:Tri P G f args [.blk [.lit (.int .i64 L)]] fun v h'=>∃z tl,z=L-(w:Nat)/\h' = .blk [.lit (.int .i64 z)]::tl/\((l=[]/\v = .tup [.agg [.lit (.bool false),.lit (.int .i64 n),.lit (.string ⟨#[]⟩),.lit (.slice none 0 0)],.lit (.bool true)])\/
   ∃id cap Z,v = .tup [.agg [.lit (.bool false),.lit (.int .i64 n),.lit (.string ⟨#[]⟩),.sl 4 id 0 l.length cap],.lit (.bool true)]/\Bh h' id = .blk Z/\id≠0/\Z.take (4*l.length)=BE l/\clL Z=true)) :
  Tri P G f args [.blk [.lit (.int .i64 L)]] (RowD (.mk false n ⟨#[]⟩ l,w) L):=by
 refine Tri.up (R:=fun v h'=>∃y,v = .tup [.agg [.lit (.bool false),.lit (.int .i64 n),.lit (.string ⟨#[]⟩),y],.lit (.bool true)]/\Up y (.isl l.length none (BE l))/\h'=[.blk [.lit (.int .i64 (L-(w:Nat)))]]) (Tri.mv t fun v h' hx=>?_) (fun v h' ⟨y,h1,h2,h3⟩=>?_)
 ·obtain⟨z,tl,rfl,rfl,⟨hl,rfl⟩|⟨id,cap,Z,rfl,hg,hid,hz,hc⟩⟩:=hx
  ·subst hl
   refine⟨[0],[],rfl,⟨by simp,by simp[Bc],by simp⟩,_,rfl,Up.nil _,?_⟩
   simp[mvH,Bh,mvO,inL,mvL,mvE]
  ·refine⟨[0],[id],rfl,⟨by simp,by simp[Bc],fun i hi=>?_⟩,.isl l.length cap Z,?_,?_,?_⟩
   ·simp at hi;subst hi;exact⟨_,hg,hc⟩
   ·simp[mvE,mvL,mvG,mvZ,inL,hg]
   ·rw[<-hz];exact Up.trans (Up.cap _ _ _) (Up.pre _ _ _ _)
   ·simp[mvH,Bh,mvO,inL,hid,mvL,mvE]
 ·subst h1
  exact⟨_,⟨_,⟨rfl,rfl⟩,h3⟩,Up.tup2 (Up.vcell h2) (Up.refl _)⟩
theorem K2(l:List Dat)(i:Nat)(h:i<l.length):List.take 1 (List.drop (i*6+1) (Bi l))=[.lit (.int .i64 (l.getD i Bf).ofs)]:=by
 have e:=congrArg (fun q=>List.take 1 (List.drop 1 q)) (C5 l i h)
 simp only[List.drop_take,List.take_take,List.drop_drop,BL]at e
 exact e
theorem zDc(f:Fld)(d:Dat)(r:Nat)(hk:f.kind=15)(hk1:d.kids.length=1)(hb2:2<=d.bufs.length)(hl:4*r+8<=(d.buf 1).length)(hm:(d.buf 1).length<=65536)(ha:AllB (d.buf 1))
  (h0:0<=Bt d r) (h1:Bt d r<=Bt d (r+1)) (h2:Bt d (r+1)<=(d.kids.getD 0 Bf).len) (h:EH) :
  Tri Tryz.prog gs 88 [.agg (Bo f),.agg (Bs d),.lit (.int .i64 r)] h fun v h'=>v = .tup [.lit (.int .i64 (Bt d r)),.lit (.int .i64 (Bt d (r+1))),.lit (.bool true)]/\h'=h:=by
 have o1:=JL d r hb2 (by omega) hm ha
 have o2:=JL d (r+1) hb2 (by omega) hm ha
 have hlen:=Gx d.kids 0 (by omega)
 rw[BF]at *
 rw[BL]at *
 generalize Bt d r=O1,Bt d (r+1)=O2 at *
 generalize (d.kids.getD 0 Bf).len=PL at *
 generalize d.len=len,d.ofs=ofs,d.nuls=nls,d.bufs.length=nb,Bx d.bufs=cb,d.kids.length=nk,Bi d.kids=ck,d.dict.length=nd,Bi d.dict=cd at *
 generalize Bl f.kids=kc,f.kids.length=kn,f.nm=nm,f.nul=nul,f.kind=k,f.width=w,f.id=i,f.idx=ix at *
 obtain⟨r',hr'⟩:∃q:Int,q=r:=⟨_,rfl⟩
 have e1:∀A,A=stdA->A.ib .add .i64 r' 1=((r+1:Nat):Int):=fun A hA=>by simp(disch:=omega)only[hA,Ba]<;>omega
 rw[<-hr']at o1 ⊢
 refine Tri.valA rfl rfl (Bj F88_ok fun I0 ρ0 w0 Q hρ hQ=>?_) h
 obtain⟨A,hA⟩:∃A,A=stdA:=⟨_,rfl⟩
 rw[<-e1 A hA]at o2
 clear e1
 have l1:List.take 1 (List.drop (A.add (A.idx 0 0 6) 0) ck)=[.lit (.int .i64 PL)]:=by rw[show A.add (A.idx 0 0 6) 0=0*6 by rw[hA];rfl];exact hlen
 with_reducible refine Be hA hd hQ 200 ?hk ?_
 case hk=>trivial
 conv=>arg 9;cbv
 try simp only[OK]
 repeat' first|(with_reducible refine And.intro trivial ?_)|((with_reducible refine⟨fun hbr=>?_,fun hbr=>?_⟩)<;>(try simp(disch:=omega)only[hA,Ba]at hbr)<;>(try (with_reducible exfalso;omega)))|((with_reducible refine Bd hA hd hQ 200 ?hk ?_);(case hk=>trivial);(conv=>arg 9;cbv);(try simp only[OK]))|((with_reducible refine Bp ?hn ?_);(case hn=>((simp(disch:=omega)only[hA,Ba])<;>omega)))|((refine⟨_,_,?l1,l1,rfl,?_⟩);(case l1=>exact rfl))|((with_reducible refine cO ?hg ?_);(case hg=>with_reducible exact Bb F86_ok);(refine tM (o1 _) fun v hh hx=>?_);(obtain⟨hv,hh'⟩:=hx;subst hv;subst hh'))|((with_reducible refine cO ?hg ?_);(case hg=>with_reducible exact Bb F86_ok);(refine tM (o2 _) fun v hh hx=>?_);(obtain⟨hv,hh'⟩:=hx;subst hv;subst hh'))|fail
 all_goals exact fI_ rfl rfl
theorem Yt(f:Fld)(d:Dat)(r:Nat)(hk:f.kind=16)(hw:1<=f.width/\f.width<=64)(hr:r<=4096)(h:EH) :
  Tri Tryz.prog gs 88 [.agg (Bo f),.agg (Bs d),.lit (.int .i64 r)] h fun v h'=>v = .tup [.lit (.int .i64 (r*f.width.toNat:Nat)),.lit (.int .i64 ((r+1)*f.width.toNat:Nat)),.lit (.bool true)]/\h'=h:=by
 obtain⟨w,hw'⟩:∃n:Nat,f.width=n:=⟨f.width.toNat,by omega⟩
 have m1:(r:Int)*w<=4096*64:=Int.mul_le_mul (by omega) (by omega) (by omega) (by omega)
 have m2:((r:Int)+1)*w<=4097*64:=Int.mul_le_mul (by omega) (by omega) (by omega) (by omega)
 have m3:0<=(r:Int)*w:=Int.mul_nonneg (by omega) (by omega)
 have m4:0<=((r:Int)+1)*w:=Int.mul_nonneg (by omega) (by omega)
 have e1:∀A,A=stdA->A.ib .mul .i64 (r:Int) (w:Int)=((r*w:Nat):Int):=fun A hA=>by rw[hA,Dq _ _ (by omega) (by omega)];push_cast;rfl
 have e2:∀A,A=stdA->A.ib .mul .i64 (A.ib .add .i64 (r:Int) 1) (w:Int)=(((r+1)*w:Nat):Int):=fun A hA=>by rw[hA,K5 _ _ (by omega) (by omega),Dq _ _ (by omega) (by omega)];push_cast;rfl
 rw[BF,BL,hw',Int.toNat_natCast]
 generalize d.len=len,d.ofs=ofs,d.nuls=nls,d.bufs.length=nb,Bx d.bufs=cb,d.kids.length=nk,Bi d.kids=ck,d.dict.length=nd,Bi d.dict=cd at *
 generalize Bl f.kids=kc,f.kids.length=kn,f.nm=nm,f.nul=nul,f.kind=k,f.id=i,f.idx=ix at *
 generalize (w:Int)=w',(r:Int)=r',((r*w:Nat):Int)=M1,(((r+1)*w:Nat):Int)=M2 at *
 refine Tri.valA rfl rfl (Bj F88_ok fun I0 ρ0 w0 Q hρ hQ=>?_) h
 obtain⟨A,hA⟩:∃A,A=stdA:=⟨_,rfl⟩
 have e1:=e1 A hA
 have e2:=e2 A hA
 clear m1 m2 m3 m4
 subst e1
 subst e2
 with_reducible refine Be hA hd hQ 200 ?hk ?_
 case hk=>trivial
 conv=>arg 9;cbv
 try simp only[OK]
 repeat' first|((with_reducible refine⟨fun hbr=>?_,fun hbr=>?_⟩)<;>(try simp(disch:=omega)only[hA,Ba]at hbr)<;>(try (with_reducible exfalso;omega)))|((with_reducible refine Bd hA hd hQ 200 ?hk ?_);(case hk=>trivial);(conv=>arg 9;cbv);(try simp only[OK]))|((with_reducible refine Bp ?hn ?_);(case hn=>((simp(disch:=omega)only[hA,OK,Ba,Int.reduceToNat,Db,DT,Lv,K0])<;>omega)))|fail
 all_goals exact fI_ rfl rfl
theorem zEn(f:Fld)(d:Dat)(r:Nat)(L:Int)(hk:f.kind=12\/f.kind=13)(hwf:f.width=0)(hr:r<=4096)(hb3:d.bufs.length=3)(hl:4*r+8<=(d.buf 1).length)(hm:(d.buf 1).length<=65536)(ha:AllB (d.buf 1))
  (hm2:(d.buf 2).length<=65536) (ha2:AllB (d.buf 2)) (h0:0<=Bt d r) (h1:Bt d r<=Bt d (r+1)) (h2:Bt d (r+1)<=(d.buf 2).length)
  (hu:f.kind=12->Utf (Es (d.buf 2) (Bt d r).toNat (Bt d (r+1)).toNat)) (hL1:Bt d (r+1)-Bt d r<=L) (hL2:L<=4194304) :
  Tri Tryz.prog gs 60 [.ptr 0 0,.agg (Bo f),.agg (Bs d),.lit (.int .i64 r)] [.blk [.lit (.int .i64 L)]] (RowD (Gy (txt (d.buf 2) (Bt d r).toNat (Bt d (r+1)).toNat),(Bt d (r+1)).toNat-(Bt d r).toNat) L):=by
 have o1:=JL d r (by omega) (by omega) hm ha
 have o2:=JL d (r+1) (by omega) (by omega) hm ha
 have g1:=CA (l:=d.bufs) (j:=1) (by omega)
 change List.take 1 (List.drop 1 (Bx d.bufs))=[isB (d.buf 1)]at g1
 have g2:=CA (l:=d.bufs) (j:=2) (by omega)
 change List.take 1 (List.drop 2 (Bx d.bufs))=[isB (d.buf 2)]at g2
 rw[BF,hwf]
 rw[BL]at *
 generalize Bt d r=O1,Bt d (r+1)=O2 at *
 obtain⟨p,hp⟩:∃p:Nat,O1=p:=⟨O1.toNat,by omega⟩
 obtain⟨q,hq⟩:∃q:Nat,O2=q:=⟨O2.toNat,by omega⟩
 subst hp;subst hq
 rw[Int.toNat_natCast,Int.toNat_natCast]at *
 have hab:=(ha2.drop p).take (q-p)
 unfold txt
 have hus:Hid (f.kind=12->∀h:EH,Tri Tryz.prog gs 87 [.lit (.string (CH (((d.buf 2).drop p).take (q-p))))] h fun v h'=>IsP True v/\h'=h):=Hid.mk fun e h=>(Zd _ (by rw[<-GG,Li hab,lK,lD];omega) h).mono fun v h' ⟨h1,h2⟩=>by
  rw[Li hab]at h1;have e2:Utf (((d.buf 2).drop p).take (q-p))=True:=eq_true (hu e);rw[e2]at h1;exact⟨h1,h2⟩
 have hdec:∀A,A=stdA->A.dec (A.tak (A.sub (A.tn q) (A.tn p)) (A.drp (A.mul (A.tn p) 1) (Br (d.buf 2))))=CH (((d.buf 2).drop p).take (q-p)):=fun A hA=>by
  rw[hA];simp only[HY,Int.toNat_natCast,IE,CT,Nat.mul_one,CV,C7];rw[GW,Ki];exact Lu _
 have hbyt:∀A,A=stdA->A.byt (A.sub (A.tn q) (A.tn p)) (A.drp (A.mul (A.tn p) 1) (Br (d.buf 2)))=true:=fun A hA=>by
  rw[hA];simp only[HY,Int.toNat_natCast,IE,CT,Nat.mul_one,CV];rw[GW];exact Ku (ha2.drop p) (by rw[lD];omega)
 generalize CH (((d.buf 2).drop p).take (q-p))=S at *
 refine RowD.ofB ?_
 unfold isB at *
 generalize hbn:(d.buf 2).length=bn,Br (d.buf 2)=bc,(d.buf 1).length=b1n,Br (d.buf 1)=b1c at *
 generalize Bl f.kids=kc,f.kids.length=kn,f.nm=nm,f.nul=nul,f.kind=k,f.id=i,f.idx=ix at *
 generalize d.len=len,d.ofs=ofs,d.nuls=nls,d.bufs.length=nb,Bx d.bufs=cb,d.kids.length=nk,Bi d.kids=ck,d.dict.length=nd,Bi d.dict=cd at *
 obtain⟨r',hr'⟩:∃q:Int,q=r:=⟨_,rfl⟩
 obtain⟨p',hp'⟩:∃q:Int,q=p:=⟨_,rfl⟩
 obtain⟨q',hq'⟩:∃x:Int,x=q:=⟨_,rfl⟩
 have e1:∀A,A=stdA->A.ib .add .i64 r' 1=((r+1:Nat):Int):=fun A hA=>by simp(disch:=omega)only[hA,Ba]<;>omega
 rw[<-hp',<-hr']at o1
 rw[<-hq']at o2
 rw[<-hp',<-hq']at hdec hbyt
 rw[<-hr']
 refine Bj F60_ok fun I0 ρ0 w0 Q hρ hQ=>?_
 obtain⟨A,hA⟩:∃A,A=stdA:=⟨_,rfl⟩
 replace hdec:=hdec A hA
 subst hdec
 replace hbyt:=hbyt A hA
 rw[<-e1 A hA]at o2
 clear e1
 have l1:List.take 1 (List.drop (A.idx 0 1 1) cb)=[.isl b1n none b1c]:=by rw[show A.idx 0 1 1=1 by rw[hA];rfl];exact g1
 have l2:List.take 1 (List.drop (A.idx 0 2 1) cb)=[.isl bn none bc]:=by rw[show A.idx 0 2 1=2 by rw[hA];rfl];exact g2
 with_reducible refine Be hA hd hQ 200 ?hk ?_
 case hk=>trivial
 conv=>arg 9;cbv
 try simp only[OK]
 repeat' first|(with_reducible refine And.intro trivial ?_)|((with_reducible refine⟨fun hbr=>?_,fun hbr=>?_⟩)<;>(try simp(disch:=omega)only[hA,Ba,reduceCtorEq]at hbr)<;>(try (with_reducible exfalso;omega)))|((with_reducible refine Bd hA hd hQ 200 ?hk ?_);(case hk=>trivial);(conv=>arg 9;cbv);(try simp only[OK]))|((with_reducible refine Bp ?hn ?_);(case hn=>((simp(disch:=omega)only[hA,Ba])<;>omega)))|((refine⟨_,_,?l1,l1,rfl,?_⟩);(case l1=>exact rfl))|((refine⟨_,_,?l1,l2,rfl,?_⟩);(case l1=>exact rfl))|((with_reducible refine cO ?hg ?_);(case hg=>with_reducible exact Bb F86_ok);(refine tM (o1 _) fun v hh hx=>?_);(obtain⟨hv,hh'⟩:=hx;subst hv;subst hh'))|((with_reducible refine cO ?hg ?_);(case hg=>with_reducible exact Bb F86_ok);(refine tM (o2 _) fun v hh hx=>?_);(obtain⟨hv,hh'⟩:=hx;subst hv;subst hh'))|((with_reducible refine cO ?hg ?_);(case hg=>with_reducible exact Bb F87_ok);(refine tM (hus.out (by omega) _) fun v hh hx=>?_);(obtain⟨⟨b,hv,hb⟩,he⟩:=hx;subst hv;subst he;cases b<;>simp(disch:=omega)only[bF,false_iff,eq_self,not_true_eq_false]at hb)<;>(try (with_reducible exfalso;omega)))|(refine⟨hbyt,?_⟩)|fail
 all_goals exact fI_ rfl ⟨_,_,⟨rfl,by simp(disch:=omega)only[hA,Ba]<;>omega⟩,rfl⟩
theorem zAh(f:Fld)(d:Dat)(r w:Nat)(L:Int)(hk:f.kind=14)(hwf:f.width=w)(hw1:w<=16)(hr:r<=4096)(hb2:d.bufs.length=2)(hl:(r+1)*w<=(d.buf 1).length)(hm:(d.buf 1).length<=65536)(ha:AllB (d.buf 1))
  (hL1:w<=L) (hL2:L<=4194304) :
  Tri Tryz.prog gs 60 [.ptr 0 0,.agg (Bo f),.agg (Bs d),.lit (.int .i64 r)] [.blk [.lit (.int .i64 L)]] (RowD (Gy (txt (d.buf 1) (r*w) ((r+1)*w)),w) L):=by
 have g1:=CA (l:=d.bufs) (j:=1) (by omega)
 change List.take 1 (List.drop 1 (Bx d.bufs))=[isB (d.buf 1)]at g1
 have e1:stdA.ib .mul .i64 (r:Int) (w:Int)=((r*w:Nat):Int):=by
  have m1:(r:Int)*w<=4096*16:=Int.mul_le_mul (by omega) (by omega) (by omega) (by omega)
  have m3:0<=(r:Int)*w:=Int.mul_nonneg (by omega) (by omega)
  rw[Dq _ _ (by omega) (by omega)];push_cast;rfl
 have e2:stdA.ib .mul .i64 ((r:Int)+1) (w:Int)=(((r+1)*w:Nat):Int):=by
  have m2:((r:Int)+1)*w<=4097*16:=Int.mul_le_mul (by omega) (by omega) (by omega) (by omega)
  have m4:0<=((r:Int)+1)*w:=Int.mul_nonneg (by omega) (by omega)
  rw[Dq _ _ (by omega) (by omega)];push_cast;rfl
 have hqp:(r+1)*w=r*w+w:=by rw[Nat.add_mul,Nat.one_mul]
 obtain⟨p,hp⟩:∃p:Nat,r*w=p:=⟨_,rfl⟩
 obtain⟨q,hq⟩:∃q:Nat,(r+1)*w=q:=⟨_,rfl⟩
 rw[hp]at e1 hqp ⊢
 rw[hq]at e2 hl hqp ⊢
 have hab:=(ha.drop p).take (q-p)
 unfold txt
 have hdec:∀A,A=stdA->A.dec (A.tak (A.sub (A.tn q) (A.tn p)) (A.drp (A.mul (A.tn p) 1) (Br (d.buf 1))))=CH (((d.buf 1).drop p).take (q-p)):=fun A hA=>by
  rw[hA];simp only[HY,Int.toNat_natCast,IE,CT,Nat.mul_one,CV,C7];rw[GW,Ki];exact Lu _
 have hbyt:∀A,A=stdA->A.byt (A.sub (A.tn q) (A.tn p)) (A.drp (A.mul (A.tn p) 1) (Br (d.buf 1)))=true:=fun A hA=>by
  rw[hA];simp only[HY,Int.toNat_natCast,IE,CT,Nat.mul_one,CV];rw[GW];exact Ku (ha.drop p) (by rw[lD];omega)
 rw[BF,hwf,BL]
 generalize CH (((d.buf 1).drop p).take (q-p))=S at *
 refine RowD.ofB ?_
 unfold isB at *
 generalize hbn:(d.buf 1).length=bn,Br (d.buf 1)=bc at *
 generalize Bl f.kids=kc,f.kids.length=kn,f.nm=nm,f.nul=nul,f.kind=k,f.id=i,f.idx=ix at *
 generalize d.len=len,d.ofs=ofs,d.nuls=nls,d.bufs.length=nb,Bx d.bufs=cb,d.kids.length=nk,Bi d.kids=ck,d.dict.length=nd,Bi d.dict=cd at *
 obtain⟨r',hr'⟩:∃q:Int,q=r:=⟨_,rfl⟩
 obtain⟨w',hw'⟩:∃q:Int,q=w:=⟨_,rfl⟩
 rw[<-hr',<-hw']at e1 e2
 rw[<-hr',<-hw']
 refine Bj F60_ok fun I0 ρ0 w0 Q hρ hQ=>?_
 obtain⟨A,hA⟩:∃A,A=stdA:=⟨_,rfl⟩
 replace hdec:=hdec A hA
 subst hdec
 replace hbyt:=hbyt A hA
 have q1:A.tn (A.ib .mul .i64 r' w')=A.tn p:=by rw[hA,e1]
 have q2:A.tn (A.ib .mul .i64 (A.ib .add .i64 r' 1) w')=A.tn q:=by rw[hA,K5 _ _ (by omega) (by omega),e2]
 rw[<-q1,<-q2]at hbyt hQ
 have l1:List.take 1 (List.drop (A.idx 0 1 1) cb)=[.isl bn none bc]:=by rw[show A.idx 0 1 1=1 by rw[hA];rfl];exact g1
 clear hp hq q1 q2
 with_reducible refine Be hA hd hQ 200 ?hk ?_
 case hk=>trivial
 conv=>arg 9;cbv
 try simp only[OK]
 repeat' first|(with_reducible refine And.intro trivial ?_)|((with_reducible refine⟨fun hbr=>?_,fun hbr=>?_⟩)<;>(try simp(disch:=omega)only[hA,Ba,e1,e2]at hbr)<;>(try (with_reducible exfalso;omega)))|((with_reducible refine Bd hA hd hQ 200 ?hk ?_);(case hk=>trivial);(conv=>arg 9;cbv);(try simp only[OK]))|((with_reducible refine Bp ?hn ?_);(case hn=>((simp(disch:=omega)only[hA,Ba,e1,e2])<;>omega)))|((refine⟨_,_,?l1,l1,rfl,?_⟩);(case l1=>exact rfl))|(refine⟨hbyt,?_⟩)|fail
 all_goals exact fI_ rfl ⟨_,_,⟨rfl,by simp(disch:=omega)only[hA,Ba,e1,e2]<;>omega⟩,rfl⟩
def OwnB(f:Fld)(d:Dat):Prop:=∀(i:Nat) (L:Int),(i:Int)<d.len->((BB f d (d.ofs.toNat+i)).2:Int)<=L->L<=4194304->
 Tri Tryz.prog gs 38 [.ptr 0 0,.agg (Bo f),.agg (Bs d),.lit (.int .i64 (d.ofs.toNat+i:Nat))] [.blk [.lit (.int .i64 L)]] (RowD (BB f d (d.ofs.toNat+i)) L)
theorem OwnB.at{f:Fld}{d:Dat}(h:OwnB f d){i:Nat}{L:Int}(hi:(i:Int)<d.len)(h1:((BB f d (d.ofs.toNat+i)).2:Int)<=L)(h2:L<=4194304){id:Nat}{hp:EH}(hg:Bh hp id = .blk [.lit (.int .i64 L)]) :
  Tri Tryz.prog gs 38 [.ptr id 0,.agg (Bo f),.agg (Bs d),.lit (.int .i64 (d.ofs.toNat+i:Nat))] hp fun v h'=>∃z,(v = .tup [.agg (BK (BB f d (d.ofs.toNat+i)).1),.lit (.bool true)]/\z=L-((BB f d (d.ofs.toNat+i)).2:Nat))/\h'=BG hp id (.blk [.lit (.int .i64 z)]):=
 RowD.at (post:=[.agg (Bo f),.agg (Bs d),.lit (.int .i64 (d.ofs.toNat+i:Nat))]) (h i L hi h1 h2) (by rw[BF,BL];rfl) hg
abbrev Vl(id bn:Nat)(bc:List EV)(lv:EV)(tl:EH):Prop:=(bn=0/\lv = .lit (.slice none 0 0)/\tl=[])\/(lv = .sl 4 id 0 bn none/\tl=[.blk bc])
theorem UR(f:Fld)(d:Dat)(r p q:Nat)(L:Int)(hk:f.kind=15\/f.kind=16)(hk1:0<f.kids.length)(hn:0<d.kids.length)
  (hsp:∀h:EH,Tri Tryz.prog gs 88 [.agg (Bo f),.agg (Bs d),.lit (.int .i64 r)] h fun v h'=>v = .tup [.lit (.int .i64 p),.lit (.int .i64 q),.lit (.bool true)]/\h'=h)
  (how:OwnB (f.kids.getD 0 BQ) (d.kids.getD 0 Bf)) (hpo:0<=(d.kids.getD 0 Bf).ofs/\(d.kids.getD 0 Bf).ofs<=4096) (hpq:p<=q) (hq:(q:Int)<=(d.kids.getD 0 Bf).len) (hql:q<=4096)
  (hL1:(BA ((Dp (fun i=>BB (f.kids.getD 0 BQ) (d.kids.getD 0 Bf) ((d.kids.getD 0 Bf).ofs.toNat+i)) p q).map (·.2)):Int)<=L) (hL2:L<=4194304) :
  Tri Tryz.prog gs 61 [.ptr 0 0,.agg (Bo f),.agg (Bs d),.lit (.int .i64 r)] [.blk [.lit (.int .i64 L)]]
   (RowD (EG 0 ((Dp (fun i=>BB (f.kids.getD 0 BQ) (d.kids.getD 0 Bf) ((d.kids.getD 0 Bf).ofs.toNat+i)) p q).map (·.1)),BA ((Dp (fun i=>BB (f.kids.getD 0 BQ) (d.kids.getD 0 Bf) ((d.kids.getD 0 Bf).ofs.toNat+i)) p q).map (·.2))) L):=by
 have g7:=D5 f.kids 0 hk1
 have g6:=C5 d.kids 0 hn
 have g1:=K2 d.kids 0 hn
 obtain⟨Y,hY⟩:∃Y,Y=Dp (fun i=>BB (f.kids.getD 0 BQ) (d.kids.getD 0 Bf) ((d.kids.getD 0 Bf).ofs.toNat+i)) p q:=⟨_,rfl⟩
 have hYl:Y.length=q-p:=by rw[hY,Tz]
 have ho:=Hid.mk (fun(z:Int) (hz:p<=z/\z<q) (L:Int) (h1:((Y.getD (z.toNat-p) (Bw,0)).2:Int)<=L) (h2:L<=4194304) (h:EH) (hg:Bh h 0 = .blk [.lit (.int .i64 L)])=>by
  have e:Y.getD (z.toNat-p) (Bw,0)=BB (f.kids.getD 0 BQ) (d.kids.getD 0 Bf) ((d.kids.getD 0 Bf).ofs.toNat+z.toNat):=by rw[hY,Vw _ _ _ _ (by omega),show p+(z.toNat-p)=z.toNat by omega]
  have:=how.at (i:=z.toNat) (L:=L) (by omega) (by rw[<-e];exact h1) h2 hg
  rw[<-e]at this;exact this)
 rw[<-hY]at hL1 ⊢
 refine RowD.lst ?_
 have hs:=fun n=>Jl Y n (Bw,0)
 have hw:=fun n=>HG Y n (Bw,0)
 have hle:=fun n=>HR Y n (Bw,0)
 clear how hY
 rw[BF,BL]at *
 generalize f.kids.getD 0 BQ=pf,d.kids.getD 0 Bf=pd at *
 generalize pd.len=plen,pd.ofs=pofs,pd.nuls=pnls,pd.bufs.length=pnb,Bx pd.bufs=pcb,pd.kids.length=pnk,Bi pd.kids=pck,pd.dict.length=pnd,Bi pd.dict=pcd at *
 generalize Bl pf.kids=pkc,pf.kids.length=pkn,pf.nm=pnm,pf.nul=pnul,pf.kind=pk,pf.width=pw,pf.id=pi,pf.idx=pix at *
 generalize Bl f.kids=kc,f.kids.length=kn,f.nm=nm,f.nul=nul,f.kind=k,f.width=w,f.id=i,f.idx=ix at *
 generalize d.len=len,d.ofs=ofs,d.nuls=nls,d.bufs.length=nb,Bx d.bufs=cb,d.kids.length=nk,Bi d.kids=ck,d.dict.length=nd,Bi d.dict=cd at *
 obtain⟨r',hr'⟩:∃q:Int,q=r:=⟨_,rfl⟩
 obtain⟨p',hp'⟩:∃q:Int,q=p:=⟨_,rfl⟩
 obtain⟨q',hq'⟩:∃x:Int,x=q:=⟨_,rfl⟩
 rw[<-hr']at hsp ⊢
 rw[<-hp',<-hq']at hsp
 refine Bj F61_ok fun I0 ρ0 w0 Q hρ hQ=>?_
 obtain⟨A,hA⟩:∃A,A=stdA:=⟨_,rfl⟩
 have l7:List.take 7 (List.drop (A.idx 0 0 7) kc)=[.lit (.string pnm),.lit (.bool pnul),.lit (.int .i64 pk),.lit (.int .i64 pw),.lit (.int .i64 pi),.lit (.int .i64 pix),.isl pkn none pkc]:=by rw[show A.idx 0 0 7=0*7 by rw[hA];rfl];exact g7
 have l6:List.take 6 (List.drop (A.idx 0 0 6) ck)=[.lit (.int .i64 plen),.lit (.int .i64 pofs),.lit (.int .i64 pnls),.isl pnb none pcb,.isl pnk none pck,.isl pnd none pcd]:=by rw[show A.idx 0 0 6=0*6 by rw[hA];rfl];exact g6
 have l1:List.take 1 (List.drop (A.add (A.idx 0 0 6) 1) ck)=[.lit (.int .i64 pofs)]:=by rw[show A.add (A.idx 0 0 6) 1=0*6+1 by rw[hA];rfl];exact g1
 clear g7 g6 g1
 with_reducible refine Be hA hd hQ 200 ?hk ?_
 case hk=>trivial
 conv=>arg 9;cbv
 try simp only[OK]
 repeat' first|(with_reducible refine OKK.loop ?_)|(with_reducible refine OKK.again ?_)|((with_reducible refine⟨fun hbr=>?_,fun hbr=>?_⟩)<;>(try simp(disch:=omega)only[hA,Ba]at hbr)<;>(try (with_reducible exfalso;omega)))|((with_reducible refine Bd hA hd hQ 200 ?hk ?_);(case hk=>trivial);(conv=>arg 9;cbv);(try simp only[OK]))|((with_reducible refine Bp ?hn ?_);(case hn=>((simp(disch:=omega)only[hA,OK,Ba,Int.reduceToNat,Db,DT,Lv,K0])<;>omega)))|((with_reducible refine cO ?hg ?_);(case hg=>with_reducible exact Bb F88_ok);(refine tM (hsp _) fun v hh hx=>?_);(obtain⟨hv,hh'⟩:=hx;subst hv;subst hh'))|fail
 refine oK_ (msk 180 [0,5,6,8,10,20,22]) ?_
 refine oL_ (fun m st=>∃(z:Int) (bn:Nat) (bc:List EV) (LZ:Int),(∃lv tl,Vl 5 bn bc lv tl/\st=⟨mkT 180 [(0,.ptr 0 0),(5,.ptr 1 0),(6,.ptr 2 0),(8,.ptr 3 0),(10,.ptr 4 0),(20,.lit (.int .i64 q')),(22,.lit (.int .i64 z))],.blk [.lit (.int .i64 LZ)] :: .blk [.lit (.string nm),.lit (.bool nul),.lit (.int .i64 k),.lit (.int .i64 w),.lit (.int .i64 i),.lit (.int .i64 ix),.isl kn none kc] :: .blk [.lit (.int .i64 len),.lit (.int .i64 ofs),.lit (.int .i64 nls),.isl nb none cb,.isl nk none ck,.isl nd none cd] :: .blk [.lit (.bool false),.lit (.int .i64 0),.lit (.string ⟨#[]⟩),.lit (.slice none 0 0)] :: .blk [.lit (.bool false),.lit (.int .i64 0),.lit (.string ⟨#[]⟩),lv]::tl⟩)/\
  m=(q'-z).toNat/\p'<=z/\z<=q'/\bn=(z-p').toNat/\bc=BE ((Y.take bn).map (·.1))/\LZ=L-BA ((Y.take bn).map (·.2))) (fun m st hs' ih=>?_) ⟨p',0,[],L,⟨_,_,.inl ⟨rfl,rfl,rfl⟩,rfl⟩,rfl,by omega,by omega,by omega,rfl,by simp[BA]⟩
 obtain⟨z,bn,bc,LZ,⟨lv,tl,hst,rfl⟩,hm,hz1,hz2,hbn,hbc,hLZ⟩:=hs'
 have hbl:bc.length=4*bn:=by rw[hbc,Ec,List.length_map,lK];omega
 have hcb:clL bc=true:=by rw[hbc];exact Do _
 have hbe:bc=BE ((Y.take bn).map (·.1)):=hbc
 have ho':Hid (z<q'->∀h:EH,Bh h 0 = .blk [.lit (.int .i64 LZ)]->_):=Hid.mk fun hzq h hg=>ho.out z (by omega) LZ (by have:=hle bn (by omega);rw[show z.toNat-p=bn by omega];omega) (by omega) h hg
 have hs2:Hid (z<q'->BE ((Y.take (bn+1)).map (·.1))=bc++BK (Y.getD bn (Bw,0)).1):=Hid.mk fun hzq=>by rw[hbc];exact hs _ (by omega)
 have hw2:Hid (z<q'->((BA ((Y.take (bn+1)).map (·.2)):Nat):Int)=(BA ((Y.take bn).map (·.2)):Nat)+((Y.getD bn (Bw,0)).2:Nat)):=Hid.mk fun hzq=>by rw[hw _ (by omega)];push_cast;rfl
 rw[show z.toNat-p=bn by omega,show ((pofs.toNat+z.toNat:Nat):Int)=A.ib .add .i64 pofs z by simp(disch:=omega)only[hA,Ba]<;>omega]at ho'
 generalize Y.getD bn (Bw,0)=X at *
 obtain⟨⟨vb,vn,vt,vl⟩,W⟩:=X
 simp only[BK]at ho' hs2 hw2
 generalize vl.length=ln,BE vl=lc at *
 clear hs hw hle ho hbc
 rcases hst with ⟨h0,rfl,rfl⟩|⟨rfl,rfl⟩
 all_goals
  with_reducible refine Be hA hd hQ 200 ?hk ?_
  case hk=>trivial
  conv=>arg 9;cbv
  try simp only[OK]
  repeat' first|(with_reducible refine OKK.loop ?_)|(with_reducible refine OKK.again ?_)|(with_reducible refine And.intro trivial ?_)|((with_reducible refine⟨fun hbr=>?_,fun hbr=>?_⟩)<;>(try simp(disch:=omega)only[hA,Ba,reduceCtorEq]at hbr)<;>(try (with_reducible exfalso;omega)))|((with_reducible refine Bd hA hd hQ 200 ?hk ?_);(case hk=>trivial);(conv=>arg 9;cbv);(try simp only[OK]))|((with_reducible refine Bp ?hn ?_);(case hn=>((simp(disch:=omega)only[hA,Ba])<;>omega)))|((refine⟨_,_,?l1,l7,rfl,?_⟩);(case l1=>exact rfl))|((refine⟨_,_,?l1,l6,rfl,?_⟩);(case l1=>exact rfl))|((refine⟨_,_,?l1,l1,rfl,?_⟩);(case l1=>exact rfl))|((with_reducible refine cO ?hg ?_);(case hg=>with_reducible exact Bb F38_ok);(refine tM ((ho'.out (by omega)) _ rfl) fun v hh hx=>?_);(obtain⟨z2,⟨hv,hz2⟩,hh⟩:=hx;subst hv;subst hh))|fail
 ·refine oK_ (msk 180 [0,5,6,8,10,20,22]) (OKs.mv [0,1,2,3,4,7] [] (by rw[hρ];rfl) ⟨by decide,by simp[Bc],by simp⟩ (ih _ _ ⟨A.ib .add .i64 z 1,bn+1,_,z2,⟨_,_,.inr ⟨by rw[h0];rfl,rfl⟩,rfl⟩,rfl,?_,?_,?_,?_,?_⟩ ?_))
  ·simp(disch:=omega)only[hA,Ba];omega
  ·simp(disch:=omega)only[hA,Ba];omega
  ·simp(disch:=omega)only[hA,Ba];omega
  ·have hb0:bc=[]:=List.length_eq_zero_iff.1 (by omega)
   rw[hs2.out (by omega),hb0,lN,hA]
   exact BR _ _ _ rfl
  ·rw[hw2.out (by omega)];omega
  ·simp(disch:=omega)only[hA,Ba];omega
 ·have hY0:Y=[]:=List.length_eq_zero_iff.1 (by omega)
  refine fI_ rfl ⟨_,_,?_,rfl,.inl ⟨?_,rfl⟩⟩
  ·rw[hLZ,hY0];simp[BA]
  ·rw[hY0];rfl
 ·have hpush:A.app (A.tak (A.mul bn 4) (A.drp 0 bc)) (A.tak (A.mul 1 4) (A.drp 0 [.lit (.bool vb),.lit (.int .i64 vn),.lit (.string vt),.isl ln none lc]))=bc++[.lit (.bool vb),.lit (.int .i64 vn),.lit (.string vt),.isl ln none lc]:=by
   rw[hA];simp only[DL,C7,CV,CT,List.drop_zero];rw[lT (by omega)]
   rfl
  refine oK_ (msk 180 [0,5,6,8,10,20,22]) (OKs.mv [0,1,2,3,4,8] [] (by rw[hρ];rfl) ⟨by decide,by simp[Bc],by simp⟩ (ih _ _ ⟨A.ib .add .i64 z 1,bn+1,_,z2,⟨_,_,.inr ⟨by rw[hA];rfl,rfl⟩,rfl⟩,rfl,?_,?_,?_,?_,?_⟩ ?_))
  ·simp(disch:=omega)only[hA,Ba];omega
  ·simp(disch:=omega)only[hA,Ba];omega
  ·simp(disch:=omega)only[hA,Ba];omega
  ·rw[hs2.out (by omega)]
   exact(congrArg _ hpush).trans (BR _ _ _ (by rw[<-hs2.out (by omega)];exact Do _))
  ·rw[hw2.out (by omega)];omega
  ·simp(disch:=omega)only[hA,Ba];omega
 ·have hbY:Y.take bn=Y:=lT (by omega)
  refine fI_ rfl ⟨_,_,?_,rfl,.inr ⟨5,none,bc,?_,rfl,by decide,?_,hcb⟩⟩
  ·rw[hLZ,hbY]
  ·rw[List.length_map,show Y.length=bn by omega];rfl
  ·rw[List.length_map,hbe,hbY,lT (by rw[Ec,List.length_map];omega)]
theorem Yg(f:Fld)(d:Dat)(r:Nat)(L:Int)(Y:List (Val×Nat))(hk:f.kind=17)(hr:r<=4096)(hk1:f.kids.length=d.kids.length)(hnk:d.kids.length<=128)
  (hYl:Y.length=d.kids.length) (hY:∀k,k<d.kids.length->Y.getD k (Bw,0)=BB (f.kids.getD k BQ) (d.kids.getD k Bf) ((d.kids.getD k Bf).ofs.toNat+r))
  (how:∀k,k<d.kids.length->OwnB (f.kids.getD k BQ) (d.kids.getD k Bf)) (hrl:∀k,k<d.kids.length->(r:Int)<(d.kids.getD k Bf).len) (hpo:∀k,k<d.kids.length->0<=(d.kids.getD k Bf).ofs/\(d.kids.getD k Bf).ofs<=4096)
  (hL1:(BA (Y.map (·.2)):Int)<=L) (hL2:L<=4194304) :
  Tri Tryz.prog gs 61 [.ptr 0 0,.agg (Bo f),.agg (Bs d),.lit (.int .i64 r)] [.blk [.lit (.int .i64 L)]] (RowD (EG 0 (Y.map (·.1)),BA (Y.map (·.2))) L):=by
 have g7:=Hid.mk fun z (h:z<f.kids.length)=>D5 f.kids z h
 have g6:=Hid.mk fun z (h:z<d.kids.length)=>C5 d.kids z h
 have g1:=Hid.mk fun z (h:z<d.kids.length)=>K2 d.kids z h
 have ho:=Hid.mk (fun(k:Nat) (hk:k<d.kids.length) (L:Int) (h1:((Y.getD k (Bw,0)).2:Int)<=L) (h2:L<=4194304) (h:EH) (hg:Bh h 0 = .blk [.lit (.int .i64 L)])=>by
  have:=(how k hk).at (i:=r) (L:=L) (hrl k hk) (by rw[<-hY k hk];exact h1) h2 hg
  rw[<-hY k hk]at this;exact this)
 refine RowD.lst ?_
 have hs:=fun n=>Jl Y n (Bw,0)
 have hw:=fun n=>HG Y n (Bw,0)
 have hle:=fun n=>HR Y n (Bw,0)
 replace hpo:=Hid.mk hpo
 clear how hY hrl
 rw[BF,BL]
 generalize f.kids=FK,d.kids=DK at *
 generalize hkc:Bl FK=kc,hkn:FK.length=kn,f.nm=nm,f.nul=nul,f.kind=k,f.width=w,f.id=i,f.idx=ix at *
 generalize d.len=len,d.ofs=ofs,d.nuls=nls,d.bufs.length=nb,Bx d.bufs=cb,hnkk:DK.length=nk,hck:Bi DK=ck,d.dict.length=nd,Bi d.dict=cd at *
 obtain⟨r',hr'⟩:∃q:Int,q=r:=⟨_,rfl⟩
 rw[<-hr']
 refine Bj F61_ok fun I0 ρ0 w0 Q hρ hQ=>?_
 obtain⟨A,hA⟩:∃A,A=stdA:=⟨_,rfl⟩
 with_reducible refine Be hA hd hQ 200 ?hk ?_
 case hk=>trivial
 conv=>arg 9;cbv
 try simp only[OK]
 repeat' first|(with_reducible refine OKK.loop ?_)|((with_reducible refine⟨fun hbr=>?_,fun hbr=>?_⟩)<;>(try simp(disch:=omega)only[hA,Ba]at hbr)<;>(try (with_reducible exfalso;omega)))|((with_reducible refine Bd hA hd hQ 200 ?hk ?_);(case hk=>trivial);(conv=>arg 9;cbv);(try simp only[OK]))
 refine oK_ (msk 180 [0,3,5,6,8,10,11]) ?_
 refine oL_ (fun m st=>∃(z:Int) (bn:Nat) (bc:List EV) (LZ:Int),(∃lv tl,Vl 5 bn bc lv tl/\st=⟨mkT 180 [(0,.ptr 0 0),(3,.lit (.int .i64 r')),(5,.ptr 1 0),(6,.ptr 2 0),(8,.ptr 3 0),(10,.ptr 4 0),(11,.lit (.int .i64 z))],.blk [.lit (.int .i64 LZ)] :: .blk [.lit (.string nm),.lit (.bool nul),.lit (.int .i64 k),.lit (.int .i64 w),.lit (.int .i64 i),.lit (.int .i64 ix),.isl kn none kc] :: .blk [.lit (.int .i64 len),.lit (.int .i64 ofs),.lit (.int .i64 nls),.isl nb none cb,.isl nk none ck,.isl nd none cd] :: .blk [.lit (.bool false),.lit (.int .i64 0),.lit (.string ⟨#[]⟩),.lit (.slice none 0 0)] :: .blk [.lit (.bool false),.lit (.int .i64 0),.lit (.string ⟨#[]⟩),lv]::tl⟩)/\
  m=(nk-z).toNat/\0<=z/\z<=nk/\bn=z.toNat/\bc=BE ((Y.take bn).map (·.1))/\LZ=L-BA ((Y.take bn).map (·.2))) (fun m st hs' ih=>?_) ⟨0,0,[],L,⟨_,_,.inl ⟨rfl,rfl,rfl⟩,rfl⟩,rfl,by omega,by omega,by omega,rfl,by simp[BA]⟩
 obtain⟨z,bn,bc,LZ,⟨lv,tl,hst,rfl⟩,hm,hz1,hz2,hbn,hbc,hLZ⟩:=hs'
 have hbl:bc.length=4*bn:=by rw[hbc,Ec,List.length_map,lK];omega
 have hcb:clL bc=true:=by rw[hbc];exact Do _
 have hbe:bc=BE ((Y.take bn).map (·.1)):=hbc
 have ho':Hid (z<nk->∀h:EH,Bh h 0 = .blk [.lit (.int .i64 LZ)]->_):=Hid.mk fun hzq h hg=>ho.out bn (by omega) LZ (by have:=hle bn (by omega);omega) (by omega) h hg
 have hs2:Hid (z<nk->BE ((Y.take (bn+1)).map (·.1))=bc++BK (Y.getD bn (Bw,0)).1):=Hid.mk fun hzq=>by rw[hbc];exact hs _ (by omega)
 have hw2:Hid (z<nk->((BA ((Y.take (bn+1)).map (·.2)):Nat):Int)=(BA ((Y.take bn).map (·.2)):Nat)+((Y.getD bn (Bw,0)).2:Nat)):=Hid.mk fun hzq=>by rw[hw _ (by omega)];push_cast;rfl
 have l7:Hid (z<nk->List.take 7 (List.drop (A.idx 0 z 7) kc)=Bo (FK.getD bn BQ)):=Hid.mk fun h=>by rw[hA,B3,Nat.zero_add,show z.toNat=bn by omega];exact g7.out bn (by omega)
 have l6:Hid (z<nk->List.take 6 (List.drop (A.idx 0 z 6) ck)=Bs (DK.getD bn Bf)):=Hid.mk fun h=>by rw[hA,B3,Nat.zero_add,show z.toNat=bn by omega];exact g6.out bn (by omega)
 have l1:Hid (z<nk->List.take 1 (List.drop (A.add (A.idx 0 z 6) 1) ck)=[.lit (.int .i64 (DK.getD bn Bf).ofs)]):=Hid.mk fun h=>by rw[hA,B3,Nat.zero_add,show z.toNat=bn by omega];exact g1.out bn (by omega)
 have hpb:Hid (z<nk->0<=(DK.getD bn Bf).ofs/\(DK.getD bn Bf).ofs<=4096):=Hid.mk fun h=>hpo.out bn (by omega)
 have hadd:Hid (z<nk->(((DK.getD bn Bf).ofs.toNat+r:Nat):Int)=A.ib .add .i64 (DK.getD bn Bf).ofs r'):=Hid.mk fun h=>by
  have:=hpb.out h;generalize (DK.getD bn Bf).ofs=PO at *;simp(disch:=omega)only[hA,Ba]<;>omega
 rw[BF]at l7 ho'
 rw[BL]at l6 ho'
 generalize FK.getD bn BQ=pf,DK.getD bn Bf=pd at *
 generalize pd.len=plen,pd.ofs=pofs,pd.nuls=pnls,pd.bufs.length=pnb,Bx pd.bufs=pcb,pd.kids.length=pnk,Bi pd.kids=pck,pd.dict.length=pnd,Bi pd.dict=pcd at *
 generalize Bl pf.kids=pkc,pf.kids.length=pkn,pf.nm=pnm,pf.nul=pnul,pf.kind=pk,pf.width=pw,pf.id=pi,pf.idx=pix at *
 generalize Y.getD bn (Bw,0)=X at *
 obtain⟨⟨vb,vn,vt,vl⟩,W⟩:=X
 simp only[BK]at ho' hs2 hw2
 generalize vl.length=ln,BE vl=lc at *
 generalize hPR:((pofs.toNat+r:Nat):Int)=PR at *
 clear hs hw hle ho hbc g7 g6 g1 hpo
 by_cases hzn:z<nk
 ·have l7:=l7.out hzn
  have l6:=l6.out hzn;have l1:=l1.out hzn;have hadd:=hadd.out hzn;have ho':=ho'.out hzn;subst hadd;clear hPR hpb;rcases hst with ⟨h0,rfl,rfl⟩|⟨rfl,rfl⟩
  all_goals
   with_reducible refine Be hA hd hQ 200 ?hk ?_
   case hk=>trivial
   conv=>arg 9;cbv
   try simp only[OK]
   repeat' first|(with_reducible refine OKK.again ?_)|((with_reducible refine⟨fun hbr=>?_,fun hbr=>?_⟩)<;>(try simp(disch:=omega)only[hA,Ba,reduceCtorEq]at hbr)<;>(try (with_reducible exfalso;omega)))|((with_reducible refine Bd hA hd hQ 200 ?hk ?_);(case hk=>trivial);(conv=>arg 9;cbv);(try simp only[OK]))|((with_reducible refine Bp ?hn ?_);(case hn=>((simp(disch:=omega)only[hA,Ba])<;>omega)))|((refine⟨_,_,?l1,l7,rfl,?_⟩);(case l1=>exact rfl))|((refine⟨_,_,?l1,l6,rfl,?_⟩);(case l1=>exact rfl))|((refine⟨_,_,?l1,l1,rfl,?_⟩);(case l1=>exact rfl))|((with_reducible refine cO ?hg ?_);(case hg=>with_reducible exact Bb F38_ok);(refine tM (ho' _ rfl) fun v hh hx=>?_);(obtain⟨z2,⟨hv,hz2⟩,hh⟩:=hx;subst hv;subst hh))
  ·refine oK_ (msk 180 [0,3,5,6,8,10,11]) (OKs.mv [0,1,2,3,4,7] [] (by rw[hρ];rfl) ⟨by decide,by simp[Bc],by simp⟩ (ih _ _ ⟨A.ib .add .i64 z 1,bn+1,_,z2,⟨_,_,.inr ⟨by rw[h0];rfl,rfl⟩,rfl⟩,rfl,?_,?_,?_,?_,?_⟩ ?_))
   ·simp(disch:=omega)only[hA,Ba];omega
   ·simp(disch:=omega)only[hA,Ba];omega
   ·simp(disch:=omega)only[hA,Ba];omega
   ·have hb0:bc=[]:=List.length_eq_zero_iff.1 (by omega)
    rw[hs2.out (by omega),hb0,lN,hA]
    exact BR _ _ _ rfl
   ·rw[hw2.out (by omega)];omega
   ·simp(disch:=omega)only[hA,Ba];omega
  ·have hpush:A.app (A.tak (A.mul bn 4) (A.drp 0 bc)) (A.tak (A.mul 1 4) (A.drp 0 [.lit (.bool vb),.lit (.int .i64 vn),.lit (.string vt),.isl ln none lc]))=bc++[.lit (.bool vb),.lit (.int .i64 vn),.lit (.string vt),.isl ln none lc]:=by
    rw[hA];simp only[DL,C7,CV,CT,List.drop_zero];rw[lT (by omega)]
    rfl
   refine oK_ (msk 180 [0,3,5,6,8,10,11]) (OKs.mv [0,1,2,3,4,8] [] (by rw[hρ];rfl) ⟨by decide,by simp[Bc],by simp⟩ (ih _ _ ⟨A.ib .add .i64 z 1,bn+1,_,z2,⟨_,_,.inr ⟨by rw[hA];rfl,rfl⟩,rfl⟩,rfl,?_,?_,?_,?_,?_⟩ ?_))
   ·simp(disch:=omega)only[hA,Ba];omega
   ·simp(disch:=omega)only[hA,Ba];omega
   ·simp(disch:=omega)only[hA,Ba];omega
   ·rw[hs2.out (by omega)]
    exact(congrArg _ hpush).trans (BR _ _ _ (by rw[<-hs2.out (by omega)];exact Do _))
   ·rw[hw2.out (by omega)];omega
   ·simp(disch:=omega)only[hA,Ba];omega
 ·rcases hst with ⟨h0,rfl,rfl⟩|⟨rfl,rfl⟩
  all_goals
   with_reducible refine Be hA hd hQ 200 ?hk ?_
   case hk=>trivial
   conv=>arg 9;cbv
   try simp only[OK]
   repeat' first|((with_reducible refine⟨fun hbr=>?_,fun hbr=>?_⟩)<;>(try simp(disch:=omega)only[hA,Ba]at hbr)<;>(try (with_reducible exfalso;omega)))|((with_reducible refine Bd hA hd hQ 200 ?hk ?_);(case hk=>trivial);(conv=>arg 9;cbv);(try simp only[OK]))
  ·have hY0:Y=[]:=List.length_eq_zero_iff.1 (by omega)
   refine fI_ rfl ⟨_,_,?_,rfl,.inl ⟨?_,rfl⟩⟩
   ·rw[hLZ,hY0];simp[BA]
   ·rw[hY0];rfl
  ·have hbY:Y.take bn=Y:=lT (by omega)
   refine fI_ rfl ⟨_,_,?_,rfl,.inr ⟨5,none,bc,?_,rfl,by decide,?_,hcb⟩⟩
   ·rw[hLZ,hbY]
   ·rw[List.length_map,show Y.length=bn by omega];rfl
   ·rw[List.length_map,hbe,hbY,lT (by rw[Ec,List.length_map];omega)]
theorem zBv(f:Fld)(d:Dat)(r c y:Nat)(L:Int)(hk:f.kind=18)(hk1:c<f.kids.length)(hn:c<d.kids.length)(hb2:d.bufs.length=2)(hnk:d.kids.length<=128)
  (h0:r<(d.buf 0).length) (hm0:(d.buf 0).length<=65536) (ha0:AllB (d.buf 0)) (hc:c=(d.buf 0).getD r 0) (hl:4*r+4<=(d.buf 1).length) (hm:(d.buf 1).length<=65536) (ha:AllB (d.buf 1)) (hy0:Bt d r=y)
  (how:OwnB (f.kids.getD c BQ) (d.kids.getD c Bf)) (hpo:0<=(d.kids.getD c Bf).ofs/\(d.kids.getD c Bf).ofs<=4096) (hpl:(d.kids.getD c Bf).len<=4096) (hy:(y:Int)<(d.kids.getD c Bf).len)
  (hL1:((BB (f.kids.getD c BQ) (d.kids.getD c Bf) ((d.kids.getD c Bf).ofs.toNat+y)).2:Int)<=L) (hL2:L<=4194304) :
  Tri Tryz.prog gs 61 [.ptr 0 0,.agg (Bo f),.agg (Bs d),.lit (.int .i64 r)] [.blk [.lit (.int .i64 L)]]
   (RowD (EG c [(BB (f.kids.getD c BQ) (d.kids.getD c Bf) ((d.kids.getD c Bf).ofs.toNat+y)).1],(BB (f.kids.getD c BQ) (d.kids.getD c Bf) ((d.kids.getD c Bf).ofs.toNat+y)).2) L):=by
 have g7:=D5 f.kids c hk1
 have g6:=C5 d.kids c hn
 have o1:=JL d r (by omega) hl hm ha
 rw[hy0]at o1
 have gb:=CA (l:=d.bufs) (j:=0) (by omega)
 change List.take 1 (List.drop 0 (Bx d.bufs))=[isB (d.buf 0)]at gb
 have ho:=fun(h:EH) (hg:Bh h 0 = .blk [.lit (.int .i64 L)])=>how.at (L:=L) hy hL1 hL2 hg
 have hbyt:∀A:Ar,A=stdA->List.take 1 (List.drop (A.idx 0 (r:Int) 1) (Br (d.buf 0)))=[.lit (.int .u8 (c:Nat))]:=fun A hA=>by
  obtain⟨x,y1,y2⟩:=IK (rfl:Br (d.buf 0)=Br (d.buf 0)) r h0;rw[hA,B3,Nat.zero_add,Nat.mul_one,Int.toNat_natCast,y1,y2,hc]
 have hc255:c<256:=by rw[hc];exact ha0.get _
 refine RowD.lst ?_
 rw[BF,BL]at *
 generalize BB (f.kids.getD c BQ) (d.kids.getD c Bf) ((d.kids.getD c Bf).ofs.toNat+y)=X at *
 obtain⟨⟨vb,vn,vt,vl⟩,W⟩:=X
 simp only[BK,BE,List.append_nil]at ho hL1 ⊢
 generalize vl.length=ln,BE vl=lc at *
 clear how hc hy0
 unfold isB at *
 generalize f.kids.getD c BQ=pf,d.kids.getD c Bf=pd at *
 generalize pd.len=plen,pd.ofs=pofs,pd.nuls=pnls,pd.bufs.length=pnb,Bx pd.bufs=pcb,pd.kids.length=pnk,Bi pd.kids=pck,pd.dict.length=pnd,Bi pd.dict=pcd at *
 generalize Bl pf.kids=pkc,pf.kids.length=pkn,pf.nm=pnm,pf.nul=pnul,pf.kind=pk,pf.width=pw,pf.id=pi,pf.idx=pix at *
 generalize (d.buf 0).length=b0n,Br (d.buf 0)=b0c,(d.buf 1).length=bn,Br (d.buf 1)=bc at *
 generalize Bl f.kids=kc,f.kids.length=kn,f.nm=nm,f.nul=nul,f.kind=k,f.width=w,f.id=i,f.idx=ix at *
 generalize d.len=len,d.ofs=ofs,d.nuls=nls,d.bufs.length=nb,Bx d.bufs=cb,d.kids.length=nk,Bi d.kids=ck,d.dict.length=nd,Bi d.dict=cd at *
 obtain⟨r',hr'⟩:∃q:Int,q=r:=⟨_,rfl⟩
 obtain⟨y',hy'⟩:∃q:Int,q=y:=⟨_,rfl⟩
 obtain⟨c',hc'⟩:∃q:Int,q=c:=⟨_,rfl⟩
 rw[<-hr']at hbyt o1 ⊢
 rw[<-hy']at o1
 rw[<-hc']at hbyt ⊢
 refine Bj F61_ok fun I0 ρ0 w0 Q hρ hQ=>?_
 obtain⟨A,hA⟩:∃A,A=stdA:=⟨_,rfl⟩
 have lb:=hbyt A hA
 have ec:A.wr .i64 c'=c':=by rw[hA];exact D6 _ (by omega) (by omega)
 have hadd:((pofs.toNat+y:Nat):Int)=A.ib .add .i64 pofs y':=by simp(disch:=omega)only[hA,Ba]<;>omega
 rw[hadd]at ho
 have l7:List.take 7 (List.drop (A.idx 0 (A.wr .i64 c') 7) kc)=[.lit (.string pnm),.lit (.bool pnul),.lit (.int .i64 pk),.lit (.int .i64 pw),.lit (.int .i64 pi),.lit (.int .i64 pix),.isl pkn none pkc]:=by rw[ec,hA,B3,Nat.zero_add,hc',Int.toNat_natCast];exact g7
 have l6:List.take 6 (List.drop (A.idx 0 (A.wr .i64 c') 6) ck)=[.lit (.int .i64 plen),.lit (.int .i64 pofs),.lit (.int .i64 pnls),.isl pnb none pcb,.isl pnk none pck,.isl pnd none pcd]:=by rw[ec,hA,B3,Nat.zero_add,hc',Int.toNat_natCast];exact g6
 have l0:List.take 1 (List.drop (A.idx 0 0 1) cb)=[.isl b0n none b0c]:=by rw[show A.idx 0 0 1=0 by rw[hA];rfl];exact gb
 clear hbyt g7 g6 gb hadd
 have es:stdA.wr .i64 c'=c':=by rw[<-hA];exact ec
 with_reducible refine Be hA hd hQ 200 ?hk ?_
 case hk=>trivial
 conv=>arg 9;cbv
 try simp only[OK]
 repeat' first|(with_reducible refine And.intro trivial ?_)|((with_reducible refine⟨fun hbr=>?_,fun hbr=>?_⟩)<;>(try simp(disch:=omega)only[hA,Ba,reduceCtorEq,es,not_false_eq_true]at hbr)<;>(try (with_reducible exfalso;omega)))|((with_reducible refine Bd hA hd hQ 200 ?hk ?_);(case hk=>trivial);(conv=>arg 9;cbv);(try simp only[OK]))|((with_reducible refine Bp ?hn ?_);(case hn=>((simp(disch:=omega)only[hA,Ba,es])<;>omega)))|((refine⟨_,_,?l1,l7,rfl,?_⟩);(case l1=>exact rfl))|((refine⟨_,_,?l1,l6,rfl,?_⟩);(case l1=>exact rfl))|((refine⟨_,_,?l1,l0,rfl,?_⟩);(case l1=>exact rfl))|((refine⟨_,_,?l1,lb,rfl,?_⟩);(case l1=>exact rfl))|((with_reducible refine cO ?hg ?_);(case hg=>with_reducible exact Bb F86_ok);refine tM (o1 _) ?_;rintro _ _ ⟨rfl,rfl⟩)|((with_reducible refine cO ?hg ?_);(case hg=>with_reducible exact Bb F38_ok);(refine tM (ho _ rfl) fun v hh hx=>?_);(obtain⟨z2,⟨hv,hz2⟩,hh⟩:=hx;subst hv;subst hh))
 refine fI_ rfl ⟨z2,_,hz2,rfl,.inr ⟨8,none,_,congrArg (fun q=>EV.tup [EV.agg [.lit (.bool false),.lit (.int .i64 q),.lit (.string ⟨#[]⟩),.sl 4 8 0 1 none],.lit (.bool true)]) ec,rfl,by decide,?_,?_⟩⟩
 ·rw[hA];rfl
 ·rw[hA];rfl
theorem zAO(f:Fld)(d:Dat)(r:Nat)(L:Int)(hp:Dc f.kind d r)(hrm:(r:Int)<=9223372036854775807)(hL2:L<=4194304)(hn:BJ f.kind d r=true)(hk:f.kind≠20)(hL1:16<=L) :
  Tri Tryz.prog gs 38 [.ptr 0 0,.agg (Bo f),.agg (Bs d),.lit (.int .i64 r)] [.blk [.lit (.int .i64 L)]] (RowD (Bw,16) L):=by
 have hnu:=HZ f d r hp hrm
 simp only[hn]at hnu
 clear hn hp
 rw[BF,BL]at *
 refine RowD.ofB ?_
 generalize Bl f.kids=kc,f.kids.length=kn,f.nm=nm,f.nul=nul,f.kind=k,f.width=w,f.id=i,f.idx=ix at *
 generalize d.len=len,d.ofs=ofs,d.nuls=nls,d.bufs.length=nb,Bx d.bufs=cb,d.kids.length=nk,Bi d.kids=ck,d.dict.length=nd,Bi d.dict=cd at *
 obtain⟨r',hr'⟩:∃q:Int,q=r:=⟨_,rfl⟩
 rw[<-hr']at hnu ⊢
 refine Bj F38_ok fun I0 ρ0 w0 Q hρ hQ=>?_
 obtain⟨A,hA⟩:∃A,A=stdA:=⟨_,rfl⟩
 with_reducible refine Be hA hd hQ 200 ?hk ?_
 case hk=>trivial
 conv=>arg 9;cbv
 try simp only[OK]
 repeat' first|((with_reducible refine⟨fun hbr=>?_,fun hbr=>?_⟩)<;>(try simp(disch:=omega)only[hA,Ba,reduceCtorEq]at hbr)<;>(try (with_reducible exfalso;omega)))|((with_reducible refine Bd hA hd hQ 200 ?hk ?_);(case hk=>trivial);(conv=>arg 9;cbv);(try simp only[OK]))|((with_reducible refine cO ?hg ?_);(case hg=>with_reducible exact Bb F57_ok);(refine tM (hnu _) fun v hh hx=>?_);(obtain⟨⟨b,hv,hb⟩,he⟩:=hx;subst hv;subst he;cases b<;>simp(disch:=omega)only[bF,false_iff,eq_self,not_true_eq_false]at hb)<;>(try (with_reducible exfalso;omega)))
 all_goals exact fI_ rfl ⟨_,_,⟨rfl,by simp(disch:=omega)only[hA,Ba]<;>omega⟩,rfl⟩
theorem Wc(f:Fld)(d:Dat)(r:Nat)(L:Int)(hp:Dc f.kind d r)(hrm:(r:Int)<=9223372036854775807)(hL2:L<=4194304)(hk:f.kind=12\/f.kind=13\/f.kind=14)(hn:BJ f.kind d r=false)(x:Val×Nat)(hL1:(16+x.2:Nat)<=L)
  (hc:∀L':Int,(x.2:Int)<=L'->L'<=4194304->Tri Tryz.prog gs 60 [.ptr 0 0,.agg (Bo f),.agg (Bs d),.lit (.int .i64 r)] [.blk [.lit (.int .i64 L')]] (RowD x L')) :
  Tri Tryz.prog gs 38 [.ptr 0 0,.agg (Bo f),.agg (Bs d),.lit (.int .i64 r)] [.blk [.lit (.int .i64 L)]] (RowD (x.1,16+x.2) L):=by
 have hnu:=HZ f d r hp hrm
 simp only[hn,bF]at hnu
 have ho:=fun(h:EH) (hg:Bh h 0 = .blk [.lit (.int .i64 (L-16))])=>RowD.at (post:=[.agg (Bo f),.agg (Bs d),.lit (.int .i64 r)]) (hc (L-16) (by omega) (by omega)) (by rw[BF,BL];rfl) hg
 clear hn hp hc
 rw[BF,BL]at *
 refine RowD.own ?_
 obtain⟨⟨vb,vn,vt,vl⟩,W⟩:=x
 simp only[BK]at ho hL1 ⊢
 generalize vl.length=ln,BE vl=lc at *
 generalize Bl f.kids=kc,f.kids.length=kn,f.nm=nm,f.nul=nul,f.kind=k,f.width=w,f.id=i,f.idx=ix at *
 generalize d.len=len,d.ofs=ofs,d.nuls=nls,d.bufs.length=nb,Bx d.bufs=cb,d.kids.length=nk,Bi d.kids=ck,d.dict.length=nd,Bi d.dict=cd at *
 obtain⟨r',hr'⟩:∃q:Int,q=r:=⟨_,rfl⟩
 rw[<-hr']at hnu ho ⊢
 refine Bj F38_ok fun I0 ρ0 w0 Q hρ hQ=>?_
 obtain⟨A,hA⟩:∃A,A=stdA:=⟨_,rfl⟩
 have e16:L-16=A.ib .sub .i64 L 16:=by simp(disch:=omega)only[hA,Ba]<;>omega
 rw[e16]at ho
 with_reducible refine Be hA hd hQ 200 ?hk ?_
 case hk=>trivial
 conv=>arg 9;cbv
 try simp only[OK]
 repeat' first|((with_reducible refine⟨fun hbr=>?_,fun hbr=>?_⟩)<;>(try simp(disch:=omega)only[hA,Ba,reduceCtorEq]at hbr)<;>(try (with_reducible exfalso;omega)))|((with_reducible refine Bd hA hd hQ 200 ?hk ?_);(case hk=>trivial);(conv=>arg 9;cbv);(try simp only[OK]))|((with_reducible refine cO ?hg ?_);(case hg=>with_reducible exact Bb F57_ok);(refine tM (hnu _) fun v hh hx=>?_);(obtain⟨⟨b,hv,hb⟩,he⟩:=hx;subst hv;subst he;cases b<;>simp(disch:=omega)only[bF,true_iff,eq_self]at hb)<;>(try (with_reducible exfalso;omega)))|((with_reducible refine cO ?hg ?_);(case hg=>with_reducible exact Bb F60_ok);(refine tM (ho _ rfl) fun v hh hx=>?_);(obtain⟨z2,⟨hv,hz2⟩,hh⟩:=hx;subst hv;subst hh))
 all_goals exact fI_ rfl ⟨_,_,⟨rfl,by rw[hz2,<-e16];push_cast;omega⟩,rfl⟩
theorem LG(f:Fld)(d:Dat)(r:Nat)(L:Int)(hp:Dc f.kind d r)(hrm:(r:Int)<=9223372036854775807)(hL2:L<=4194304)(hk:f.kind=15\/f.kind=16\/f.kind=17\/f.kind=18)(hn:BJ f.kind d r=false)(x:Val×Nat)(hL1:(16+x.2:Nat)<=L)
  (hc:∀L':Int,(x.2:Int)<=L'->L'<=4194304->Tri Tryz.prog gs 61 [.ptr 0 0,.agg (Bo f),.agg (Bs d),.lit (.int .i64 r)] [.blk [.lit (.int .i64 L')]] (RowD x L')) :
  Tri Tryz.prog gs 38 [.ptr 0 0,.agg (Bo f),.agg (Bs d),.lit (.int .i64 r)] [.blk [.lit (.int .i64 L)]] (RowD (x.1,16+x.2) L):=by
 have hnu:=HZ f d r hp hrm
 simp only[hn,bF]at hnu
 have ho:=fun(h:EH) (hg:Bh h 0 = .blk [.lit (.int .i64 (L-16))])=>RowD.at (post:=[.agg (Bo f),.agg (Bs d),.lit (.int .i64 r)]) (hc (L-16) (by omega) (by omega)) (by rw[BF,BL];rfl) hg
 clear hn hp hc
 rw[BF,BL]at *
 refine RowD.own ?_
 obtain⟨⟨vb,vn,vt,vl⟩,W⟩:=x
 simp only[BK]at ho hL1 ⊢
 generalize vl.length=ln,BE vl=lc at *
 generalize Bl f.kids=kc,f.kids.length=kn,f.nm=nm,f.nul=nul,f.kind=k,f.width=w,f.id=i,f.idx=ix at *
 generalize d.len=len,d.ofs=ofs,d.nuls=nls,d.bufs.length=nb,Bx d.bufs=cb,d.kids.length=nk,Bi d.kids=ck,d.dict.length=nd,Bi d.dict=cd at *
 obtain⟨r',hr'⟩:∃q:Int,q=r:=⟨_,rfl⟩
 rw[<-hr']at hnu ho ⊢
 refine Bj F38_ok fun I0 ρ0 w0 Q hρ hQ=>?_
 obtain⟨A,hA⟩:∃A,A=stdA:=⟨_,rfl⟩
 have e16:L-16=A.ib .sub .i64 L 16:=by simp(disch:=omega)only[hA,Ba]<;>omega
 rw[e16]at ho
 with_reducible refine Be hA hd hQ 200 ?hk ?_
 case hk=>trivial
 conv=>arg 9;cbv
 try simp only[OK]
 repeat' first|((with_reducible refine⟨fun hbr=>?_,fun hbr=>?_⟩)<;>(try simp(disch:=omega)only[hA,Ba,reduceCtorEq]at hbr)<;>(try (with_reducible exfalso;omega)))|((with_reducible refine Bd hA hd hQ 200 ?hk ?_);(case hk=>trivial);(conv=>arg 9;cbv);(try simp only[OK]))|((with_reducible refine cO ?hg ?_);(case hg=>with_reducible exact Bb F57_ok);(refine tM (hnu _) fun v hh hx=>?_);(obtain⟨⟨b,hv,hb⟩,he⟩:=hx;subst hv;subst he;cases b<;>simp(disch:=omega)only[bF,true_iff,eq_self]at hb)<;>(try (with_reducible exfalso;omega)))|((with_reducible refine cO ?hg ?_);(case hg=>with_reducible exact Bb F61_ok);(refine tM (ho _ rfl) fun v hh hx=>?_);(obtain⟨z2,⟨hv,hz2⟩,hh⟩:=hx;subst hv;subst hh))
 all_goals exact fI_ rfl ⟨_,_,⟨rfl,by rw[hz2,<-e16];push_cast;omega⟩,rfl⟩
theorem zC8(f:Fld)(d:Dat)(r:Nat)(L:Int)(hp:Dc f.kind d r)(hrm:(r:Int)<=9223372036854775807)(hL2:L<=4194304)(hk:3<=f.kind/\f.kind<=11)(hn:BJ f.kind d r=false)(hL1:16<=L)(hb2:2<=d.bufs.length)(hl:(r+1)*Bk f.kind<=(d.buf 1).length)(hm:(d.buf 1).length<=65536)(ha:AllB (d.buf 1)) :
  Tri Tryz.prog gs 38 [.ptr 0 0,.agg (Bo f),.agg (Bs d),.lit (.int .i64 r)] [.blk [.lit (.int .i64 L)]] (RowD (Iz (CI f.kind (d.buf 1) r),16) L):=by
 have hnu:=HZ f d r hp hrm
 simp only[hn,bF]at hnu
 have hpl:=Rx f.kind (d.buf 1) r hk hl hm ha
 have gb:=CA (l:=d.bufs) (j:=1) (by omega)
 change List.take 1 (List.drop 1 (Bx d.bufs))=[isB (d.buf 1)]at gb
 clear hn hp
 generalize CI f.kind (d.buf 1) r=NK at *
 rw[BF,BL]at *
 refine RowD.ofB ?_
 unfold isB at *
 generalize (d.buf 1).length=bn,Br (d.buf 1)=bc at *
 generalize Bl f.kids=kc,f.kids.length=kn,f.nm=nm,f.nul=nul,f.kind=k,f.width=w,f.id=i,f.idx=ix at *
 generalize d.len=len,d.ofs=ofs,d.nuls=nls,d.bufs.length=nb,Bx d.bufs=cb,d.kids.length=nk,Bi d.kids=ck,d.dict.length=nd,Bi d.dict=cd at *
 obtain⟨r',hr'⟩:∃q:Int,q=r:=⟨_,rfl⟩
 rw[<-hr']at hnu hpl ⊢
 refine Bj F38_ok fun I0 ρ0 w0 Q hρ hQ=>?_
 obtain⟨A,hA⟩:∃A,A=stdA:=⟨_,rfl⟩
 have l1:List.take 1 (List.drop (A.idx 0 1 1) cb)=[.isl bn none bc]:=by rw[show A.idx 0 1 1=1 by rw[hA];rfl];exact gb
 with_reducible refine Be hA hd hQ 200 ?hk ?_
 case hk=>trivial
 conv=>arg 9;cbv
 try simp only[OK]
 repeat' first|((with_reducible refine⟨fun hbr=>?_,fun hbr=>?_⟩)<;>(try simp(disch:=omega)only[hA,Ba,reduceCtorEq]at hbr)<;>(try (with_reducible exfalso;omega)))|((with_reducible refine Bd hA hd hQ 200 ?hk ?_);(case hk=>trivial);(conv=>arg 9;cbv);(try simp only[OK]))|((with_reducible refine Bp ?hn ?_);(case hn=>((simp(disch:=omega)only[hA,Ba])<;>omega)))|((refine⟨_,_,?l1,l1,rfl,?_⟩);(case l1=>exact rfl))|((with_reducible refine cO ?hg ?_);(case hg=>with_reducible exact Bb F57_ok);(refine tM (hnu _) fun v hh hx=>?_);(obtain⟨⟨b,hv,hb⟩,he⟩:=hx;subst hv;subst he;cases b<;>simp(disch:=omega)only[bF,true_iff,eq_self]at hb)<;>(try (with_reducible exfalso;omega)))|((with_reducible refine cO ?hg ?_);(case hg=>with_reducible exact Bb F62_ok);refine tM (hpl _) ?_;rintro _ _ ⟨rfl,rfl⟩)
 all_goals exact fI_ rfl ⟨_,_,⟨rfl,by simp(disch:=omega)only[hA,Ba]<;>omega⟩,rfl⟩
theorem zAK(f:Fld)(d:Dat)(r:Nat)(L:Int)(hp:Dc f.kind d r)(hrm:(r:Int)<=9223372036854775807)(hL2:L<=4194304)(hk:f.kind=2)(hn:BJ f.kind d r=false)(hL1:16<=L)(hb2:2<=d.bufs.length)(hl:r/8<(d.buf 1).length)(hm:(d.buf 1).length<=65536)(ha:AllB (d.buf 1)) :
  Tri Tryz.prog gs 38 [.ptr 0 0,.agg (Bo f),.agg (Bs d),.lit (.int .i64 r)] [.blk [.lit (.int .i64 L)]] (RowD (Iz (Ch (d.buf 1) r),16) L):=by
 have hnu:=HZ f d r hp hrm
 simp only[hn,bF]at hnu
 have hx:=ha.get (r/8)
 have hbit:Ch (d.buf 1) r=(d.buf 1).getD (r/8) 0/2^(r%8)%2:=rfl
 have gb:=CA (l:=d.bufs) (j:=1) (by omega)
 change List.take 1 (List.drop 1 (Bx d.bufs))=[isB (d.buf 1)]at gb
 clear hn hp
 rw[BF,BL]at *
 refine RowD.ofB ?_
 unfold isB at *
 obtain⟨bc,hbc⟩:∃c,c=Br (d.buf 1):=⟨_,rfl⟩
 have hLL:∀A,A=stdA->List.take 1 (List.drop (A.idx 0 (A.ib .quo .i64 (r:Int) 8) 1) bc)=[.lit (.int .u8 ((d.buf 1).getD (r/8) 0:Nat))]:=fun A hA=>by
  obtain⟨y,y1,y2⟩:=IK hbc (r/8) (by omega)
  rw[hA,Db _ (by omega) (by omega),B3,Nat.zero_add,Nat.mul_one,show ((r:Int)/8).toNat=r/8 by omega,y1,y2]
 rw[<-hbc]at gb
 generalize (d.buf 1).getD (r/8) 0=X at *
 generalize Ch (d.buf 1) r=B at *
 generalize (d.buf 1).length=bn at *
 generalize Bl f.kids=kc,f.kids.length=kn,f.nm=nm,f.nul=nul,f.kind=k,f.width=w,f.id=i,f.idx=ix at *
 generalize d.len=len,d.ofs=ofs,d.nuls=nls,d.bufs.length=nb,Bx d.bufs=cb,d.kids.length=nk,Bi d.kids=ck,d.dict.length=nd,Bi d.dict=cd at *
 obtain⟨r',hr'⟩:∃q:Int,q=r:=⟨_,rfl⟩
 obtain⟨x,hxx⟩:∃x:Int,x=(X:Nat):=⟨_,rfl⟩
 rw[<-hr']at hnu hLL ⊢
 rw[<-hxx]at hLL
 refine Bj F38_ok fun I0 ρ0 w0 Q hρ hQ=>?_
 obtain⟨A,hA⟩:∃A,A=stdA:=⟨_,rfl⟩
 have l1:List.take 1 (List.drop (A.idx 0 1 1) cb)=[.isl bn none bc]:=by rw[show A.idx 0 1 1=1 by rw[hA];rfl];exact gb
 replace hLL:=hLL A hA
 with_reducible refine Be hA hd hQ 200 ?hk ?_
 case hk=>trivial
 conv=>arg 9;cbv
 try simp only[OK]
 repeat' first|(with_reducible refine OKK.loop ?_)|((with_reducible refine⟨fun hbr=>?_,fun hbr=>?_⟩)<;>(try simp(disch:=omega)only[hA,Ba,reduceCtorEq]at hbr)<;>(try (with_reducible exfalso;omega)))|((with_reducible refine Bd hA hd hQ 200 ?hk ?_);(case hk=>trivial);(conv=>arg 9;cbv);(try simp only[OK]))|((with_reducible refine Bp ?hn ?_);(case hn=>((simp(disch:=omega)only[hA,Ba,Db])<;>omega)))|((refine⟨_,_,?l1,l1,rfl,?_⟩);(case l1=>exact rfl))|((refine⟨_,_,?l1,hLL,rfl,?_⟩);(case l1=>exact rfl))|((with_reducible refine cO ?hg ?_);(case hg=>with_reducible exact Bb F57_ok);(refine tM (hnu _) fun v hh hx=>?_);(obtain⟨⟨b,hv,hb⟩,he⟩:=hx;subst hv;subst he;cases b<;>simp(disch:=omega)only[bF,true_iff,eq_self]at hb)<;>(try (with_reducible exfalso;omega)))
 refine oK_ (msk 174 [3,8,10,15,16]) ?_
 refine oL_ (fun m st=>∃(kk v:Int),st=⟨mkT 174 [(3,.lit (.int .i64 r')),(8,.ptr 3 0),(10,.ptr 4 0),(15,.lit (.int .i64 v)),(16,.lit (.int .i64 kk))],[.blk [.lit (.int .i64 (A.ib .sub .i64 L 16))],.blk [.lit (.string nm),.lit (.bool nul),.lit (.int .i64 k),.lit (.int .i64 w),.lit (.int .i64 i),.lit (.int .i64 ix),.isl kn none kc],.blk [.lit (.int .i64 len),.lit (.int .i64 ofs),.lit (.int .i64 nls),.isl nb none cb,.isl nk none ck,.isl nd none cd],.blk [.lit (.bool false),.lit (.int .i64 0),.lit (.string ⟨#[]⟩),.lit (.slice none 0 0)],.blk [.lit (.bool false),.lit (.int .i64 0),.lit (.string ⟨#[]⟩),.lit (.slice none 0 0)]]⟩/\m=(r'%8-kk).toNat/\0<=kk/\kk<=r'%8/\v=(X/2^kk.toNat:Nat))
  (fun m st hs' ih=>?_) ⟨0,A.wr .i64 x,rfl,rfl,by omega,by omega,by rw[hA,hxx];exact(D6 _ (by omega) (by omega)).trans (by simp)⟩
 obtain⟨kk,v,rfl,hm,hk1,hk2,hv⟩:=hs'
 have hv0:0<=v/\v<=255:=by
  have:=Nat.div_le_self X (2^kk.toNat);rw[hv];generalize X/2^kk.toNat=Z at *;omega
 have hstep:A.ib .quo .i64 v 2=(X/2^(kk.toNat+1):Nat):=by
  rw[hA,Lv _ (by omega) (by omega),hv,Nat.pow_succ,<-Nat.div_div_eq_div_mul];rfl
 have hend:kk=r'%8->A.ib .rem .i64 v 2=B:=fun he=>by rw[hA,K0 _ (by omega) (by omega),hbit,hv,show kk.toNat=r%8 by omega];rfl
 with_reducible refine Be hA hd hQ 200 ?hk ?_
 case hk=>trivial
 conv=>arg 9;cbv
 try simp only[OK]
 repeat' first|(with_reducible refine OKK.again ?_)|((with_reducible refine⟨fun hbr=>?_,fun hbr=>?_⟩)<;>(try simp(disch:=omega)only[hA,Ba,DT]at hbr)<;>(try (with_reducible exfalso;omega)))|((with_reducible refine Bd hA hd hQ 200 ?hk ?_);(case hk=>trivial);(conv=>arg 9;cbv);(try simp only[OK]))|((with_reducible refine Bp ?hn ?_);(case hn=>((simp(disch:=omega)only[hA,Ba])<;>omega)))
 ·refine oK_ (msk 174 [3,8,10,15,16]) (OKs.mv [0,1,2,3,4] [] (by rw[hρ];rfl) ⟨by decide,by simp[Bc],by simp⟩ (ih _ _ ⟨A.ib .add .i64 kk 1,_,rfl,rfl,by simp(disch:=omega)only[hA,Ba]<;>omega,by simp(disch:=omega)only[hA,Ba]<;>omega,?_⟩ (by simp(disch:=omega)only[hA,Ba]<;>omega)))
  rw[show (A.ib .add .i64 kk 1).toNat=kk.toNat+1 by simp(disch:=omega)only[hA,Ba]<;>omega]
  exact hstep
 ·exact fI_ rfl ⟨_,_,⟨congrArg (fun q=>EV.tup [EV.agg [.lit (.bool false),.lit (.int .i64 q),.lit (.string ⟨#[]⟩),.lit (.slice none 0 0)],.lit (.bool true)]) (hend (by omega)),by simp(disch:=omega)only[hA,Ba]<;>omega⟩,rfl⟩
theorem ZL(f:Fld)(d:Dat)(r:Nat)(L:Int)(hp:Dc f.kind d r)(hrm:(r:Int)<=9223372036854775807)(hL2:L<=4194304)(hk:f.kind=19)(hn:BJ f.kind d r=false)(y:Nat)(hk1:0<f.kids.length)(hn1:0<d.dict.length)
  (hy0:∀h:EH,Tri Tryz.prog gs 58 [.agg (Bo f),.agg (Bs d),.lit (.int .i64 r)] h fun v h'=>v = .lit (.int .i64 y)/\h'=h)
  (how:OwnB (f.kids.getD 0 BQ) (d.dict.getD 0 Bf)) (hpo:0<=(d.dict.getD 0 Bf).ofs/\(d.dict.getD 0 Bf).ofs<=4096) (hpl:(d.dict.getD 0 Bf).len<=4096) (hy:(y:Int)<(d.dict.getD 0 Bf).len)
  (hL1:((BB (f.kids.getD 0 BQ) (d.dict.getD 0 Bf) ((d.dict.getD 0 Bf).ofs.toNat+y)).2:Int)<=L) :
  Tri Tryz.prog gs 38 [.ptr 0 0,.agg (Bo f),.agg (Bs d),.lit (.int .i64 r)] [.blk [.lit (.int .i64 L)]] (RowD (BB (f.kids.getD 0 BQ) (d.dict.getD 0 Bf) ((d.dict.getD 0 Bf).ofs.toNat+y)) L):=by
 have hnu:=HZ f d r hp hrm
 simp only[hn,bF]at hnu
 have g7:=D5 f.kids 0 hk1
 have g6:=C5 d.dict 0 hn1
 have g1:=K2 d.dict 0 hn1
 have g0:=Gx d.dict 0 hn1
 have ho:=fun(h:EH) (hg:Bh h 0 = .blk [.lit (.int .i64 L)])=>how.at (L:=L) hy hL1 hL2 hg
 refine RowD.own ?_
 generalize BB (f.kids.getD 0 BQ) (d.dict.getD 0 Bf) ((d.dict.getD 0 Bf).ofs.toNat+y)=X at *
 obtain⟨⟨vb,vn,vt,vl⟩,W⟩:=X
 simp only[BK]at ho hL1 ⊢
 generalize vl.length=ln,BE vl=lc at *
 clear how hn hp
 rw[BF]at *
 rw[BL]at *
 generalize f.kids.getD 0 BQ=pf,d.dict.getD 0 Bf=pd at *
 generalize pd.len=plen,pd.ofs=pofs,pd.nuls=pnls,pd.bufs.length=pnb,Bx pd.bufs=pcb,pd.kids.length=pnk,Bi pd.kids=pck,pd.dict.length=pnd,Bi pd.dict=pcd at *
 generalize Bl pf.kids=pkc,pf.kids.length=pkn,pf.nm=pnm,pf.nul=pnul,pf.kind=pk,pf.width=pw,pf.id=pi,pf.idx=pix at *
 generalize Bl f.kids=kc,f.kids.length=kn,f.nm=nm,f.nul=nul,f.kind=k,f.width=w,f.id=i,f.idx=ix at *
 generalize d.len=len,d.ofs=ofs,d.nuls=nls,d.bufs.length=nb,Bx d.bufs=cb,d.kids.length=nk,Bi d.kids=ck,d.dict.length=nd,Bi d.dict=cd at *
 obtain⟨r',hr'⟩:∃q:Int,q=r:=⟨_,rfl⟩
 obtain⟨y',hy'⟩:∃q:Int,q=y:=⟨_,rfl⟩
 rw[<-hr']at hnu hy0 ⊢
 rw[<-hy']at hy0
 refine Bj F38_ok fun I0 ρ0 w0 Q hρ hQ=>?_
 obtain⟨A,hA⟩:∃A,A=stdA:=⟨_,rfl⟩
 have hadd:((pofs.toNat+y:Nat):Int)=A.ib .add .i64 pofs y':=by simp(disch:=omega)only[hA,Ba]<;>omega
 rw[hadd]at ho
 have l7:List.take 7 (List.drop (A.idx 0 0 7) kc)=[.lit (.string pnm),.lit (.bool pnul),.lit (.int .i64 pk),.lit (.int .i64 pw),.lit (.int .i64 pi),.lit (.int .i64 pix),.isl pkn none pkc]:=by rw[show A.idx 0 0 7=0*7 by rw[hA];rfl];exact g7
 have l6:List.take 6 (List.drop (A.idx 0 0 6) cd)=[.lit (.int .i64 plen),.lit (.int .i64 pofs),.lit (.int .i64 pnls),.isl pnb none pcb,.isl pnk none pck,.isl pnd none pcd]:=by rw[show A.idx 0 0 6=0*6 by rw[hA];rfl];exact g6
 have l1:List.take 1 (List.drop (A.add (A.idx 0 0 6) 1) cd)=[.lit (.int .i64 pofs)]:=by rw[show A.add (A.idx 0 0 6) 1=0*6+1 by rw[hA];rfl];exact g1
 have l0:List.take 1 (List.drop (A.add (A.idx 0 0 6) 0) cd)=[.lit (.int .i64 plen)]:=by rw[show A.add (A.idx 0 0 6) 0=0*6 by rw[hA];rfl];exact g0
 clear g7 g6 g1 g0 hadd
 with_reducible refine Be hA hd hQ 200 ?hk ?_
 case hk=>trivial
 conv=>arg 9;cbv
 try simp only[OK]
 repeat' first|((with_reducible refine⟨fun hbr=>?_,fun hbr=>?_⟩)<;>(try simp(disch:=omega)only[hA,Ba,reduceCtorEq]at hbr)<;>(try (with_reducible exfalso;omega)))|((with_reducible refine Bd hA hd hQ 200 ?hk ?_);(case hk=>trivial);(conv=>arg 9;cbv);(try simp only[OK]))|((with_reducible refine Bp ?hn ?_);(case hn=>((simp(disch:=omega)only[hA,Ba])<;>omega)))|((refine⟨_,_,?l1,l7,rfl,?_⟩);(case l1=>exact rfl))|((refine⟨_,_,?l1,l6,rfl,?_⟩);(case l1=>exact rfl))|((refine⟨_,_,?l1,l1,rfl,?_⟩);(case l1=>exact rfl))|((refine⟨_,_,?l1,l0,rfl,?_⟩);(case l1=>exact rfl))|((with_reducible refine cO ?hg ?_);(case hg=>with_reducible exact Bb F57_ok);(refine tM (hnu _) fun v hh hx=>?_);(obtain⟨⟨b,hv,hb⟩,he⟩:=hx;subst hv;subst he;cases b<;>simp(disch:=omega)only[bF,true_iff,eq_self]at hb)<;>(try (with_reducible exfalso;omega)))|((with_reducible refine cO ?hg ?_);(case hg=>with_reducible exact Bb F58_ok);refine tM (hy0 _) ?_;rintro _ _ ⟨rfl,rfl⟩)|((with_reducible refine cO ?hg ?_);(case hg=>with_reducible exact Bb F38_ok);(refine tM (ho _ rfl) fun v hh hx=>?_);(obtain⟨z2,⟨hv,hz2⟩,hh⟩:=hx;subst hv;subst hh))
 all_goals exact fI_ rfl ⟨_,_,⟨rfl,hz2⟩,rfl⟩
theorem W9(f:Fld)(d:Dat)(r:Nat)(L:Int)(hp:Dc f.kind d r)(hrm:(r:Int)<=9223372036854775807)(hL2:L<=4194304)(hk:f.kind=20)(hn:BJ f.kind d r=false)(y:Nat)(hk1:0<f.kids.length)(hn1:1<d.kids.length)
  (hy0:∀h:EH,Tri Tryz.prog gs 59 [.agg (Bs d),.lit (.int .i64 r)] h fun v h'=>v = .lit (.int .i64 y)/\h'=h)
  (how:OwnB (f.kids.getD 0 BQ) (d.kids.getD 1 Bf)) (hpo:0<=(d.kids.getD 1 Bf).ofs/\(d.kids.getD 1 Bf).ofs<=4096) (hpl:(d.kids.getD 1 Bf).len<=4096) (hy:(y:Int)<(d.kids.getD 1 Bf).len)
  (hL1:((BB (f.kids.getD 0 BQ) (d.kids.getD 1 Bf) ((d.kids.getD 1 Bf).ofs.toNat+y)).2:Int)<=L) :
  Tri Tryz.prog gs 38 [.ptr 0 0,.agg (Bo f),.agg (Bs d),.lit (.int .i64 r)] [.blk [.lit (.int .i64 L)]] (RowD (BB (f.kids.getD 0 BQ) (d.kids.getD 1 Bf) ((d.kids.getD 1 Bf).ofs.toNat+y)) L):=by
 have hnu:=HZ f d r hp hrm
 simp only[hn,bF]at hnu
 have g7:=D5 f.kids 0 hk1
 have g6:=C5 d.kids 1 hn1
 have g1:=K2 d.kids 1 hn1
 have g0:=Gx d.kids 1 hn1
 have ho:=fun(h:EH) (hg:Bh h 0 = .blk [.lit (.int .i64 L)])=>how.at (L:=L) hy hL1 hL2 hg
 refine RowD.own ?_
 generalize BB (f.kids.getD 0 BQ) (d.kids.getD 1 Bf) ((d.kids.getD 1 Bf).ofs.toNat+y)=X at *
 obtain⟨⟨vb,vn,vt,vl⟩,W⟩:=X
 simp only[BK]at ho hL1 ⊢
 generalize vl.length=ln,BE vl=lc at *
 clear how hn hp
 rw[BF]at *
 rw[BL]at *
 generalize f.kids.getD 0 BQ=pf,d.kids.getD 1 Bf=pd at *
 generalize pd.len=plen,pd.ofs=pofs,pd.nuls=pnls,pd.bufs.length=pnb,Bx pd.bufs=pcb,pd.kids.length=pnk,Bi pd.kids=pck,pd.dict.length=pnd,Bi pd.dict=pcd at *
 generalize Bl pf.kids=pkc,pf.kids.length=pkn,pf.nm=pnm,pf.nul=pnul,pf.kind=pk,pf.width=pw,pf.id=pi,pf.idx=pix at *
 generalize Bl f.kids=kc,f.kids.length=kn,f.nm=nm,f.nul=nul,f.kind=k,f.width=w,f.id=i,f.idx=ix at *
 generalize d.len=len,d.ofs=ofs,d.nuls=nls,d.bufs.length=nb,Bx d.bufs=cb,d.kids.length=nk,Bi d.kids=ck,d.dict.length=nd,Bi d.dict=cd at *
 obtain⟨r',hr'⟩:∃q:Int,q=r:=⟨_,rfl⟩
 obtain⟨y',hy'⟩:∃q:Int,q=y:=⟨_,rfl⟩
 rw[<-hr']at hnu hy0 ⊢
 rw[<-hy']at hy0
 refine Bj F38_ok fun I0 ρ0 w0 Q hρ hQ=>?_
 obtain⟨A,hA⟩:∃A,A=stdA:=⟨_,rfl⟩
 have hadd:((pofs.toNat+y:Nat):Int)=A.ib .add .i64 pofs y':=by simp(disch:=omega)only[hA,Ba]<;>omega
 rw[hadd]at ho
 have l7:List.take 7 (List.drop (A.idx 0 0 7) kc)=[.lit (.string pnm),.lit (.bool pnul),.lit (.int .i64 pk),.lit (.int .i64 pw),.lit (.int .i64 pi),.lit (.int .i64 pix),.isl pkn none pkc]:=by rw[show A.idx 0 0 7=0*7 by rw[hA];rfl];exact g7
 have l6:List.take 6 (List.drop (A.idx 0 1 6) ck)=[.lit (.int .i64 plen),.lit (.int .i64 pofs),.lit (.int .i64 pnls),.isl pnb none pcb,.isl pnk none pck,.isl pnd none pcd]:=by rw[show A.idx 0 1 6=1*6 by rw[hA];rfl];exact g6
 have l1:List.take 1 (List.drop (A.add (A.idx 0 1 6) 1) ck)=[.lit (.int .i64 pofs)]:=by rw[show A.add (A.idx 0 1 6) 1=1*6+1 by rw[hA];rfl];exact g1
 have l0:List.take 1 (List.drop (A.add (A.idx 0 1 6) 0) ck)=[.lit (.int .i64 plen)]:=by rw[show A.add (A.idx 0 1 6) 0=1*6 by rw[hA];rfl];exact g0
 clear g7 g6 g1 g0 hadd
 with_reducible refine Be hA hd hQ 200 ?hk ?_
 case hk=>trivial
 conv=>arg 9;cbv
 try simp only[OK]
 repeat' first|((with_reducible refine⟨fun hbr=>?_,fun hbr=>?_⟩)<;>(try simp(disch:=omega)only[hA,Ba]at hbr)<;>(try (with_reducible exfalso;omega)))|((with_reducible refine Bd hA hd hQ 200 ?hk ?_);(case hk=>trivial);(conv=>arg 9;cbv);(try simp only[OK]))|((with_reducible refine Bp ?hn ?_);(case hn=>((simp(disch:=omega)only[hA,Ba])<;>omega)))|((refine⟨_,_,?l1,l7,rfl,?_⟩);(case l1=>exact rfl))|((refine⟨_,_,?l1,l6,rfl,?_⟩);(case l1=>exact rfl))|((refine⟨_,_,?l1,l1,rfl,?_⟩);(case l1=>exact rfl))|((refine⟨_,_,?l1,l0,rfl,?_⟩);(case l1=>exact rfl))|((with_reducible refine cO ?hg ?_);(case hg=>with_reducible exact Bb F57_ok);(refine tM (hnu _) fun v hh hx=>?_);(obtain⟨⟨b,hv,hb⟩,he⟩:=hx;subst hv;subst he;cases b<;>simp(disch:=omega)only[bF,true_iff,eq_self]at hb)<;>(try (with_reducible exfalso;omega)))|((with_reducible refine cO ?hg ?_);(case hg=>with_reducible exact Bb F59_ok);refine tM (hy0 _) ?_;rintro _ _ ⟨rfl,rfl⟩)|((with_reducible refine cO ?hg ?_);(case hg=>with_reducible exact Bb F38_ok);(refine tM (ho _ rfl) fun v hh hx=>?_);(obtain⟨z2,⟨hv,hz2⟩,hh⟩:=hx;subst hv;subst hh))
 all_goals exact fI_ rfl ⟨_,_,⟨rfl,hz2⟩,rfl⟩
theorem ZW{f:Fld}{d:Dat}(h:okP f d)(how:∀j<(Bv d).length,OwnB (Bz f j) (Bn d j))(i:Nat)(hi:i<d.len.toNat)(L:Int)(hn:BJ f.kind d (d.ofs.toNat+i)=false)
  (hL1:((BB f d (d.ofs.toNat+i)).2:Int)<=L) (hL2:L<=4194304) :
  Tri Tryz.prog gs 38 [.ptr 0 0,.agg (Bo f),.agg (Bs d),.lit (.int .i64 (d.ofs.toNat+i:Nat))] [.blk [.lit (.int .i64 L)]] (RowD (BB f d (d.ofs.toNat+i)) L):=by
 have hz:=h.sz
 have hlen:=hz.len
 unfold Cn at hlen
 have hk:1<=f.kind/\f.kind<=20:=by have e:=h.sub.fits;unfold Cl at e;exact⟨e.1,e.2.1⟩
 have hk1:f.kind≠1:=fun e=>by unfold BJ at hn;rw[if_pos e]at hn;simp at hn
 have hw:=h.wpre
 have hnb:=hz.nb
 have hnum:=h.num
 have hnp:=hz.nul (d.ofs.toNat+i) (by omega)
 have hrm:((d.ofs.toNat+i:Nat):Int)<=9223372036854775807:=by omega
 have er:BB f d (d.ofs.toNat+i)=Eb f.kind f.width f.idx d (Cv f.kids (d.parts f.kind)) (d.ofs.toNat+i):=GX _ _ _
 rw[er]at hL1 ⊢
 unfold Eb at hL1 ⊢
 rw[if_neg (by simp[hn])]at hL1 ⊢
 have hpF:f.kind≠20->∀j,Bz f j=f.kids.getD j BQ:=fun e j=>by unfold Bz;rw[if_neg e]
 by_cases c2:f.kind=2
 ·rw[if_pos c2]at hL1 ⊢
  have hb2:d.bufs.length=2:=by rw[c2]at hnb;unfold Cc at hnb;simp at hnb;omega
  have hnd:=hz.need 1 (by omega)
  unfold CS at hnd;rw[if_neg (by omega),if_neg (by omega),if_pos (by omega)]at hnd
  exact zAK f d _ L hnp hrm hL2 c2 hn (by simpa using hL1) (by omega) (by omega) (hz.big 1 (by omega)).1 (hz.big 1 (by omega)).2
 rw[if_neg c2]at hL1 ⊢
 by_cases c11:f.kind<=11
 ·rw[if_pos c11]at hL1 ⊢
  have hb2:d.bufs.length=2:=by unfold Cc at hnb;rw[if_neg (by omega),if_neg (by omega),if_neg (by omega)]at hnb;omega
  have hnd:=hz.need 1 (by omega)
  unfold CS wid at hnd;rw[if_neg (by omega),if_neg (by omega),if_neg (by omega),if_neg (by omega),if_neg (by omega),if_neg (by omega),R8]at hnd
  have hl:(d.ofs.toNat+i+1)*Bk f.kind<=(d.buf 1).length:=by
   have m1:(d.ofs.toNat+i+1)*Bk f.kind<=(d.ofs.toNat+d.len.toNat)*Bk f.kind:=Nat.mul_le_mul_right _ (by omega)
   have e5:d.ofs+d.len=((d.ofs.toNat+d.len.toNat:Nat):Int):=by omega
   rw[e5]at hnd;have:(d.ofs.toNat+d.len.toNat)*Bk f.kind<=(d.buf 1).length:=by exact_mod_cast hnd
   omega
  exact zC8 f d _ L hnp hrm hL2 ⟨by omega,c11⟩ hn (by simpa using hL1) (by omega) hl (hz.big 1 (by omega)).1 (hz.big 1 (by omega)).2
 rw[if_neg c11]at hL1 ⊢
 by_cases c13:f.kind<=13
 ·rw[if_pos c13]at hL1 ⊢
  have hb3:d.bufs.length=3:=by unfold Cc at hnb;rw[if_neg (by omega),if_neg (by omega),if_pos (by omega)]at hnb;omega
  obtain⟨a,b,c⟩:=h.offs (by omega) i hi
  have hb1:=hz.b1 (by omega)
  unfold Ee at c;rw[if_neg (by omega)]at c
  have hwf:f.width=0:=by have e:=h.sub.fits;unfold Cl at e;obtain⟨-, -,e⟩:=e;rw[if_neg (by omega),if_neg (by omega),if_neg (by omega),if_neg (by omega),if_neg (by omega),if_neg (by omega)]at e;exact e.1
  refine Wc f d _ L hnp hrm hL2 (by omega) hn (Gy (txt (d.buf 2) (Bt d (d.ofs.toNat+i)).toNat (Bt d (d.ofs.toNat+i+1)).toNat),(Bt d (d.ofs.toNat+i+1)).toNat-(Bt d (d.ofs.toNat+i)).toNat) hL1 fun L' h1 h2=>?_
  refine zEn f d _ L' (by omega) hwf (by omega) hb3 (by omega) (hz.big 1 (by omega)).1 (hz.big 1 (by omega)).2 (hz.big 2 (by omega)).1 (hz.big 2 (by omega)).2 a b c (fun e=>?_) (by simp only at h1;omega) h2
  rcases (h.row.1 (by omega)).2 e i hi with e1|e1
  ·rw[<-e,hn]at e1;simp at e1
  ·exact e1
 rw[if_neg c13]at hL1 ⊢
 by_cases c14:f.kind=14
 ·rw[if_pos c14]at hL1 ⊢
  have hb2:d.bufs.length=2:=by rw[c14]at hnb;unfold Cc at hnb;simp at hnb;omega
  have hwf:=hw.fit.1 c14;have hnd:=hz.need 1 (by omega)
  unfold CS wid at hnd;rw[if_neg (by omega),if_neg (by omega),if_neg (by omega),if_neg (by omega),if_pos c14]at hnd
  have hl:(d.ofs.toNat+i+1)*f.width.toNat<=(d.buf 1).length:=by
   have m1:(d.ofs.toNat+i+1)*f.width.toNat<=(d.ofs.toNat+d.len.toNat)*f.width.toNat:=Nat.mul_le_mul_right _ (by omega)
   have e5:d.ofs+d.len=((d.ofs.toNat+d.len.toNat:Nat):Int):=by omega
   have e6:f.width=(f.width.toNat:Int):=by omega
   rw[e5,e6]at hnd;have:(d.ofs.toNat+d.len.toNat)*f.width.toNat<=(d.buf 1).length:=by exact_mod_cast hnd
   omega
  refine Wc f d _ L hnp hrm hL2 (by omega) hn (Gy (txt (d.buf 1) ((d.ofs.toNat+i)*f.width.toNat) ((d.ofs.toNat+i+1)*f.width.toNat)),f.width.toNat) hL1 fun L' h1 h2=>?_
  exact zAh f d _ f.width.toNat L' c14 (by omega) (by omega) (by omega) hb2 hl (hz.big 1 (by omega)).1 (hz.big 1 (by omega)).2 h1 h2
 rw[if_neg c14]at hL1 ⊢
 have hsm:∀j<(Bv d).length,f.kind≠20->OwnB (f.kids.getD j BQ) (Bn d j):=fun j hj e=>by rw[<-hpF e];exact how j hj
 by_cases c15:f.kind=15
 ·rw[if_pos c15]at hL1 ⊢
  have hk1:=h.k1 (by omega)
  have hn1:=hnum.1 (by omega)
  have hb1:=hz.b1 (by omega)
  have hpk:=h.kids (by omega)
  have hpl:=h.partL 0 (by omega)
  obtain⟨a,b,c⟩:=h.offs (by omega) i hi
  unfold Ee at c;rw[if_pos c15]at c
  dsimp only at hL1 ⊢
  have how0:=hsm 0 (by omega) (by omega)
  rw[h.row0 (by omega) 0 (by omega),hpF (by omega)]at hL1 ⊢
  have hpd:Bn d 0=d.kids.getD 0 Bf:=by unfold Bn;rw[hpk]
  rw[hpd]at hL1 how0 ⊢;rw[hpk]at hpl;have hsp:=zDc f d (d.ofs.toNat+i) c15 (by rw[<-hpk];omega) (by omega) (by omega) (hz.big 1 (by omega)).1 (hz.big 1 (by omega)).2 a b c
  refine LG f d _ L hnp hrm hL2 (by omega) hn (_,_) hL1 fun L' h1 h2=>?_
  refine UR f d _ _ _ L' (.inl c15) (by omega) (by rw[<-hpk];omega) (fun hh=>?_) how0 (by omega) (by omega) (by omega) (by omega) h1 h2
  rw[Int.toNat_of_nonneg a,Int.toNat_of_nonneg (by omega)]
  exact hsp hh
 rw[if_neg c15]at hL1 ⊢
 by_cases c16:f.kind=16
 ·rw[if_pos c16]at hL1 ⊢
  have hk1:=h.k1 (by omega)
  have hn1:=hnum.1 (by omega)
  have hwf:=hw.fit.2.1 c16;have h16:=h.seg16 c16 i hi;have hpl:=h.partL 0 (by omega)
  have hpk:=h.kids (by omega)
  dsimp only at hL1 ⊢
  have how0:=hsm 0 (by omega) (by omega)
  rw[h.row0 (by omega) 0 (by omega),hpF (by omega)]at hL1 ⊢
  have hpd:Bn d 0=d.kids.getD 0 Bf:=by unfold Bn;rw[hpk]
  rw[hpd]at hL1 how0 ⊢;rw[hpk]at hpl h16;refine LG f d _ L hnp hrm hL2 (by omega) hn (_,_) hL1 fun L' h1 h2=>?_
  exact UR f d _ _ _ L' (.inr c16) (by omega) (by rw[<-hpk];omega) (Yt f d (d.ofs.toNat+i) c16 hwf (by omega)) how0 (by omega) (Nat.mul_le_mul_right _ (by omega)) h16 (by omega) h1 h2
 rw[if_neg c16]at hL1 ⊢
 by_cases c17:f.kind=17
 ·rw[if_pos c17]at hL1 ⊢
  have hn1:=hnum.1 (by omega)
  have hpk:=h.kids (by omega)
  have hp:=h.parts.1 (by omega)
  have hl2:(Cv f.kids (d.parts f.kind)).length=f.kids.length:=La _ _ (by rw[hp];exact hn1.symm)
  have hn2:d.kids.length=f.kids.length:=by rw[<-hpk];exact hn1
  have hnm:=hw.num;rw[C8]at hnm;have hpd:∀k,Bn d k=d.kids.getD k Bf:=fun k=>by unfold Bn;rw[hpk]
  refine LG f d _ L hnp hrm hL2 (by omega) hn (_,_) hL1 fun L' h1 h2=>?_
  refine Yg f d (d.ofs.toNat+i) L' ((Cv f.kids (d.parts f.kind)).map fun h=>h (d.ofs.toNat+i)) c17 (by omega) hn2.symm (by omega) (by rw[List.length_map];omega) (fun k hk=>?_) (fun k hk=>?_) (fun k hk=>?_) (fun k hk=>?_) (by exact h1) h2
  ·have e1:=h.row0 (by omega) k (by omega) (fun _=>(Bw,0))
   rw[hpF (by omega),hpd]at e1
   rw[lG]at e1 ⊢;rw[List.getElem?_map];have hlt:k<(Cv f.kids (d.parts f.kind)).length:=by omega
   rw[lE hlt]at e1 ⊢;simp only[Option.getD_some,Option.map_some]at e1 ⊢;rw[e1]
  ·have:=hsm k (by omega) (by omega)
   rw[hpd]at this;exact this
  ·have:=(hz.kid k hk).2 c17
   omega
  ·have:=h.partL k (by omega)
   rw[hpk]at this;omega
 rw[if_neg c17]at hL1 ⊢
 by_cases c18:f.kind=18
 ·rw[if_pos c18]at hL1 ⊢
  have hn1:=hnum.1 (by omega)
  have hpk:=h.kids (by omega)
  have hb18:=hz.b18 c18;obtain⟨a,b,c⟩:=h.row.2.1 c18 i hi;have hnm:=hw.num;rw[C8]at hnm;have hn2:d.kids.length=f.kids.length:=by rw[<-hpk];exact hn1
  dsimp only at hL1 ⊢
  have how0:=hsm ((d.buf 0).getD (d.ofs.toNat+i) 0) (by omega) (by omega)
  have hpl:=h.partL ((d.buf 0).getD (d.ofs.toNat+i) 0) (by omega)
  rw[h.row0 (by omega) ((d.buf 0).getD (d.ofs.toNat+i) 0) (by omega),hpF (by omega)]at hL1 ⊢
  have hpd:Bn d ((d.buf 0).getD (d.ofs.toNat+i) 0)=d.kids.getD ((d.buf 0).getD (d.ofs.toNat+i) 0) Bf:=by unfold Bn;rw[hpk]
  rw[hpd]at hL1 how0 ⊢;rw[hpk]at hpl;refine LG f d _ L hnp hrm hL2 (by omega) hn (_,_) hL1 fun L' h1 h2=>?_
  exact zBv f d _ _ _ L' c18 (by omega) (by omega) hb18.1 (by omega) (by omega) (hz.big 0 (by omega)).1 (hz.big 0 (by omega)).2 rfl (by omega) (hz.big 1 (by omega)).1 (hz.big 1 (by omega)).2 (by rw[Int.toNat_of_nonneg b]) how0 (by omega) (by omega) (by omega) h1 h2
 rw[if_neg c18]at hL1 ⊢
 by_cases c19:f.kind=19
 ·rw[if_pos c19]at hL1 ⊢
  have hk1:=h.k1 (by omega)
  have hn1:=hnum.1 (by omega)
  have hb19:=hz.b19 c19;obtain⟨a,b,c,_⟩:=h.dic c19 i hi (by simp[hn]) (fun _=>(Bw,0))
  have hpl:=h.partL 0 (by omega)
  have hx:=hw.fit.2.2 c19
  dsimp only at hL1 ⊢
  have how0:=hsm 0 (by omega) (by omega)
  rw[h.row0 (by omega) 0 (by omega),hpF (by omega)]at hL1 ⊢
  have hpd:Bn d 0=d.dict.getD 0 Bf:=by unfold Bn;rw[h.dict c19]
  rw[hpd]at hL1 how0 ⊢;rw[h.dict c19]at hpl c
  have hl:(d.ofs.toNat+i+1)*Bk f.idx<=(d.buf 1).length:=by
   have m1:(d.ofs.toNat+i+1)*Bk f.idx<=(d.ofs.toNat+d.len.toNat)*Bk f.idx:=Nat.mul_le_mul_right _ (by omega)
   omega
  have hnum2:=S6 hx hl (hz.big 1 (by omega)).2 a (by omega)
  exact ZL f d _ L hnp hrm hL2 c19 hn _ (by omega) (by omega) (zCO f d _ _ hx (by omega) hl (hz.big 1 (by omega)).1 (hz.big 1 (by omega)).2 hnum2) how0 (by omega) (by omega) (by omega) (by simpa using hL1)
 have c20:f.kind=20:=by omega
 rw[if_neg c19]at hL1 ⊢
 obtain⟨y,y1,y2,y3,y4,y5⟩:=h.runs c20 i hi
 obtain⟨hn2,hk1⟩:=hnum.2 c20
 have hpk:=h.kids (by omega)
 have hpre:=(hw.run c20).2.2.1
 have hpl:=h.partL 1 (by omega)
 have how1:=how 1 (by omega)
 dsimp only at hL1 ⊢
 rw[h.row20 c20,y4]at hL1 ⊢
 have hpf:Bz f 1=f.kids.getD 0 BQ:=by unfold Bz;rw[if_pos c20,if_neg (by omega)]
 have hpd:Bn d 1=d.kids.getD 1 Bf:=by unfold Bn;rw[hpk]
 rw[hpf,hpd]at hL1 how1 ⊢
 rw[hpk]at hpl y5 hn2
 exact W9 f d _ L hnp hrm hL2 c20 hn y (by omega) (by omega) (zCQ d _ _ y (by omega) rfl hpre (by omega) y2 y3) how1 (by omega) (by omega) (by omega) (by simpa using hL1)
theorem zCW:∀(n:Nat) (f:Fld) (d:Dat),Ct f<=n->okP f d->Cu f->OwnB f d:=by
 intro n
 induction n with
 |zero=>intro f d hd;rw[G0]at hd;omega
 |succ n ih=>
  intro f d hd h hsm i L hi hL1 hL2;have hz:=h.sz;have hlen:=hz.len;unfold Cn at hlen;cases hn:BJ f.kind d (d.ofs.toNat+i)with
  |true=>
   have hk20:f.kind≠20:=fun e=>by
    unfold BJ Cr at hn;rw[e]at hn;simp at hn
   have e:BB f d (d.ofs.toNat+i)=(Bw,16):=by rw[GX];unfold Eb;rw[if_pos hn]
   rw[e]at hL1 ⊢;exact zAO f d _ L (hz.nul _ (by omega)) (by omega) hL2 hn hk20 (by simpa using hL1)
  |false=>
   refine ZW h (fun j hj=>?_) i (by omega) L hn hL1 hL2
   obtain⟨a,b,c⟩:=h.part hsm j hj;exact ih _ _ (by omega) a b
theorem zDh(f:Fld)(d:Dat)(i:Nat)(ho:OwnB f d)(hi:(i:Int)<d.len)(hof:0<=d.ofs/\d.ofs<=4096)(hln:d.len<=4096)(hw:(BB f d (d.ofs.toNat+i)).2<=4194304)(h:EH) :
  Tri Tryz.prog gs 37 [.agg (Bo f),.agg (Bs d),.lit (.int .i64 i)] h fun v h'=>v = .tup [.agg (BK (BB f d (d.ofs.toNat+i)).1),.lit (.bool true)]/\h'=h:=by
 have ho':=fun(id:Nat) (hp:EH) (hg:Bh hp id = .blk [.lit (.int .i64 4194304)])=>ho.at (L:=4194304) hi (by omega) (by omega) hg
 refine Tri.valA (by generalize (BB f d (d.ofs.toNat+i)).1=V;cases V;rfl) (by rw[BF,BL];rfl) ?_ h
 generalize BB f d (d.ofs.toNat+i)=X at *
 obtain⟨⟨vb,vn,vt,vl⟩,W⟩:=X
 simp only[BK]at ho' hw ⊢
 generalize vl.length=ln,BE vl=lc at *
 obtain⟨i',hi'⟩:∃q:Int,q=i:=⟨_,rfl⟩
 have hadd:∀A,A=stdA->((d.ofs.toNat+i:Nat):Int)=A.ib .add .i64 d.ofs i':=fun A hA=>by
  generalize d.ofs=O at *;simp(disch:=omega)only[hA,Ba]<;>omega
 generalize ((d.ofs.toNat+i:Nat):Int)=R at *
 rw[BF,BL]at *
 clear ho
 generalize Bl f.kids=kc,f.kids.length=kn,f.nm=nm,f.nul=nul,f.kind=k,f.width=w,f.id=fi,f.idx=ix at *
 generalize d.len=len,d.ofs=ofs,d.nuls=nls,d.bufs.length=nb,Bx d.bufs=cb,d.kids.length=nk,Bi d.kids=ck,d.dict.length=nd,Bi d.dict=cd at *
 rw[<-hi']
 refine Bj F37_ok fun I0 ρ0 w0 Q hρ hQ=>?_
 obtain⟨A,hA⟩:∃A,A=stdA:=⟨_,rfl⟩
 have hadd:=hadd A hA
 subst hadd
 with_reducible refine Be hA hd hQ 200 ?hk ?_
 case hk=>trivial
 conv=>arg 9;cbv
 try simp only[OK]
 repeat' first|((with_reducible refine Bd hA hd hQ 200 ?hk ?_);(case hk=>trivial);(conv=>arg 9;cbv);(try simp only[OK]))|((with_reducible refine cO ?hg ?_);(case hg=>with_reducible exact Bb F38_ok);(refine tM (ho' _ _ rfl) fun v hh hx=>?_);(obtain⟨z2,⟨hv,hz2⟩,hh⟩:=hx;subst hv;subst hh))
 all_goals exact fI_ rfl rfl
def Cg(f:Fld)(d:Dat):List Val:=(CM f d).map (·.1)
theorem RG(f:Fld)(d:Dat):(CM f d).length=d.len.toNat:=by simp[CM]
theorem JR(f:Fld)(d:Dat)(i:Nat)(hi:i<d.len.toNat)(x:Val×Nat):(CM f d).getD i x=BB f d (d.ofs.toNat+i):=by
 rw[lG];simp[CM,hi]
theorem zCr(f:Fld)(d:Dat)(ho:OwnB f d)(hof:0<=d.ofs/\d.ofs<=4096)(hln:0<=d.len/\d.len<=4096)(hw:BA ((CM f d).map (·.2))<=4194304) :
  Tri Tryz.prog gs 23 [.agg (Bo f++Bs d++[.lit (.int .i64 0),.lit (.int .i64 d.len)])] [] fun v h'=>∃id cap,v = .sl 4 id 0 (Cg f d).length cap/\Bh h' id = .blk (BE (Cg f d)):=by
 obtain⟨Y,hY⟩:∃Y,Y=CM f d:=⟨_,rfl⟩
 have hYl:Y.length=d.len.toNat:=by rw[hY,RG]
 have hs:=fun n=>Jl Y n (Bw,0)
 have hws:=fun n=>HG Y n (Bw,0)
 have hle:=fun n=>HR Y n (Bw,0)
 rw[<-hY]at hw
 have h1:=Hid.mk (fun(k:Nat) (hk:(k:Int)<d.len)=>by
  have:=zDh f d k ho hk hof (by omega) (by rw[<-JR f d k (by omega) (Bw,0),<-hY];have:=hle k (by omega);omega)
  rw[<-JR f d k (by omega) (Bw,0),<-hY]at this
  exact this)
 have h2:=Hid.mk (fun(k:Nat) (hk:(k:Int)<d.len) (L:Int) (h1:((Y.getD k (Bw,0)).2:Int)<=L) (h2:L<=4194304) (id:Nat) (h:EH) (hg:Bh h id = .blk [.lit (.int .i64 L)])=>by
  have:=ho.at (i:=k) (L:=L) hk (by rw[<-JR f d k (by omega) (Bw,0),<-hY];exact h1) h2 hg
  rw[<-JR f d k (by omega) (Bw,0),<-hY]at this
  exact this)
 clear ho
 unfold Cg
 rw[<-hY]
 rw[BF,BL]at *
 simp only[lC,lN]
 clear hY
 generalize Bl f.kids=kc,f.kids.length=kn,f.nm=nm,f.nul=nul,f.kind=k,f.width=w,f.id=i,f.idx=ix at *
 generalize d.len=len,d.ofs=ofs,d.nuls=nls,d.bufs.length=nb,Bx d.bufs=cb,d.kids.length=nk,Bi d.kids=ck,d.dict.length=nd,Bi d.dict=cd at *
 refine Bj F23_ok fun I0 ρ0 w0 Q hρ hQ=>?_
 obtain⟨A,hA⟩:∃A,A=stdA:=⟨_,rfl⟩
 with_reducible refine Be hA hd hQ 200 ?hk ?_
 case hk=>trivial
 conv=>arg 9;cbv
 try simp only[OK]
 repeat' first|(with_reducible refine OKK.loop ?_)
 refine oK_ (msk 57 [1,3,4,5]) (OKs.mv [0,2,1] [] (by rw[hρ];rfl) ⟨by decide,by simp[Bc],by simp⟩ ?_)
 refine oL_ (fun m st=>∃(z:Int) (bn:Nat) (bc:List EV) (LZ:Int) (cap:Option Nat),st=⟨mkT 57 [(1,.ptr 0 0),(3,.sl 4 2 0 bn cap),(4,.ptr 1 0),(5,.lit (.int .i64 z))],[.blk [.lit (.string nm),.lit (.bool nul),.lit (.int .i64 k),.lit (.int .i64 w),.lit (.int .i64 i),.lit (.int .i64 ix),.isl kn none kc,.lit (.int .i64 len),.lit (.int .i64 ofs),.lit (.int .i64 nls),.isl nb none cb,.isl nk none ck,.isl nd none cd,.lit (.int .i64 0),.lit (.int .i64 len)],.blk [.lit (.int .i64 LZ)],.blk bc]⟩/\((bn=0/\cap=some 0)\/cap=none)/\
  m=(len-z).toNat/\0<=z/\z<=len/\bn=z.toNat/\bc=BE ((Y.take bn).map (·.1))/\LZ=4194304-BA ((Y.take bn).map (·.2))) (fun m st hs' ih=>?_) ⟨0,0,[],4194304,some 0,rfl,.inl ⟨rfl,rfl⟩,rfl,by omega,by omega,rfl,rfl,by simp[BA]⟩
 obtain⟨z,bn,bc,LZ,cap,rfl,hcap,hm,hz1,hz2,hbn,hbc,hLZ⟩:=hs'
 have hbl:bc.length=4*bn:=by rw[hbc,Ec,List.length_map,lK];omega
 have hcb:clL bc=true:=by rw[hbc];exact Do _
 have hbe:bc=BE ((Y.take bn).map (·.1)):=hbc
 have h1':Hid (z<len->∀h:EH,_):=Hid.mk fun hzq h=>h1.out bn (by omega) h
 have h2':Hid (z<len->∀(id:Nat) (h:EH),Bh h id = .blk [.lit (.int .i64 LZ)]->_):=Hid.mk fun hzq id h hg=>h2.out bn (by omega) LZ (by have:=hle bn (by omega);omega) (by omega) id h hg
 have hs2:Hid (z<len->BE ((Y.take (bn+1)).map (·.1))=bc++BK (Y.getD bn (Bw,0)).1):=Hid.mk fun hzq=>by rw[hbc];exact hs _ (by omega)
 have hw2:Hid (z<len->((BA ((Y.take (bn+1)).map (·.2)):Nat):Int)=(BA ((Y.take bn).map (·.2)):Nat)+((Y.getD bn (Bw,0)).2:Nat)):=Hid.mk fun hzq=>by rw[hws _ (by omega)];push_cast;rfl
 rw[show ((bn:Nat):Int)=A.ib .add .i64 0 z by simp(disch:=omega)only[hA,Ba]<;>omega]at h1'
 rw[show ((ofs.toNat+bn:Nat):Int)=A.ib .add .i64 (A.ib .add .i64 ofs 0) z by simp(disch:=omega)only[hA,Ba]<;>omega]at h2'
 generalize Y.getD bn (Bw,0)=X at *
 obtain⟨⟨vb,vn,vt,vl⟩,W⟩:=X
 simp only[BK]at h1' h2' hs2 hw2
 generalize vl.length=ln,BE vl=lc at *
 clear hs hws hle h1 h2 hbc
 by_cases hzn:z<len
 ·have h1':=h1'.out hzn
  have h2':=h2'.out hzn
  have hpush:A.app (A.tak (A.mul bn 4) (A.drp 0 bc)) (A.tak (A.mul 1 4) (A.drp 0 [.lit (.bool vb),.lit (.int .i64 vn),.lit (.string vt),.isl ln none lc]))=bc++[.lit (.bool vb),.lit (.int .i64 vn),.lit (.string vt),.isl ln none lc]:=by
   rw[hA];simp only[DL,C7,CV,CT,List.drop_zero];rw[lT (by omega)]
   rfl
  have eb:A.add bn 1=bn+1:=by rw[hA];rfl
  rcases hcap with ⟨h0,rfl⟩|rfl
  all_goals
   with_reducible refine Be hA hd hQ 200 ?hk ?_
   case hk=>trivial
   conv=>arg 9;cbv
   try simp only[OK]
   repeat' first|(with_reducible refine OKK.again ?_)|((with_reducible refine⟨fun hbr=>?_,fun hbr=>?_⟩)<;>(try simp(disch:=omega)only[hA,Ba]at hbr)<;>(try (with_reducible exfalso;omega)))|((with_reducible refine Bd hA hd hQ 200 ?hk ?_);(case hk=>trivial);(conv=>arg 9;cbv);(try simp only[OK]))|((with_reducible refine Bp ?hn ?_);(case hn=>((simp(disch:=omega)only[hA,Ba])<;>omega)))|((with_reducible refine cO ?hg ?_);(case hg=>with_reducible exact Bb F37_ok);refine tM (h1' _) ?_;rintro _ _ ⟨rfl,rfl⟩)|((with_reducible refine cO ?hg ?_);(case hg=>with_reducible exact Bb F38_ok);(refine tM (h2' _ _ rfl) fun v hh hx=>?_);(obtain⟨z2,⟨hv,hz2⟩,hh⟩:=hx;subst hv;subst hh))
  all_goals
   refine oK_ (msk 57 [1,3,4,5]) (OKs.mv [0,1,5] [] (by rw[hρ];rfl) ⟨by decide,by simp[Bc],by simp⟩ (ih _ _ ⟨A.ib .add .i64 z 1,A.add bn 1,_,z2,none,rfl,.inr rfl,rfl,?_,?_,?_,?_,?_⟩ ?_))
   ·simp(disch:=omega)only[hA,Ba];omega
   ·simp(disch:=omega)only[hA,Ba];omega
   ·rw[eb];simp(disch:=omega)only[hA,Ba];omega
   ·rw[eb,hs2.out (by omega)]
    exact(congrArg _ hpush).trans (BR _ _ _ (by rw[<-hs2.out (by omega)];exact Do _))
   ·rw[eb,hw2.out (by omega)];omega
   ·simp(disch:=omega)only[hA,Ba];omega
 ·have hbY:Y.take bn=Y:=lT (by omega)
  with_reducible refine Be hA hd hQ 200 ?hk ?_
  case hk=>trivial
  conv=>arg 9;cbv
  try simp only[OK]
  repeat' first|((with_reducible refine⟨fun hbr=>?_,fun hbr=>?_⟩)<;>(try simp(disch:=omega)only[hA,Ba]at hbr)<;>(try (with_reducible exfalso;omega)))|((with_reducible refine Bd hA hd hQ 200 ?hk ?_);(case hk=>trivial);(conv=>arg 9;cbv);(try simp only[OK]))
  refine fI_ rfl ⟨2,cap,?_,?_⟩
  ·rw[List.length_map,show Y.length=bn by omega];rfl
  ·rw[<-hbY,<-hbe];rfl
theorem zCo(f:Fld)(d:Dat)(ho:OwnB f d)(hof:0<=d.ofs/\d.ofs<=4096)(hln:0<=d.len/\d.len<=4096)(hw:BA ((CM f d).map (·.2))<=4194304) :
  Tri Tryz.prog gs 23 [.agg (Bo f++Bs d++[.lit (.int .i64 0),.lit (.int .i64 d.len)])] [] fun v h'=>v = .sl 4 0 0 (Cg f d).length none/\h'=[.blk (BE (Cg f d))]:=
 Tri.up (R:=fun v h'=>∃cap,v = .sl 4 0 0 (Cg f d).length cap/\h'=[.blk (BE (Cg f d))]) (Tri.mv (zCr f d ho hof hln hw) fun v h' hx=>by
  obtain⟨id,cap,rfl,hg⟩:=hx;refine⟨[id],[],rfl,⟨by simp,fun i hi=>?_,by simp⟩,cap,by simp[mvE,mvG,inL,ixL],by simp[mvH,hg,mvO,inL,BR _ _ _ (Do _)]⟩
  simp at hi;subst hi;exact II (by rw[hg];simp)) fun v h' ⟨cap,h1,h2⟩=>⟨_,⟨rfl,h2⟩,by rw[h1];exact Up.scap _ _ _ _ _⟩
theorem zB5(f:Fld)(d:Dat)(h:EH):Tri Tryz.prog gs 22 [.agg (Bo f),.agg (Bs d)] h fun v h'=>v = .agg (Bo f++Bs d++[.lit (.int .i64 0),.lit (.int .i64 d.len)])/\h'=h:=by
 refine Tri.valA (by rw[BF,BL];rfl) (by rw[BF,BL];rfl) ?_ h
 rw[BF,BL]
 simp only[lC,lN]
 generalize Bl f.kids=kc,f.kids.length=kn,f.nm=nm,f.nul=nul,f.kind=k,f.width=w,f.id=i,f.idx=ix at *
 generalize d.len=len,d.ofs=ofs,d.nuls=nls,d.bufs.length=nb,Bx d.bufs=cb,d.kids.length=nk,Bi d.kids=ck,d.dict.length=nd,Bi d.dict=cd at *
 refine Bj F22_ok fun I0 ρ0 w0 Q hρ hQ=>?_
 obtain⟨A,hA⟩:∃A,A=stdA:=⟨_,rfl⟩
 with_reducible refine Be hA hd hQ 200 ?hk ?_
 case hk=>trivial
 conv=>arg 9;cbv
 try simp only[OK]
 all_goals exact fI_ rfl rfl
theorem zAa(f:Fld)(d:Dat)(ho:OwnB f d)(hof:0<=d.ofs/\d.ofs<=4096)(hln:0<=d.len/\d.len<=4096)(hw:BA ((CM f d).map (·.2))<=4194304) :
  Tri Tryz.prog gs 8 [.agg (Bo f),.agg (Bs d)] [] fun v h'=>v = .sl 4 2 0 (Cg f d).length none/\∃a b,h'=[a,b,.blk (BE (Cg f d))]:=by
 have h1:=zB5 f d
 have h2:=zCo f d ho hof hln hw
 have hcl:=Do (Cg f d)
 clear ho hw
 rw[BF,BL]at *
 simp only[lC,lN]at h1 h2
 generalize (Cg f d).length=vn,BE (Cg f d)=vc at *
 generalize Bl f.kids=kc,f.kids.length=kn,f.nm=nm,f.nul=nul,f.kind=k,f.width=w,f.id=i,f.idx=ix at *
 generalize d.len=len,d.ofs=ofs,d.nuls=nls,d.bufs.length=nb,Bx d.bufs=cb,d.kids.length=nk,Bi d.kids=ck,d.dict.length=nd,Bi d.dict=cd at *
 refine Bj F8_ok fun I0 ρ0 w0 Q hρ hQ=>?_
 obtain⟨A,hA⟩:∃A,A=stdA:=⟨_,rfl⟩
 with_reducible refine Be hA hd hQ 200 ?hk ?_
 case hk=>trivial
 conv=>arg 9;cbv
 try simp only[OK]
 repeat' first|((with_reducible refine Bd hA hd hQ 200 ?hk ?_);(case hk=>trivial);(conv=>arg 9;cbv);(try simp only[OK]))|((with_reducible refine cO ?hg ?_);(case hg=>with_reducible exact Bb F22_ok);refine tM (h1 _) ?_;rintro _ _ ⟨rfl,rfl⟩)
 refine cO (Bb F23_ok) (tM (Tri.sub [] [] ⟨by simp,by simp,by simp⟩ (by simp) h2 (.inl rfl)) fun v hh hx=>?_)
 obtain⟨v0,h0,⟨hv0,hh0⟩,hv,hh'⟩:=hx
 subst hv0;subst hh0
 have hh2:=hh'.trans (show _=[EO.blk [.lit (.string nm),.lit (.bool nul),.lit (.int .i64 k),.lit (.int .i64 w),.lit (.int .i64 i),.lit (.int .i64 ix),.isl kn none kc],.blk [.lit (.int .i64 len),.lit (.int .i64 ofs),.lit (.int .i64 nls),.isl nb none cb,.isl nk none ck,.isl nd none cd],.blk vc]from by
  show [_,_,EO.blk (mvL _ _ vc)]=_;rw[BR _ _ _ hcl];rfl)
 clear hh'
 subst hv;subst hh2
 with_reducible refine Bd hA hd hQ 1 ?hk ?_
 case hk=>trivial
 conv=>arg 9;cbv
 try simp only[OK]
 repeat' first|((with_reducible refine Bd hA hd hQ 200 ?hk ?_);(case hk=>trivial);(conv=>arg 9;cbv);(try simp only[OK]))
 all_goals exact fI_ rfl ⟨rfl,_,_,rfl⟩
theorem zBe(f:Fld)(d:Dat)(ho:OwnB f d)(hof:0<=d.ofs/\d.ofs<=4096)(hln:0<=d.len/\d.len<=4096)(hw:BA ((CM f d).map (·.2))<=4194304) :
  Tri Tryz.prog gs 8 [.agg (Bo f),.agg (Bs d)] [] fun v h'=>v = .sl 4 0 0 (Cg f d).length none/\h'=[.blk (BE (Cg f d))]:=
 Tri.mv (zAa f d ho hof hln hw) fun v h' hx=>by
  obtain⟨rfl,a,b,rfl⟩:=hx;exact⟨[2],[],rfl,⟨by simp,by simp[Bc],by simp⟩,rfl,by simp[mvH,Bh,mvO,inL,BR _ _ _ (Do _)]⟩
theorem V9(g:Nat->Option Nat)(h0:EH):∀(l:EH) (k:Nat),E4 [] g h0 l k=l
 |[],_=>rfl
 |o::l,k=>by simp[E4,ixL,V9 g h0 l (k+1)]
theorem Tri.ownC{P:Program}{G:List (List EV)}{f:FuncId}{args:List EV}{es n:Nat}{C:List EV}(t:Tri P G f args [] fun v h'=>v = .sl es 0 0 n none/\h'=[.blk C])(hc:clL C=true)(ha:clL args=true)(h:EH) :
  Tri P G f args h fun v h'=>v = .sl es (Bc h) 0 n none/\h'=B0 h (.blk C):=by
 refine tM (Tri.sub [] [] ⟨by simp,by simp,by simp⟩ (by simp) (by rw[BR _ _ _ ha];exact t) (.inl rfl)) fun v h' hx=>?_
 obtain⟨v0,h0,⟨hv0,hh0⟩,hv,hh'⟩:=hx
 subst hv0;subst hh0;subst hv;subst hh'
 refine⟨by simp[mvE,bkG],?_⟩
 unfold En
 rw[V9]
 show B0 h (.blk (mvL _ _ C))=_
 rw[BR _ _ _ hc]
end Go.Proofs.YtehgpabfgjofhaaGreatDoor.Stats
