/- No conditions. -/
import Derived.Test.YtehgpabfgjofhaaGreatDoorMd
import Derived.Test.YtehgpabfgjofhaaGreatDoorX40
import Derived.Shelf.Small.Strs
set_option linter.unusedVariables false
set_option linter.unusedSimpArgs false
set_option maxRecDepth 100000
set_option maxHeartbeats 16000000
namespace Go.Proofs.YtehgpabfgjofhaaGreatDoor.Stats
open Go Go.Proofs.YtehgpabfgjofhaaGreatDoor Go.Proofs.YtehgpabfgjofhaaGreatDoor.Em Go.Proofs
theorem PA:∀a b:List Val,BE (a++b)=BE a++BE b
 |[],b=>rfl
 |v::a,b=>by simp only[lC,BE,PA a b,lA]
theorem Do(l:List Val):clL (BE l)=true:=by
 induction l with
 |nil=>rfl
 |cons v l ih=>
  refine Dj fun x hx=>?_
  rw[BE]at hx;rcases List.mem_append.1 hx with hx|hx
  ·cases v with
   |mk b n s m=>
    simp only[BK,List.mem_cons,List.not_mem_nil,or_false]at hx;rcases hx with rfl|rfl|rfl|rfl<;>rfl
  ·exact Et ih x hx
theorem KQ{α:Type}(l:List α)(n:Nat)(d:α)(h:n<l.length):l.take (n+1)=l.take n++[l.getD n d]:=by
 rw[List.take_add_one,lG,lE h];rfl
theorem Jl(Y:List (Val×Nat))(n:Nat)(d:Val×Nat)(h:n<Y.length):BE ((Y.take (n+1)).map (·.1))=BE ((Y.take n).map (·.1))++BK (Y.getD n d).1:=by
 rw[KQ Y n d h,List.map_append,PA];simp[BE]
theorem HG(Y:List (Val×Nat))(n:Nat)(d:Val×Nat)(h:n<Y.length):BA ((Y.take (n+1)).map (·.2))=BA ((Y.take n).map (·.2))+(Y.getD n d).2:=by
 rw[KQ Y n d h,List.map_append,KX];rfl
theorem HR(Y:List (Val×Nat))(n:Nat)(d:Val×Nat)(h:n<Y.length):BA ((Y.take n).map (·.2))+(Y.getD n d).2<=BA (Y.map (·.2)):=by
 rw[<-HG Y n d h,List.map_take];exact JI _ _
theorem Tz(g:Nat->Val×Nat)(p q:Nat):(Dp g p q).length=q-p:=by simp[Dp]
theorem Vw(g:Nat->Val×Nat)(p q n:Nat)(h:n<q-p)(d:Val×Nat):(Dp g p q).getD n d=g (p+n):=by
 rw[lG];simp[Dp,h]
abbrev TN(bn:Nat)(bc:List EV)(lv:EV)(tl:EH):Prop:=(bn=0/\lv = .lit (.slice none 0 0)/\tl=[])\/(lv = .sl 4 4 0 bn none/\tl=[.blk bc])
theorem ReadR.lst2{P:Program}{G:List (List EV)}{f:FuncId}{args:List EV}{L n:Int}{l:List Val}{w:Nat}
  (t:Tri P G f args [.blk [.lit (.int .i64 L)]] fun v h'=>∃z tl,z=L-(w:Nat)/\h' = .blk [.lit (.int .i64 z)]::tl/\((l=[]/\v = .agg [.lit (.bool false),.lit (.int .i64 n),.lit (.string ⟨#[]⟩),.lit (.slice none 0 0)])\/
   ∃id cap Z,v = .agg [.lit (.bool false),.lit (.int .i64 n),.lit (.string ⟨#[]⟩),.sl 4 id 0 l.length cap]/\Bh h' id = .blk Z/\id≠0/\Z.take (4*l.length)=BE l/\clL Z=true)) :
  Tri P G f args [.blk [.lit (.int .i64 L)]] (ReadR (.mk false n ⟨#[]⟩ l,w) L):=by
 refine Tri.up (R:=fun v h'=>∃y,v = .agg [.lit (.bool false),.lit (.int .i64 n),.lit (.string ⟨#[]⟩),y]/\Up y (.isl l.length none (BE l))/\h'=[.blk [.lit (.int .i64 (L-(w:Nat)))]]) (Tri.mv t fun v h' hx=>?_) (fun v h' ⟨y,h1,h2,h3⟩=>?_)
 ·obtain⟨z,tl,rfl,rfl,⟨hl,rfl⟩|⟨id,cap,Z,rfl,hg,hid,hz,hc⟩⟩:=hx
  ·subst hl
   refine⟨[0],[],rfl,⟨by simp,by simp[Bc],by simp⟩,_,rfl,Up.nil _,?_⟩
   simp[mvH,Bh,mvO,inL,mvL,mvE]
  ·refine⟨[0],[id],rfl,⟨by simp,by simp[Bc],fun i hi=>?_⟩,.isl l.length cap Z,?_,?_,?_⟩
   ·simp at hi;subst hi;exact⟨_,hg,hc⟩
   ·simp[mvE,mvL,mvG,mvZ,inL,hg]
   ·rw[<-hz];exact Up.trans (Up.cap _ _ _) (Up.pre _ _ _ _)
   ·simp[mvH,Bh,mvO,inL,hid,mvL,mvE]
 ·subst h1
  exact⟨_,⟨_,⟨rfl,rfl⟩,h3⟩,Up.vcell h2⟩
theorem TY(f:Fld)(d:Dat)(a b:Int)(r p q:Nat)(L:Int)(hk:f.kind=15\/f.kind=16)(hk1:0<f.kids.length)(hn:0<(Bv d).length)
  (hit:∀h:EH,Tri Tryz.prog gs 163 [BT f d a b,.lit (.int .i64 r)] h fun v h'=>v = .tup [.lit (.int .i64 p),.lit (.int .i64 q)]/\h'=h)
  (how:OwnR (Bz f 0) (Bn d 0)) (hpq:p<=q) (hq:(q:Int)<=(Bn d 0).len) (hql:q<=4096)
  (hL1:16+(BA ((Dp (fun i=>BB (Bz f 0) (Bn d 0) ((Bn d 0).ofs.toNat+i)) p q).map (·.2)):Int)<=L) (hL2:L<=4194304) :
  Tri Tryz.prog gs 162 [.agg [],BT f d a b,.lit (.int .i64 r),.ptr 0 0] [.blk [.lit (.int .i64 L)]]
   (ReadR (EG 0 ((Dp (fun i=>BB (Bz f 0) (Bn d 0) ((Bn d 0).ofs.toNat+i)) p q).map (·.1)),16+BA ((Dp (fun i=>BB (Bz f 0) (Bn d 0) ((Bn d 0).ofs.toNat+i)) p q).map (·.2))) L):=by
 have hp:=I4 f d a b 0 hn (fun e=>absurd e (by omega)) (fun _=>hk1)
 unfold Hm at hp
 obtain⟨Y,hY⟩:∃Y,Y=Dp (fun i=>BB (Bz f 0) (Bn d 0) ((Bn d 0).ofs.toNat+i)) p q:=⟨_,rfl⟩
 have hYl:Y.length=q-p:=by rw[hY,Tz]
 have ho:=Hid.mk (fun(z:Int) (hz:p<=z/\z<q) (L:Int) (h1:((Y.getD (z.toNat-p) (Bw,0)).2:Int)<=L) (h2:L<=4194304) (h:EH) (hg:Bh h 0 = .blk [.lit (.int .i64 L)])=>by
  have e:Y.getD (z.toNat-p) (Bw,0)=BB (Bz f 0) (Bn d 0) ((Bn d 0).ofs.toNat+z.toNat):=by rw[hY,Vw _ _ _ _ (by omega),show p+(z.toNat-p)=z.toNat by omega]
  have:=how.at (i:=z.toNat) (L:=L) (by omega) (by rw[<-e];exact h1) h2 hg
  rw[<-e,Int.toNat_of_nonneg (show 0<=z by omega)]at this
  exact this)
 rw[<-hY]at hL1 ⊢
 refine ReadR.lst2 ?_
 unfold BT at *
 have hs:=fun n=>Jl Y n (Bw,0)
 have hw:=fun n=>HG Y n (Bw,0)
 have hle:=fun n=>HR Y n (Bw,0)
 generalize B2 f d a b=AC,B2 (Bz f 0) (Bn d 0) (Bn d 0).ofs (Bn d 0).len=PC at *
 obtain⟨r',hr'⟩:∃q:Int,q=r:=⟨_,rfl⟩
 obtain⟨p',hp'⟩:∃q:Int,q=p:=⟨_,rfl⟩
 obtain⟨q',hq'⟩:∃x:Int,x=q:=⟨_,rfl⟩
 rw[<-hr']at hit ⊢
 rw[<-hp',<-hq']at hit
 refine Bj F162_ok fun I0 ρ0 w0 Q hρ hQ=>?_
 obtain⟨A,hA⟩:∃A,A=stdA:=⟨_,rfl⟩
 with_reducible refine Be hA hd hQ 200 ?hk ?_
 case hk=>trivial
 conv=>arg 9;cbv
 try simp only[OK]
 repeat' first|(with_reducible refine OKK.loop ?_)|((with_reducible refine Bd hA hd hQ 200 ?hk ?_);(case hk=>trivial);(conv=>arg 9;cbv);(try simp only[OK]))|((with_reducible refine cO ?hg ?_);(case hg=>with_reducible exact Bb F164_ok);refine tM (hp _) ?_;rintro _ _ ⟨rfl,rfl⟩)|((with_reducible refine cO ?hg ?_);(case hg=>with_reducible exact Bb F163_ok);refine tM (hit _) ?_;rintro _ _ ⟨rfl,rfl⟩)|((with_reducible refine cO ?hg ?_);(case hg=>with_reducible exact Bb F103_ok);(refine tM (Gd L 16 (by omega) (by omega) (by omega) rfl) fun v hh hx=>?_);(obtain⟨z,⟨hv,hz⟩,hh⟩:=hx;subst hv;subst hh))
 refine oK_ (msk 40 [3,8,9,11,12,13]) ?_
 refine oL_ (fun m st=>∃(z:Int) (bn:Nat) (bc:List EV) (LZ:Int),(∃lv tl,TN bn bc lv tl/\st=⟨mkT 40 [(3,.ptr 0 0),(8,.ptr 2 0),(9,.ptr 3 0),(11,.lit (.int .i64 q')),(12,.iptr PC 0),(13,.lit (.int .i64 z))],.blk [.lit (.int .i64 LZ)] :: .blk [] :: .blk [.lit (.bool false),.lit (.int .i64 0),.lit (.string ⟨#[]⟩),.lit (.slice none 0 0)] :: .blk [.lit (.bool false),.lit (.int .i64 0),.lit (.string ⟨#[]⟩),lv]::tl⟩)/\
  m=(q'-z).toNat/\p'<=z/\z<=q'/\bn=(z-p').toNat/\bc=BE ((Y.take bn).map (·.1))/\LZ=L-16-BA ((Y.take bn).map (·.2))) (fun m st hs' ih=>?_) ⟨p',0,[],z,⟨_,_,.inl ⟨rfl,rfl,rfl⟩,rfl⟩,rfl,by omega,by omega,by omega,rfl,by rw[hz];simp[BA]⟩
 clear hz z
 obtain⟨z,bn,bc,LZ,⟨lv,tl,hst,rfl⟩,hm,hz1,hz2,hbn,hbc,hLZ⟩:=hs'
 have hbl:bc.length=4*bn:=by rw[hbc,Ec,List.length_map,lK];omega
 have hcb:clL bc=true:=by rw[hbc];exact Do _
 have hbe:bc=BE ((Y.take bn).map (·.1)):=hbc
 have ho':Hid (z<q'->∀h:EH,Bh h 0 = .blk [.lit (.int .i64 LZ)]->_):=Hid.mk fun hzq h hg=>ho.out z (by omega) LZ (by have:=hle bn (by omega);rw[show z.toNat-p=bn by omega];omega) (by omega) h hg
 have hs2:Hid (z<q'->BE ((Y.take (bn+1)).map (·.1))=bc++BK (Y.getD bn (Bw,0)).1):=Hid.mk fun hzq=>by rw[hbc];exact hs _ (by omega)
 have hw2:Hid (z<q'->((BA ((Y.take (bn+1)).map (·.2)):Nat):Int)=(BA ((Y.take bn).map (·.2)):Nat)+((Y.getD bn (Bw,0)).2:Nat)):=Hid.mk fun hzq=>by rw[hw _ (by omega)];push_cast;rfl
 rw[show z.toNat-p=bn by omega]at ho'
 generalize Y.getD bn (Bw,0)=X at *
 obtain⟨⟨vb,vn,vt,vl⟩,W⟩:=X
 simp only[BK]at ho' hs2 hw2
 generalize vl.length=ln,BE vl=lc at *
 clear hs hw hle ho hbc
 rcases hst with ⟨h0,rfl,rfl⟩|⟨rfl,rfl⟩
 all_goals
  with_reducible refine Be hA hd hQ 200 ?hk ?_
  case hk=>trivial
  conv=>arg 9;cbv
  try simp only[OK]
  repeat' first|(with_reducible refine OKK.again ?_)|(with_reducible refine And.intro trivial ?_)|((with_reducible refine⟨fun hbr=>?_,fun hbr=>?_⟩)<;>(try simp(disch:=omega)only[hA,Ba,reduceCtorEq]at hbr)<;>(try (with_reducible exfalso;omega)))|((with_reducible refine Bd hA hd hQ 200 ?hk ?_);(case hk=>trivial);(conv=>arg 9;cbv);(try simp only[OK]))|((with_reducible refine Bp ?hn ?_);(case hn=>((simp(disch:=omega)only[hA,Ba])<;>omega)))|((with_reducible refine cO ?hg ?_);(case hg=>with_reducible exact Bb F51_ok);(refine tM ((ho'.out (by omega)) _ rfl) fun v hh hx=>?_);(obtain⟨z2,⟨hv,hz2⟩,hh⟩:=hx;subst hv;subst hh))
 ·refine oK_ (msk 40 [3,8,9,11,12,13]) (OKs.mv [0,1,2,3,5] [] (by rw[hρ];rfl) ⟨by decide,by simp[Bc],by simp⟩ (ih _ _ ⟨A.ib .add .i64 z 1,bn+1,_,z2,⟨_,_,.inr ⟨by rw[h0];rfl,rfl⟩,rfl⟩,rfl,?_,?_,?_,?_,?_⟩ ?_))
  ·simp(disch:=omega)only[hA,Ba];omega
  ·simp(disch:=omega)only[hA,Ba];omega
  ·simp(disch:=omega)only[hA,Ba];omega
  ·have hb0:bc=[]:=List.length_eq_zero_iff.1 (by omega)
   rw[hs2.out (by omega),hb0,lN,hA]
   exact BR _ _ _ rfl
  ·rw[hw2.out (by omega)];omega
  ·simp(disch:=omega)only[hA,Ba];omega
 ·refine fI_ rfl ⟨_,_,?_,rfl,.inl ⟨?_,rfl⟩⟩
  ·have:Y=[]:=List.length_eq_zero_iff.1 (by omega)
   rw[hLZ,this];simp[BA]
  ·have:Y=[]:=List.length_eq_zero_iff.1 (by omega)
   rw[this];rfl
 ·have hpush:A.app (A.tak (A.mul bn 4) (A.drp 0 bc)) (A.tak (A.mul 1 4) (A.drp 0 [.lit (.bool vb),.lit (.int .i64 vn),.lit (.string vt),.isl ln none lc]))=bc++[.lit (.bool vb),.lit (.int .i64 vn),.lit (.string vt),.isl ln none lc]:=by
   rw[hA];simp only[DL,C7,CV,CT,List.drop_zero];rw[lT (by omega)]
   rfl
  refine oK_ (msk 40 [3,8,9,11,12,13]) (OKs.mv [0,1,2,3,6] [] (by rw[hρ];rfl) ⟨by decide,by simp[Bc],by simp⟩ (ih _ _ ⟨A.ib .add .i64 z 1,bn+1,_,z2,⟨_,_,.inr ⟨by rw[hA];rfl,rfl⟩,rfl⟩,rfl,?_,?_,?_,?_,?_⟩ ?_))
  ·simp(disch:=omega)only[hA,Ba];omega
  ·simp(disch:=omega)only[hA,Ba];omega
  ·simp(disch:=omega)only[hA,Ba];omega
  ·rw[hs2.out (by omega)]
   exact(congrArg _ hpush).trans (BR _ _ _ (by rw[<-hs2.out (by omega)];exact Do _))
  ·rw[hw2.out (by omega)];omega
  ·simp(disch:=omega)only[hA,Ba];omega
 ·refine fI_ rfl ⟨_,_,?_,rfl,.inr ⟨4,none,bc,?_,rfl,by decide,?_,hcb⟩⟩
  all_goals have hbY:Y.take bn=Y:=lT (by omega)
  ·rw[hLZ,hbY];push_cast;omega
  ·rw[List.length_map,show Y.length=bn by omega]
  ·rw[List.length_map,hbe,hbY,lT (by rw[Ec,List.length_map];omega)]
theorem zEi(f:Fld)(d:Dat)(a b:Int)(r:Nat)(L:Int)(Y:List (Val×Nat))(hk:f.kind=17)(hpa:Bv d=d.kids)(hk1:f.kids.length=d.kids.length)(hnk:d.kids.length<=128)
  (hYl:Y.length=d.kids.length) (hY:∀k,k<d.kids.length->Y.getD k (Bw,0)=BB (Bz f k) (Bn d k) ((Bn d k).ofs.toNat+r))
  (how:∀k,k<d.kids.length->OwnR (Bz f k) (Bn d k)) (hr:∀k,k<d.kids.length->(r:Int)<(Bn d k).len)
  (hL1:16+(BA (Y.map (·.2)):Int)<=L) (hL2:L<=4194304) :
  Tri Tryz.prog gs 165 [.agg [],BT f d a b,.lit (.int .i64 r),.ptr 0 0] [.blk [.lit (.int .i64 L)]] (ReadR (EG 0 (Y.map (·.1)),16+BA (Y.map (·.2))) L):=by
 have hp:=Hid.mk fun(k:Nat) (hk0:k<d.kids.length) (h:EH)=>I4 f d a b k (by rw[hpa];exact hk0) (fun e=>absurd e (by omega)) (fun _=>by omega) h
 unfold Hm at hp
 have ho:=Hid.mk (fun(k:Nat) (hk:k<d.kids.length) (L:Int) (h1:((Y.getD k (Bw,0)).2:Int)<=L) (h2:L<=4194304) (h:EH) (hg:Bh h 0 = .blk [.lit (.int .i64 L)])=>by
  have:=(how k hk).at (i:=r) (L:=L) (hr k hk) (by rw[<-hY k hk];exact h1) h2 hg
  rw[<-hY k hk]at this;exact this)
 have hlk:=C9 f d a b
 have hld:=hlk.kids
 clear hlk how hY
 refine ReadR.lst2 ?_
 unfold BT at *
 have hs:=fun n=>Jl Y n (Bw,0)
 have hw:=fun n=>HG Y n (Bw,0)
 have hle:=fun n=>HR Y n (Bw,0)
 obtain⟨PC,hPC⟩:∃PC:Nat->List EV,∀k,PC k=B2 (Bz f k) (Bn d k) (Bn d k).ofs (Bn d k).len:=⟨_,fun _=>rfl⟩
 simp only[<-hPC]at hp ho
 generalize B2 f d a b=AC at *
 generalize d.kids.length=nk,Bi d.kids=ck at *
 obtain⟨r',hr'⟩:∃q:Int,q=r:=⟨_,rfl⟩
 rw[<-hr']at ho ⊢
 clear hr hPC
 refine Bj F165_ok fun I0 ρ0 w0 Q hρ hQ=>?_
 obtain⟨A,hA⟩:∃A,A=stdA:=⟨_,rfl⟩
 replace hld:=hld A hA
 with_reducible refine Be hA hd hQ 200 ?hk ?_
 case hk=>trivial
 conv=>arg 9;cbv
 try simp only[OK]
 repeat' first|(with_reducible refine OKK.loop ?_)|((with_reducible refine Bd hA hd hQ 200 ?hk ?_);(case hk=>trivial);(conv=>arg 9;cbv);(try simp only[OK]))|((refine⟨_,_,?l1,hld,rfl,?_⟩);(case l1=>exact rfl))|((with_reducible refine cO ?hg ?_);(case hg=>with_reducible exact Bb F103_ok);(refine tM (Gd L 16 (by omega) (by omega) (by omega) rfl) fun v hh hx=>?_);(obtain⟨z,⟨hv,hz⟩,hh⟩:=hx;subst hv;subst hh))
 refine oK_ (msk 35 [1,2,3,8,9,18,19]) ?_
 refine oL_ (fun m st=>∃(z:Int) (bn:Nat) (bc:List EV) (LZ:Int),(∃lv tl,TN bn bc lv tl/\st=⟨mkT 35 [(1,.iptr AC 0),(2,.lit (.int .i64 r')),(3,.ptr 0 0),(8,.ptr 2 0),(9,.ptr 3 0),(18,.lit (.int .i64 (A.ofn nk))),(19,.lit (.int .i64 z))],.blk [.lit (.int .i64 LZ)] :: .blk [] :: .blk [.lit (.bool false),.lit (.int .i64 0),.lit (.string ⟨#[]⟩),.lit (.slice none 0 0)] :: .blk [.lit (.bool false),.lit (.int .i64 0),.lit (.string ⟨#[]⟩),lv]::tl⟩)/\
  m=(nk-z).toNat/\0<=z/\z<=nk/\bn=z.toNat/\bc=BE ((Y.take bn).map (·.1))/\LZ=L-16-BA ((Y.take bn).map (·.2))) (fun m st hs' ih=>?_) ⟨0,0,[],z,⟨_,_,.inl ⟨rfl,rfl,rfl⟩,rfl⟩,rfl,by omega,by omega,by omega,rfl,by rw[hz];simp[BA]⟩
 clear hz z
 obtain⟨z,bn,bc,LZ,⟨lv,tl,hst,rfl⟩,hm,hz1,hz2,hbn,hbc,hLZ⟩:=hs'
 have hbl:bc.length=4*bn:=by rw[hbc,Ec,List.length_map,lK];omega
 have hcb:clL bc=true:=by rw[hbc];exact Do _
 have hbe:bc=BE ((Y.take bn).map (·.1)):=hbc
 have ho':Hid (z<nk->∀h:EH,Bh h 0 = .blk [.lit (.int .i64 LZ)]->_):=Hid.mk fun hzq h hg=>ho.out bn (by omega) LZ (by have:=hle bn (by omega);omega) (by omega) h hg
 have hp':Hid (z<nk->∀h:EH,_):=Hid.mk fun hzq=>hp.out bn (by omega)
 have hs2:Hid (z<nk->BE ((Y.take (bn+1)).map (·.1))=bc++BK (Y.getD bn (Bw,0)).1):=Hid.mk fun hzq=>by rw[hbc];exact hs _ (by omega)
 have hw2:Hid (z<nk->((BA ((Y.take (bn+1)).map (·.2)):Nat):Int)=(BA ((Y.take bn).map (·.2)):Nat)+((Y.getD bn (Bw,0)).2:Nat)):=Hid.mk fun hzq=>by rw[hw _ (by omega)];push_cast;rfl
 rw[show ((bn:Nat):Int)=z by omega]at hp'
 generalize Y.getD bn (Bw,0)=X at *
 obtain⟨⟨vb,vn,vt,vl⟩,W⟩:=X
 simp only[BK]at ho' hs2 hw2
 generalize vl.length=ln,BE vl=lc at *
 generalize PC bn=PZ at *
 clear hs hw hle ho hp hbc
 rcases hst with ⟨h0,rfl,rfl⟩|⟨rfl,rfl⟩
 all_goals
  with_reducible refine Be hA hd hQ 200 ?hk ?_
  case hk=>trivial
  conv=>arg 9;cbv
  try simp only[OK]
  repeat' first|(with_reducible refine OKK.again ?_)|(with_reducible refine And.intro trivial ?_)|((with_reducible refine⟨fun hbr=>?_,fun hbr=>?_⟩)<;>(try simp(disch:=omega)only[hA,Ba,reduceCtorEq]at hbr)<;>(try (with_reducible exfalso;omega)))|((with_reducible refine Bd hA hd hQ 200 ?hk ?_);(case hk=>trivial);(conv=>arg 9;cbv);(try simp only[OK]))|((with_reducible refine Bp ?hn ?_);(case hn=>((simp(disch:=omega)only[hA,Ba])<;>omega)))|((with_reducible refine cO ?hg ?_);(case hg=>with_reducible exact Bb F164_ok);refine tM ((hp'.out (by omega)) _) ?_;rintro _ _ ⟨rfl,rfl⟩)|((with_reducible refine cO ?hg ?_);(case hg=>with_reducible exact Bb F51_ok);(refine tM ((ho'.out (by omega)) _ rfl) fun v hh hx=>?_);(obtain⟨z2,⟨hv,hz2⟩,hh⟩:=hx;subst hv;subst hh))
 ·refine oK_ (msk 35 [1,2,3,8,9,18,19]) (OKs.mv [0,1,2,3,5] [] (by rw[hρ];rfl) ⟨by decide,by simp[Bc],by simp⟩ (ih _ _ ⟨A.ib .add .i64 z 1,bn+1,_,z2,⟨_,_,.inr ⟨by rw[h0];rfl,rfl⟩,rfl⟩,rfl,?_,?_,?_,?_,?_⟩ ?_))
  ·simp(disch:=omega)only[hA,Ba];omega
  ·simp(disch:=omega)only[hA,Ba];omega
  ·simp(disch:=omega)only[hA,Ba];omega
  ·have hb0:bc=[]:=List.length_eq_zero_iff.1 (by omega)
   rw[hs2.out (by omega),hb0,lN,hA]
   exact BR _ _ _ rfl
  ·rw[hw2.out (by omega)];omega
  ·simp(disch:=omega)only[hA,Ba];omega
 ·have hY0:Y=[]:=List.length_eq_zero_iff.1 (by omega)
  refine fI_ rfl ⟨_,_,?_,rfl,.inl ⟨?_,rfl⟩⟩
  ·rw[hLZ,hY0];simp[BA]
  ·rw[hY0];rfl
 ·have hpush:A.app (A.tak (A.mul bn 4) (A.drp 0 bc)) (A.tak (A.mul 1 4) (A.drp 0 [.lit (.bool vb),.lit (.int .i64 vn),.lit (.string vt),.isl ln none lc]))=bc++[.lit (.bool vb),.lit (.int .i64 vn),.lit (.string vt),.isl ln none lc]:=by
   rw[hA];simp only[DL,C7,CV,CT,List.drop_zero];rw[lT (by omega)]
   rfl
  refine oK_ (msk 35 [1,2,3,8,9,18,19]) (OKs.mv [0,1,2,3,6] [] (by rw[hρ];rfl) ⟨by decide,by simp[Bc],by simp⟩ (ih _ _ ⟨A.ib .add .i64 z 1,bn+1,_,z2,⟨_,_,.inr ⟨by rw[hA];rfl,rfl⟩,rfl⟩,rfl,?_,?_,?_,?_,?_⟩ ?_))
  ·simp(disch:=omega)only[hA,Ba];omega
  ·simp(disch:=omega)only[hA,Ba];omega
  ·simp(disch:=omega)only[hA,Ba];omega
  ·rw[hs2.out (by omega)]
   exact(congrArg _ hpush).trans (BR _ _ _ (by rw[<-hs2.out (by omega)];exact Do _))
  ·rw[hw2.out (by omega)];omega
  ·simp(disch:=omega)only[hA,Ba];omega
 ·have hbY:Y.take bn=Y:=lT (by omega)
  refine fI_ rfl ⟨_,_,?_,rfl,.inr ⟨4,none,bc,?_,rfl,by decide,?_,hcb⟩⟩
  ·rw[hLZ,hbY];push_cast;omega
  ·rw[List.length_map,show Y.length=bn by omega]
  ·rw[List.length_map,hbe,hbY,lT (by rw[Ec,List.length_map];omega)]
def Ex(k:Int):FuncId:=
 if k=12\/k=13 then 155 else if k=15\/k=16 then 162 else if k=17 then 165 else if k=18 then 166
 else if k=19 then 167 else if k=20 then 169 else 171
theorem zEf(k:Int):(DY k=137/\Ex k=155)\/(DY k=138/\Ex k=162)\/(DY k=139/\Ex k=165)\/
  (DY k=140/\Ex k=166)\/(DY k=141/\Ex k=167)\/(DY k=142/\Ex k=169)\/(DY k=143/\Ex k=171):=by
 unfold DY Ex
 (repeat' split)<;>simp
theorem ReadR.ofB{P:Program}{G:List (List EV)}{f:FuncId}{args:List EV}{L n:Int}{s:ByteArray}{w:Nat}{b:Bool}
  (t:Tri P G f args [.blk [.lit (.int .i64 L)]] fun v h'=>∃z tl,(v = .agg [.lit (.bool b),.lit (.int .i64 n),.lit (.string s),.lit (.slice none 0 0)]/\z=L-(w:Nat))/\h' = .blk [.lit (.int .i64 z)]::tl) :
  Tri P G f args [.blk [.lit (.int .i64 L)]] (ReadR (.mk b n s [],w) L):=by
 refine Tri.drop1 (R:=fun V c'=>V = .agg (BK (.mk b n s []))/\c'=[.lit (.int .i64 (L-(w:Nat)))]) (fun V c' ⟨h1,h2⟩=>by subst h1;subst h2;exact⟨rfl,rfl⟩) ?_
 refine Tri.up t fun v h' ⟨z,tl,⟨e1,e2⟩,e3⟩=>⟨_,⟨_,tl,⟨rfl,rfl⟩,by rw[e3,e2]⟩,?_⟩
 rw[e1]
 exact Up.vcell (Up.nil _)
theorem zCu(f:Fld)(d:Dat)(a b:Int)(r:Nat)(L:Int)(hp:Dc f.kind d r)(hrm:(r:Int)<=9223372036854775807)(hL1:((BB f d r).2:Int)<=L)(hL2:L<=4194304)
  (hrd:BJ f.kind d r=false->Tri Tryz.prog gs (Ex f.kind) [.agg [],BT f d a b,.lit (.int .i64 r),.ptr 0 0] [.blk [.lit (.int .i64 L)]] (ReadR (BB f d r) L)) :
  Tri Tryz.prog gs 77 [BT f d a b,.lit (.int .i64 r),.ptr 0 0] [.blk [.lit (.int .i64 L)]] (ReadR (BB f d r) L):=by
 have hnu:=zBK f d a b r hp hrm
 have hl:=C9 f d a b
 have hlh:=hl.how
 clear hl hp
 by_cases hn:BJ f.kind d r=true
 ·have e:BB f d r=(Bw,16):=by rw[GX];unfold Eb;rw[if_pos hn]
  rw[e]at hL1 ⊢;clear hrd;simp only[hn]at hnu;refine ReadR.ofB ?_;unfold BT at *;generalize B2 f d a b=AC at *;obtain⟨r',hr'⟩:∃q:Int,q=r:=⟨_,rfl⟩;rw[<-hr']at hnu ⊢;refine Bj F77_ok fun I0 ρ0 w0 Q hρ hQ=>?_
  obtain⟨A,hA⟩:∃A,A=stdA:=⟨_,rfl⟩
  with_reducible refine Be hA hd hQ 200 ?hk ?_
  case hk=>trivial
  conv=>arg 9;cbv
  try simp only[OK]
  repeat' first|((with_reducible refine⟨fun hbr=>?_,fun hbr=>?_⟩)<;>(try simp(disch:=omega)only[reduceCtorEq]at hbr)<;>(try (with_reducible exfalso;omega)))|((with_reducible refine Bd hA hd hQ 200 ?hk ?_);(case hk=>trivial);(conv=>arg 9;cbv);(try simp only[OK]))|((with_reducible refine cO ?hg ?_);(case hg=>with_reducible exact Bb F102_ok);(refine tM (hnu _) fun v hh hx=>?_);(obtain⟨⟨b,hv,hb⟩,he⟩:=hx;subst hv;subst he;cases b<;>simp(disch:=omega)only[bF,false_iff,eq_self,not_true_eq_false]at hb)<;>(try (with_reducible exfalso;omega)))|((with_reducible refine cO ?hg ?_);(case hg=>with_reducible exact Bb F103_ok);(refine tM (Gd L 16 (by omega) (by omega) (by omega) rfl) fun v hh hx=>?_);(obtain⟨z,⟨hv,hz⟩,hh⟩:=hx;subst hv;subst hh))
  exact fI_ rfl ⟨_,_,⟨rfl,hz⟩,rfl⟩
 ·have hr0:=fun(h:EH) (hg:Bh h 0 = .blk [.lit (.int .i64 L)])=>ReadR.at (pre:=[.agg [],BT f d a b,.lit (.int .i64 r)]) (hrd (by simpa using hn)) rfl hg
  clear hrd;simp only[hn]at hnu;refine ReadR.own ?_;generalize BB f d r=X at *;obtain⟨⟨vb,vn,vt,vl⟩,W⟩:=X;simp only[BK,lC,lN]at hr0 hL1 ⊢;generalize vl.length=ln,BE vl=lc at *;unfold BT at *;generalize B2 f d a b=AC at *;obtain⟨r',hr'⟩:∃q:Int,q=r:=⟨_,rfl⟩;rw[<-hr']at hnu hr0 ⊢;refine Bj F77_ok fun I0 ρ0 w0 Q hρ hQ=>?_
  obtain⟨A,hA⟩:∃A,A=stdA:=⟨_,rfl⟩;replace hlh:=hlh A hA;rcases zEf f.kind with ⟨e1,e2⟩|⟨e1,e2⟩|⟨e1,e2⟩|⟨e1,e2⟩|⟨e1,e2⟩|⟨e1,e2⟩|⟨e1,e2⟩
  all_goals
   rw[e1]at hlh;rw[e2]at hr0
   with_reducible refine Be hA hd hQ 200 ?hk ?_
   case hk=>trivial
   conv=>arg 9;cbv
   try simp only[OK]
   repeat' first|((with_reducible refine⟨fun hbr=>?_,fun hbr=>?_⟩)<;>(try simp(disch:=omega)only[reduceCtorEq]at hbr)<;>(try (with_reducible exfalso;omega)))|((with_reducible refine Bd hA hd hQ 200 ?hk ?_);(case hk=>trivial);(conv=>arg 9;cbv);(try simp only[OK]))|((refine⟨_,_,?l1,hlh,rfl,?_⟩);(case l1=>exact rfl))|((with_reducible refine cO ?hg ?_);(case hg=>with_reducible exact Bb F102_ok);(refine tM (hnu _) fun v hh hx=>?_);(obtain⟨⟨b,hv,hb⟩,he⟩:=hx;subst hv;subst he;cases b<;>simp(disch:=omega)only[bF,true_iff,eq_self]at hb)<;>(try (with_reducible exfalso;omega)))|((with_reducible refine cO ?hg ?_);(case hg=>with_reducible exact Bb F155_ok);(refine tM (hr0 _ rfl) fun v hh hx=>?_);(obtain⟨z,⟨hv,hz⟩,hh⟩:=hx;subst hv;subst hh))|((with_reducible refine cO ?hg ?_);(case hg=>with_reducible exact Bb F162_ok);(refine tM (hr0 _ rfl) fun v hh hx=>?_);(obtain⟨z,⟨hv,hz⟩,hh⟩:=hx;subst hv;subst hh))|((with_reducible refine cO ?hg ?_);(case hg=>with_reducible exact Bb F165_ok);(refine tM (hr0 _ rfl) fun v hh hx=>?_);(obtain⟨z,⟨hv,hz⟩,hh⟩:=hx;subst hv;subst hh))|((with_reducible refine cO ?hg ?_);(case hg=>with_reducible exact Bb F166_ok);(refine tM (hr0 _ rfl) fun v hh hx=>?_);(obtain⟨z,⟨hv,hz⟩,hh⟩:=hx;subst hv;subst hh))|((with_reducible refine cO ?hg ?_);(case hg=>with_reducible exact Bb F167_ok);(refine tM (hr0 _ rfl) fun v hh hx=>?_);(obtain⟨z,⟨hv,hz⟩,hh⟩:=hx;subst hv;subst hh))|((with_reducible refine cO ?hg ?_);(case hg=>with_reducible exact Bb F169_ok);(refine tM (hr0 _ rfl) fun v hh hx=>?_);(obtain⟨z,⟨hv,hz⟩,hh⟩:=hx;subst hv;subst hh))|((with_reducible refine cO ?hg ?_);(case hg=>with_reducible exact Bb F171_ok);(refine tM (hr0 _ rfl) fun v hh hx=>?_);(obtain⟨z,⟨hv,hz⟩,hh⟩:=hx;subst hv;subst hh))
  all_goals exact fI_ rfl ⟨_,_,⟨rfl,hz⟩,rfl⟩
theorem zDm(f:Fld)(d:Dat)(i:Nat)(L:Int)(ho:0<=d.ofs/\d.ofs<=65536)(hi:i<=65536)
  (hv:Tri Tryz.prog gs 77 [BT f d d.ofs d.len,.lit (.int .i64 (d.ofs.toNat+i:Nat)),.ptr 0 0] [.blk [.lit (.int .i64 L)]] (ReadR (BB f d (d.ofs.toNat+i)) L)) :
  Tri Tryz.prog gs 51 [BT f d d.ofs d.len,.lit (.int .i64 i),.ptr 0 0] [.blk [.lit (.int .i64 L)]] (ReadR (BB f d (d.ofs.toNat+i)) L):=by
 have hl:=C9 f d d.ofs d.len
 have hlf:=hl.frm
 clear hl
 have hr0:=fun(h:EH) (hg:Bh h 0 = .blk [.lit (.int .i64 L)])=>ReadR.at (pre:=[BT f d d.ofs d.len,.lit (.int .i64 (d.ofs.toNat+i:Nat))]) hv rfl hg
 clear hv
 refine ReadR.own ?_
 generalize BB f d (d.ofs.toNat+i)=X at *
 obtain⟨⟨vb,vn,vt,vl⟩,W⟩:=X
 simp only[BK,lC,lN]at hr0 ⊢
 generalize vl.length=ln,BE vl=lc at *
 unfold BT at *
 generalize B2 f d d.ofs d.len=AC at *
 generalize d.ofs=ofs at *
 obtain⟨i',hi'⟩:∃q:Int,q=i:=⟨_,rfl⟩
 rw[<-hi']
 have e1:∀A,A=stdA->A.ib .add .i64 ofs i'=((ofs.toNat+i:Nat):Int):=fun A hA=>by simp(disch:=omega)only[hA,Ba]<;>omega
 refine Bj F51_ok fun I0 ρ0 w0 Q hρ hQ=>?_
 obtain⟨A,hA⟩:∃A,A=stdA:=⟨_,rfl⟩
 replace hlf:=hlf A hA
 rw[<-e1 A hA]at hr0
 clear e1
 with_reducible refine Be hA hd hQ 200 ?hk ?_
 case hk=>trivial
 conv=>arg 9;cbv
 try simp only[OK]
 repeat' first|((with_reducible refine Bd hA hd hQ 200 ?hk ?_);(case hk=>trivial);(conv=>arg 9;cbv);(try simp only[OK]))|((refine⟨_,_,?l1,hlf,rfl,?_⟩);(case l1=>exact rfl))|((with_reducible refine cO ?hg ?_);(case hg=>with_reducible exact Bb F77_ok);(refine tM (hr0 _ rfl) fun v hh hx=>?_);(obtain⟨z,⟨hv,hz⟩,hh⟩:=hx;subst hv;subst hh))
 exact fI_ rfl ⟨_,_,⟨rfl,hz⟩,rfl⟩
theorem okP.ofV{f:Fld}{d:Dat}(hs:SubF f)(hok:okA d)(hv:BS f d):okP f d:=by
 have h:=(PM hs (Ii hok hv)).2 hv
 exact⟨hs,hok,h.1,h.2.1,h.2.2.1,h.2.2.2.1⟩
theorem okP.part{f:Fld}{d:Dat}(h:okP f d)(hsm:Cu f)(j:Nat)(hj:j<(Bv d).length):okP (Bz f j) (Bn d j)/\Cu (Bz f j)/\Ct (Bz f j)+1<=Ct f:=by
 have hn:=h.num
 obtain⟨a,b,c,_⟩:=Ks h.sub hsm j (fun e=>by have:=hn.2 e;omega) (fun e=>by have:=hn.1 e;omega) (fun e=>(hn.2 e).2)
 exact⟨okP.ofV a (IF (f:=f) h.okd j hj) (h.par j hj),b,c⟩
theorem okP.row0{f:Fld}{d:Dat}(h:okP f d)(e:f.kind≠20)(j:Nat)(hj:j<f.kids.length)(dfl:Nat->Val×Nat) :
  (Cv f.kids (d.parts f.kind)).getD j dfl=fun i=>BB (Bz f j) (Bn d j) ((Bn d j).ofs.toNat+i):=by
 have hn:=h.num.1 e
 have hp:=h.parts.1 e
 rw[lG,hp,I8 _ _ _ hn.symm hj]
 unfold Bz Bn
 rw[if_neg e];rfl
theorem okP.row20{f:Fld}{d:Dat}(h:okP f d)(e:f.kind=20)(dfl:Nat->Val×Nat) :
  (Cv f.kids (d.parts f.kind)).getD 0 dfl=fun i=>BB (Bz f 1) (Bn d 1) ((Bn d 1).ofs.toNat+i):=by
 obtain⟨hn,hk⟩:=h.num.2 e
 have hp:=h.parts.2 e
 rw[lG,hp,I8 _ _ _ (by rw[lD];omega) (by omega)]
 unfold Bz Bn
 rw[if_pos e,if_neg (by omega)]
 have:((Bv d).drop 1).getD 0 Bf=(Bv d).getD 1 Bf:=by
  rw[lG,List.getElem?_drop,lG]
 rw[this];rfl
theorem zAn(b:List Nat)(at' w:Nat)(hw:w=1\/w=2\/w=4\/w=8)(hl:at'+w<=b.length)(ha:AllB b)(ht:¬128<=b.getD (at'+(w-1)) 0):BW b at' w<2^(8*w-1):=by
 have e:=R7 (b.drop at') (w-1) (by rw[lD];omega)
 rw[show w-1+1=w by omega]at e
 have e2:(b.drop at').getD (w-1) 0=b.getD (at'+(w-1)) 0:=by rw[lG,List.getElem?_drop,lG]
 have e3:=Hx ((b.drop at').take (w-1)) fun x hx=>ha x (List.mem_of_mem_drop (List.mem_of_mem_take hx))
 rw[lK,lD]at e3
 rw[e2]at e
 unfold BW
 rw[e]
 generalize leV ((b.drop at').take (w-1))=X,b.getD (at'+(w-1)) 0=T at *
 rw[Nat.min_eq_left (by omega)]at e3
 rcases hw with rfl|rfl|rfl|rfl<;>simp only[Nat.reduceMul,Nat.reduceSub,Nat.reducePow]at e3 ⊢ <;> omega
theorem S6{x:Int}{d:Dat}{r:Nat}(hx:3<=x/\x<=10)(hl:(r+1)*Bk x<=(d.buf 1).length)(ha:AllB (d.buf 1))(h0:0<=CP x d r)(hdl:(d.dict.getD 0 Bf).len<=4096) :
  CI x (d.buf 1) r=(BW (d.buf 1) (r*Bk x) (Bk x):Nat):=by
 have hw:=Vf hx.1 hx.2
 have hl2:r*Bk x+Bk x<=(d.buf 1).length:=by rw[Nat.add_mul,Nat.one_mul]at hl;exact hl
 unfold CP at h0
 split at h0
 ·omega
 ·rename_i hno
  have hN:BW (d.buf 1) (r*Bk x) (Bk x)<4096:=by omega
  unfold CI;split
  ·rename_i h6
   have:=zAn (d.buf 1) (r*Bk x) (Bk x) hw hl2 ha (by omega)
   unfold B5;rw[if_pos this]
  ·rename_i h6
   split
   ·rename_i h10
    have e8:Bk x=8:=by unfold Bk;rw[if_neg (by omega),if_neg (by omega),if_neg (by omega),if_pos (by omega)]
    rw[e8]at hN ⊢;unfold B5;rw[if_pos (by omega)]
   ·rfl
theorem zA6{f:Fld}{d:Dat}(h:okP f d)(how:∀j<(Bv d).length,OwnR (Bz f j) (Bn d j))(i:Nat)(hi:i<d.len.toNat)(L:Int)(hn:BJ f.kind d (d.ofs.toNat+i)=false)
  (hL1:((BB f d (d.ofs.toNat+i)).2:Int)<=L) (hL2:L<=4194304) :
  Tri Tryz.prog gs (Ex f.kind) [.agg [],BT f d d.ofs d.len,.lit (.int .i64 (d.ofs.toNat+i:Nat)),.ptr 0 0] [.blk [.lit (.int .i64 L)]] (ReadR (BB f d (d.ofs.toNat+i)) L):=by
 have hz:=h.sz
 have hlen:=hz.len
 unfold Cn at hlen
 have hk:1<=f.kind/\f.kind<=20:=by have e:=h.sub.fits;unfold Cl at e;exact⟨e.1,e.2.1⟩
 have hk1:f.kind≠1:=fun e=>by unfold BJ at hn;rw[if_pos e]at hn;simp at hn
 have hw:=h.wpre
 have hnb:=hz.nb
 have hnum:=h.num
 have er:BB f d (d.ofs.toNat+i)=Eb f.kind f.width f.idx d (Cv f.kids (d.parts f.kind)) (d.ofs.toNat+i):=GX _ _ _
 rw[er]at hL1 ⊢
 unfold Eb at hL1 ⊢
 rw[if_neg (by simp[hn])]at hL1 ⊢
 have hfam:Ex f.kind=if f.kind=12\/f.kind=13 then 155 else if f.kind=15\/f.kind=16 then 162 else if f.kind=17 then 165 else if f.kind=18 then 166
  else if f.kind=19 then 167 else if f.kind=20 then 169 else 171:=rfl
 rw[hfam]
 by_cases c2:f.kind=2
 ·rw[if_pos c2]at hL1 ⊢
  rw[if_neg (by omega),if_neg (by omega),if_neg (by omega),if_neg (by omega),if_neg (by omega),if_neg (by omega)]
  have hb2:d.bufs.length=2:=by rw[c2]at hnb;unfold Cc at hnb;simp at hnb;omega
  have hnd:=hz.need 1 (by omega)
  unfold CS at hnd;rw[if_neg (by omega),if_neg (by omega),if_pos (by omega)]at hnd
  exact zDa f d _ _ _ L c2 (by omega) (by omega) (hz.big 1 (by omega)).1 (hz.big 1 (by omega)).2 (by simpa using hL1) hL2
 rw[if_neg c2]at hL1 ⊢
 by_cases c11:f.kind<=11
 ·rw[if_pos c11]at hL1 ⊢
  rw[if_neg (by omega),if_neg (by omega),if_neg (by omega),if_neg (by omega),if_neg (by omega),if_neg (by omega)]
  have hb2:d.bufs.length=2:=by unfold Cc at hnb;rw[if_neg (by omega),if_neg (by omega),if_neg (by omega)]at hnb;omega
  have hnd:=hz.need 1 (by omega)
  unfold CS wid at hnd;rw[if_neg (by omega),if_neg (by omega),if_neg (by omega),if_neg (by omega),if_neg (by omega),if_neg (by omega),R8]at hnd
  have hl:(d.ofs.toNat+i+1)*Bk f.kind<=(d.buf 1).length:=by
   have m1:(d.ofs.toNat+i+1)*Bk f.kind<=(d.ofs.toNat+d.len.toNat)*Bk f.kind:=Nat.mul_le_mul_right _ (by omega)
   have e5:d.ofs+d.len=((d.ofs.toNat+d.len.toNat:Nat):Int):=by omega
   rw[e5]at hnd;have:(d.ofs.toNat+d.len.toNat)*Bk f.kind<=(d.buf 1).length:=by exact_mod_cast hnd
   omega
  exact YB f d _ _ _ L ⟨by omega,c11⟩ (by omega) hl (hz.big 1 (by omega)).1 (hz.big 1 (by omega)).2 (by simpa using hL1) hL2
 rw[if_neg c11]at hL1 ⊢
 by_cases c13:f.kind<=13
 ·rw[if_pos c13]at hL1 ⊢
  rw[if_pos (by omega)]
  have hb3:d.bufs.length=3:=by unfold Cc at hnb;rw[if_neg (by omega),if_neg (by omega),if_pos (by omega)]at hnb;omega
  obtain⟨a,b,c⟩:=h.offs (by omega) i hi
  have hb1:=hz.b1 (by omega)
  unfold Ee at c;rw[if_neg (by omega)]at c
  refine zB1 f d _ _ _ L (by omega) hb3 (by omega) (hz.big 1 (by omega)).1 (hz.big 1 (by omega)).2 (hz.big 2 (by omega)).1 (hz.big 2 (by omega)).2 a b c (fun e=>?_) (by simp only[Int.natCast_add]at hL1;omega) hL2
  rcases (h.row.1 (by omega)).2 e i hi with e1|e1
  ·rw[<-e,hn]at e1;simp at e1
  ·exact e1
 rw[if_neg c13]at hL1 ⊢
 by_cases c14:f.kind=14
 ·rw[if_pos c14]at hL1 ⊢
  rw[if_neg (by omega),if_neg (by omega),if_neg (by omega),if_neg (by omega),if_neg (by omega),if_neg (by omega)]
  have hb2:d.bufs.length=2:=by rw[c14]at hnb;unfold Cc at hnb;simp at hnb;omega
  have hwf:=hw.fit.1 c14;have hnd:=hz.need 1 (by omega)
  unfold CS wid at hnd;rw[if_neg (by omega),if_neg (by omega),if_neg (by omega),if_neg (by omega),if_pos c14]at hnd
  have hl:(d.ofs.toNat+i+1)*f.width.toNat<=(d.buf 1).length:=by
   have m1:(d.ofs.toNat+i+1)*f.width.toNat<=(d.ofs.toNat+d.len.toNat)*f.width.toNat:=Nat.mul_le_mul_right _ (by omega)
   have e5:d.ofs+d.len=((d.ofs.toNat+d.len.toNat:Nat):Int):=by omega
   have e6:f.width=(f.width.toNat:Int):=by omega
   rw[e5,e6]at hnd;have:(d.ofs.toNat+d.len.toNat)*f.width.toNat<=(d.buf 1).length:=by exact_mod_cast hnd
   omega
  exact WG f d _ _ _ f.width.toNat L c14 (by omega) (by omega) hl (hz.big 1 (by omega)).1 (hz.big 1 (by omega)).2 (by omega) (by simpa using hL1) hL2
 rw[if_neg c14]at hL1 ⊢
 by_cases c15:f.kind=15
 ·rw[if_pos c15]at hL1 ⊢
  rw[if_neg (by omega),if_pos (by omega)]
  have hk1:=h.k1 (by omega)
  have hn1:=hnum.1 (by omega)
  have hb1:=hz.b1 (by omega)
  have hpk:=h.kids (by omega)
  have hpl:=h.partL 0 (by omega)
  obtain⟨a,b,c⟩:=h.offs (by omega) i hi
  unfold Ee at c;rw[if_pos c15]at c
  dsimp only at hL1 ⊢
  rw[h.row0 (by omega) 0 (by omega)]at hL1 ⊢
  have hpd:Bn d 0=d.kids.getD 0 Bf:=by unfold Bn;rw[hpk]
  rw[<-hpd]at c;have hit:=zAm f d d.ofs d.len (d.ofs.toNat+i) c15 (by rw[<-hpk];omega) (by omega) (by omega) (hz.big 1 (by omega)).1 (hz.big 1 (by omega)).2 a b (by rw[<-hpd];exact c)
  have hpl2:(Bn d 0).len<=4096:=by unfold Bn;omega
  refine TY f d _ _ _ _ _ L (.inl c15) (by omega) (by omega) (fun hh=>?_) (how 0 (by omega)) (by omega) (by omega) (by omega) (by simpa using hL1) hL2
  rw[Int.toNat_of_nonneg a,Int.toNat_of_nonneg (by omega)]
  exact hit hh
 rw[if_neg c15]at hL1 ⊢
 by_cases c16:f.kind=16
 ·rw[if_pos c16]at hL1 ⊢
  rw[if_neg (by omega),if_pos (by omega)]
  have hk1:=h.k1 (by omega)
  have hn1:=hnum.1 (by omega)
  have hwf:=hw.fit.2.1 c16;have h16:=h.seg16 c16 i hi;have hpl:=h.partL 0 (by omega)
  dsimp only at hL1 ⊢
  rw[h.row0 (by omega) 0 (by omega)]at hL1 ⊢
  have hpl2:(Bn d 0).len<=4096:=by unfold Bn;omega
  exact TY f d _ _ _ _ _ L (.inr c16) (by omega) (by omega) (zAw f d d.ofs d.len (d.ofs.toNat+i) c16 hwf (by omega)) (how 0 (by omega)) (Nat.mul_le_mul_right _ (by omega)) h16 (by unfold Bn at hpl2;omega) (by simpa using hL1) hL2
 rw[if_neg c16]at hL1 ⊢
 by_cases c17:f.kind=17
 ·rw[if_pos c17]at hL1 ⊢
  rw[if_neg (by omega),if_neg (by omega),if_pos c17]
  have hn1:=hnum.1 (by omega)
  have hpk:=h.kids (by omega)
  have hp:=h.parts.1 (by omega)
  have hl2:(Cv f.kids (d.parts f.kind)).length=f.kids.length:=La _ _ (by rw[hp];exact hn1.symm)
  have hn2:d.kids.length=f.kids.length:=by rw[<-hpk];exact hn1
  have hnm:=hw.num;rw[C8]at hnm;refine zEi f d _ _ _ L ((Cv f.kids (d.parts f.kind)).map fun h=>h (d.ofs.toNat+i)) c17 hpk hn2.symm (by omega) (by rw[List.length_map];omega) (fun k hk=>?_) (fun k hk=>how k (by omega)) (fun k hk=>?_) (by simpa using hL1) hL2
  ·have e1:=h.row0 (by omega) k (by omega) (fun _=>(Bw,0))
   rw[lG]at e1 ⊢;rw[List.getElem?_map];have hlt:k<(Cv f.kids (d.parts f.kind)).length:=by omega
   rw[lE hlt]at e1 ⊢;simp only[Option.getD_some,Option.map_some]at e1 ⊢;rw[e1]
  ·have:=(hz.kid k hk).2 c17
   unfold Bn;rw[hpk];omega
 rw[if_neg c17]at hL1 ⊢
 by_cases c18:f.kind=18
 ·rw[if_pos c18]at hL1 ⊢
  rw[if_neg (by omega),if_neg (by omega),if_neg (by omega),if_pos c18]
  have hn1:=hnum.1 (by omega)
  have hpk:=h.kids (by omega)
  have hb18:=hz.b18 c18;obtain⟨a,b,c⟩:=h.row.2.1 c18 i hi;have hnm:=hw.num;rw[C8]at hnm;have hn2:d.kids.length=f.kids.length:=by rw[<-hpk];exact hn1
  dsimp only at hL1 ⊢
  rw[h.row0 (by omega) ((d.buf 0).getD (d.ofs.toNat+i) 0) (by omega)]at hL1 ⊢
  have hpd:Bn d ((d.buf 0).getD (d.ofs.toNat+i) 0)=d.kids.getD ((d.buf 0).getD (d.ofs.toNat+i) 0) Bf:=by unfold Bn;rw[hpk]
  exact zCX f d _ _ _ _ _ L c18 (by omega) a hpk hb18.1 (by omega) (hz.big 0 (by omega)).1 rfl (by omega) (hz.big 1 (by omega)).1 (hz.big 1 (by omega)).2 (by rw[Int.toNat_of_nonneg b]) (by omega) (how _ (by omega)) (by rw[hpd];omega) (by simpa using hL1) hL2
 rw[if_neg c18]at hL1 ⊢
 by_cases c19:f.kind=19
 ·rw[if_pos c19]at hL1 ⊢
  rw[if_neg (by omega),if_neg (by omega),if_neg (by omega),if_neg (by omega),if_pos c19]
  have hk1:=h.k1 (by omega)
  have hn1:=hnum.1 (by omega)
  have hb19:=hz.b19 c19;obtain⟨a,b,c,_⟩:=h.dic c19 i hi (by simp[hn]) (fun _=>(Bw,0))
  have hpl:=h.partL 0 (by omega)
  have hx:=hw.fit.2.2 c19
  dsimp only at hL1 ⊢
  rw[h.row0 (by omega) 0 (by omega)]at hL1 ⊢
  have hpd:Bn d 0=d.dict.getD 0 Bf:=by unfold Bn;rw[h.dict c19]
  have hl:(d.ofs.toNat+i+1)*Bk f.idx<=(d.buf 1).length:=by
   have m1:(d.ofs.toNat+i+1)*Bk f.idx<=(d.ofs.toNat+d.len.toNat)*Bk f.idx:=Nat.mul_le_mul_right _ (by omega)
   omega
  have hnm:=U9 f d d.ofs d.len f.idx (d.ofs.toNat+i) (by omega) (by omega) hl (hz.big 1 (by omega)).1 (hz.big 1 (by omega)).2
  have hpl2:0<=(Bn d 0).len/\(Bn d 0).len<=4096:=by unfold Bn;omega
  refine zAU f d _ _ _ _ L c19 (by omega) (by omega) (fun hh=>?_) hpl2 hpd (how 0 (by omega)) (by unfold Bn;omega) (by simpa using hL1) hL2
  have:=hnm hh;rw[S6 hx hl (hz.big 1 (by omega)).2 a (by rw[<-hpd];omega)]at this
  exact this
 have c20:f.kind=20:=by omega
 simp only[if_neg c17,if_neg c18,if_neg c19]at hL1 ⊢
 rw[if_neg (by omega),if_neg (by omega),if_pos c20]
 obtain⟨y,y1,y2,y3,y4,y5⟩:=h.runs c20 i hi
 obtain⟨hn2,hk1⟩:=hnum.2 c20
 have hpk:=h.kids (by omega)
 have hpd:Bn d 0=d.kids.getD 0 Bf:=by unfold Bn;rw[hpk]
 have hpre:=(hw.run c20).2.2.1
 rw[h.row20 c20,y4]at hL1 ⊢
 rw[<-hpd]at hpre y1 y2 y3
 exact zBA f d _ _ _ y L c20 hk1 hn2 (Ys f d _ _ _ y c20 hk1 hn2 hpre (by omega) y2 y3) (how 1 (by omega)) y5 (by simpa using hL1) hL2
theorem W7:∀(n:Nat) (f:Fld) (d:Dat),Ct f<=n->okP f d->Cu f->OwnR f d:=by
 intro n
 induction n with
 |zero=>intro f d hd;rw[G0]at hd;omega
 |succ n ih=>
  intro f d hd h hsm i L hi hL1 hL2;have hz:=h.sz;have hlen:=hz.len;unfold Cn at hlen;refine zDm f d i L (by omega) (by omega) (zCu f d d.ofs d.len (d.ofs.toNat+i) L (hz.nul _ (by omega)) (by omega) hL1 hL2 fun hn=>?_)
  refine zA6 h (fun j hj=>?_) i (by omega) L hn hL1 hL2
  obtain⟨a,b,c⟩:=h.part hsm j hj;exact ih _ _ (by omega) a b
theorem Yu(x:EV)(h:EH)(R:EH->Prop)(hR:R h):RE Tryz.prog gs 50 [x] h R:=by
 refine Wm Rs fun I0 ρ0 w0 Q hρ hQ=>?_
 obtain⟨A,hA⟩:∃A,A=stdA:=⟨_,rfl⟩
 with_reducible refine Bd hA hd hQ 200 ?hk ?_
 case hk=>trivial
 conv=>arg 9;cbv
 try simp only[OK]
 exact⟨⟨_,rfl⟩,hR⟩
theorem Z8(f:Fld)(d:Dat)(i:Nat)(ho:OwnR f d)(hi:(i:Int)<d.len)(hw:(BB f d (d.ofs.toNat+i)).2<=4194304) :
  Tri Tryz.prog gs 32 [BT f d d.ofs d.len,.lit (.int .i64 i)] [] fun v h'=>v = .tup [.agg (BK (BB f d (d.ofs.toNat+i)).1),.lit (.int .i64 (BB f d (d.ofs.toNat+i)).2),.lit (.int .i64 0)]:=by
 have ho':=fun(id:Nat) (hp:EH) (hg:Bh hp id = .blk [.lit (.int .i64 4194304)])=>ho.at (L:=4194304) hi (by omega) (by omega) hg
 generalize BB f d (d.ofs.toNat+i)=X at *
 obtain⟨⟨vb,vn,vt,vl⟩,W⟩:=X
 simp only[BK]at ho' hw ⊢
 generalize vl.length=ln,BE vl=lc at *
 unfold BT at *
 generalize B2 f d d.ofs d.len=AC at *
 obtain⟨i',hi'⟩:∃q:Int,q=i:=⟨_,rfl⟩
 obtain⟨W',hW'⟩:∃q:Int,q=W:=⟨_,rfl⟩
 rw[<-hi']at ho' ⊢
 rw[<-hW']at ho' ⊢
 refine V5 (F1:=fun s=>s=⟨Co [.iptr AC 0,.lit (.int .i64 i'),.lit undef,.lit undef,.ptr 0 0,.lit (.int .i64 0),.ptr 1 0] 14,[.blk [.lit (.bool false),.lit (.int .i64 0),.lit (.string ⟨#[]⟩),.lit (.slice none 0 0)],.blk [.lit (.int .i64 0)]]⟩)
  (F2:=fun s=>s=⟨Co [.iptr AC 0,.lit (.int .i64 i'),.lit undef,.lit undef,.ptr 0 0,.lit (.int .i64 0),.ptr 1 0] 14,[.blk [.lit (.bool false),.lit (.int .i64 0),.lit (.string ⟨#[]⟩),.lit (.slice none 0 0)],.blk [.lit (.int .i64 0)]]⟩)
  R3 (fun I0 ρ0 w0 Q hρ hF=>?_) (fun s hs I0 ρ0 w0 Q hF=>?_) (fun s hs=>⟨50,[],[],by subst hs;rfl,VV Rs,fun I0 ρ0 w0 Q hρ hQ=>?_⟩)
 ·have hQ:=EndsQ.no (P:=Tryz.prog) (G:=gs) (I0:=I0) (ρ0:=ρ0) (w0:=w0) (Q:=Q)
  obtain⟨A,hA⟩:∃A,A=stdA:=⟨_,rfl⟩
  with_reducible refine Be hA hd hQ 1 ?hk ?_
  case hk=>trivial
  conv=>arg 9;cbv
  try simp only[OK]
  repeat' first|(with_reducible refine OKK.nilS ?_)|((with_reducible refine Bd hA hd hQ 1 ?hk ?_);(case hk=>trivial);(conv=>arg 9;cbv);(try simp only[OK]))
  exact OKs.nil (hF _ rfl)
 ·subst hs
  have hQ:=EndsQ.no (P:=Tryz.prog) (G:=gs) (I0:=I0) (ρ0:=ρ0) (w0:=w0) (Q:=Q);obtain⟨A,hA⟩:∃A,A=stdA:=⟨_,rfl⟩
  repeat' first|(with_reducible refine OKK.nilS ?_)|((with_reducible refine Bd hA hd hQ 1 ?hk ?_);(case hk=>trivial);(conv=>arg 9;cbv);(try simp only[OK]))
  exact OKs.nil (hF _ rfl)
 ·subst hs
  obtain⟨A,hA⟩:∃A,A=stdA:=⟨_,rfl⟩
  with_reducible refine Be hA hd hQ 200 ?hk ?_
  case hk=>trivial
  conv=>arg 9;cbv
  try simp only[OK]
  repeat' first|((with_reducible refine Bd hA hd hQ 200 ?hk ?_);(case hk=>trivial);(conv=>arg 9;cbv);(try simp only[OK]))|((with_reducible refine cO ?hg ?_);(case hg=>with_reducible exact Bb F51_ok);(refine tM (ho' _ _ rfl) fun v hh hx=>?_);(obtain⟨z2,⟨hv,hz2⟩,hh⟩:=hx;subst hv;subst hh))
  refine⟨trivial,Yu (.ptr 1 0) _ _ ⟨_,rfl,?_⟩⟩;have e:A.ib .sub .i64 4194304 z2=W':=by simp(disch:=omega)only[hA,Ba]<;>omega
  exact congrArg (fun q=>EV.tup [_,.lit (.int .i64 q),_]) e
theorem W6(f:Fld)(d:Dat)(i:Nat)(ho:OwnR f d)(hi:(i:Int)<d.len)(hw:(BB f d (d.ofs.toNat+i)).2<=4194304)(h:EH) :
  Tri Tryz.prog gs 32 [BT f d d.ofs d.len,.lit (.int .i64 i)] h fun v h'=>v = .tup [.agg (BK (BB f d (d.ofs.toNat+i)).1),.lit (.int .i64 (BB f d (d.ofs.toNat+i)).2),.lit (.int .i64 0)]/\h'=h:=
 Tri.valA (by generalize (BB f d (d.ofs.toNat+i)).1=V;cases V;rfl) rfl (Z8 f d i ho hi hw) h
def zAi:Go.Shelf.Ren:=⟨fun n=>if n=106 then 33 else if n=213 then 52 else 78,fun n=>if n=3 then 3 else 9,fun n=>n⟩
theorem zDN:Go.Proofs.Lays.n106 Tryz.prog zAi where
 mixed:=by kernel_rfl
 f106:=by kernel_rfl
 f213:=by kernel_rfl
 f265:=by kernel_rfl
 t3:=by kernel_rfl
 a3:=fun w=>by kernel_rfl
 z3:=fun w=>by kernel_rfl
 v3:=fun w=>by kernel_rfl
 t9:=by kernel_rfl
 a9:=fun w=>by kernel_rfl
 z9:=fun w=>by kernel_rfl
 v9:=fun w=>by kernel_rfl
def C1(a b:ByteArray):Int:=Lib.compareBytes a.data.toList b.data.toList
theorem Zm:CG Tryz.prog 33=true:=by kernel_rfl
theorem UC(a b:ByteArray)(h:EH):Tri Tryz.prog gs 33 [.lit (.string a),.lit (.string b)] h fun v h'=>v = .lit (.int .i64 (C1 a b))/\h'=h:=by
 intro I ρ w cargs hI hs ha hg
 have hc:cargs = #[.string a,.string b]:=by
  match cargs,ha with
  |⟨[x,y]⟩,ha=>
   obtain⟨h1,h2,_⟩:=ha;cases h1;cases h2;rfl
 subst hc
 refine(Any.strings_Compare zDN a b w).mono fun e w' ⟨h1,h2⟩=>?_
 subst h2
 exact⟨_,_,h,I,[],h1,⟨rfl,rfl⟩,Imm.le.refl I,hI,by simpa using hs,.lit _ _,Keep.refl I w'⟩
def sgn(a b:Int):Int:=if a<b then -1 else if b<a then 1 else 0
theorem Tri.valC{P:Program}{G:List (List EV)}{f:FuncId}{args:List EV}{V:EV}(hV:clE V=true)(ha:clL args=true)(t:Tri P G f args [] fun v _=>v=V)(h:EH):Tri P G f args h fun v h'=>v=V/\h'=h:=
 Tri.litC (φ:=fun v=>v=V) (fun v hv=>by rw[hv];exact hV) ha t h
theorem zDn(a:Int)(h:EH):Tri Tryz.prog gs 110 [.lit (.int .i64 a)] h fun v h'=>IsP False v/\h'=h:=by
 refine Tri.boolC rfl (Bj F110_ok fun I0 ρ0 w0 Q hρ hQ=>?_) h
 obtain⟨A,hA⟩:∃A,A=stdA:=⟨_,rfl⟩
 with_reducible refine Be hA hd hQ 200 ?hk ?_
 case hk=>trivial
 conv=>arg 9;cbv
 try simp only[OK]
 all_goals (try (with_reducible refine FinR.self ?_;first|refine FinR.bl rfl ?_|refine FinR.bs rfl ?_|refine FinR.blh rfl ?_ rfl|refine FinR.bsh rfl ?_ rfl))
 all_goals (try simp(disch:=omega)only[hA,Ba,iff_false])
 all_goals simp
theorem zD1(a b:Int)(h:EH):Tri Tryz.prog gs 82 [.lit (.int .i64 a),.lit (.int .i64 b)] h fun v h'=>IsN .i64 (fun n=>n=sgn a b) v/\h'=h:=by
 refine Tri.intC rfl (Bj F82_ok fun I0 ρ0 w0 Q hρ hQ=>?_) h
 obtain⟨A,hA⟩:∃A,A=stdA:=⟨_,rfl⟩
 with_reducible refine Be hA hd hQ 200 ?hk ?_
 case hk=>trivial
 conv=>arg 9;cbv
 try simp only[OK]
 repeat' first|((with_reducible refine⟨fun hbr=>?_,fun hbr=>?_⟩)<;>(try simp(disch:=omega)only[hA,Ba,reduceCtorEq]at hbr)<;>(try (with_reducible exfalso;omega)))|((with_reducible refine Bd hA hd hQ 200 ?hk ?_);(case hk=>trivial);(conv=>arg 9;cbv);(try simp only[OK]))|(refine cO (Bb F110_ok) (tM (zDn _ _) fun v hh hx=>?_);(obtain⟨⟨b,hv,hb⟩,he⟩:=hx;subst hv;subst he;cases b<;>simp(disch:=omega)only[bF,true_iff,eq_self]at hb)<;>(try (with_reducible exfalso;omega)))
 all_goals (try (with_reducible refine FinR.self ?_;first|refine FinR.n rfl ?_|refine FinR.nh rfl ?_ rfl))
 all_goals (try simp(disch:=omega)only[hA,OK,Ba,Int.reduceToNat,GH,bF,true_iff,false_iff,eq_self,iff_true,iff_false])
 all_goals unfold sgn
 all_goals (repeat' split)
 all_goals omega
theorem zEj(a:Int)(h:EH):Tri Tryz.prog gs 109 [.lit (.int .u64 a)] h fun v h'=>IsP False v/\h'=h:=by
 refine Tri.boolC rfl (Bj F109_ok fun I0 ρ0 w0 Q hρ hQ=>?_) h
 obtain⟨A,hA⟩:∃A,A=stdA:=⟨_,rfl⟩
 with_reducible refine Be hA hd hQ 200 ?hk ?_
 case hk=>trivial
 conv=>arg 9;cbv
 try simp only[OK]
 all_goals (try (with_reducible refine FinR.self ?_;first|refine FinR.bl rfl ?_|refine FinR.bs rfl ?_|refine FinR.blh rfl ?_ rfl|refine FinR.bsh rfl ?_ rfl))
 all_goals (try simp(disch:=omega)only[hA,Ba,iff_false])
 all_goals simp
theorem ZF(a b:Int)(h:EH):Tri Tryz.prog gs 80 [.lit (.int .u64 a),.lit (.int .u64 b)] h fun v h'=>IsN .i64 (fun n=>n=sgn a b) v/\h'=h:=by
 refine Tri.intC rfl (Bj F80_ok fun I0 ρ0 w0 Q hρ hQ=>?_) h
 obtain⟨A,hA⟩:∃A,A=stdA:=⟨_,rfl⟩
 with_reducible refine Be hA hd hQ 200 ?hk ?_
 case hk=>trivial
 conv=>arg 9;cbv
 try simp only[OK]
 repeat' first|((with_reducible refine⟨fun hbr=>?_,fun hbr=>?_⟩)<;>(try simp(disch:=omega)only[hA,Ba,reduceCtorEq]at hbr)<;>(try (with_reducible exfalso;omega)))|((with_reducible refine Bd hA hd hQ 200 ?hk ?_);(case hk=>trivial);(conv=>arg 9;cbv);(try simp only[OK]))|(refine cO (Bb F109_ok) (tM (zEj _ _) fun v hh hx=>?_);(obtain⟨⟨b,hv,hb⟩,he⟩:=hx;subst hv;subst he;cases b<;>simp(disch:=omega)only[bF,true_iff,eq_self]at hb)<;>(try (with_reducible exfalso;omega)))
 all_goals (try (with_reducible refine FinR.self ?_;first|refine FinR.n rfl ?_|refine FinR.nh rfl ?_ rfl))
 all_goals (try simp(disch:=omega)only[hA,OK,Ba,Int.reduceToNat,GH,bF,true_iff,false_iff,eq_self,iff_true,iff_false])
 all_goals unfold sgn
 all_goals (repeat' split)
 all_goals omega
theorem Gj(n:Int)(h1:0<=n)(h2:n<=18446744073709551615):stdA.wr .u64 n=n:=by
 show IntKind.u64.wrap n=n
 simp only[IntKind.wrap,IntKind.signed,IntKind.bits]
 simp
 omega
theorem zCI(n:Int)(h1:0<=n)(h2:n<=9223372036854775807):stdA.ib .or .u64 (stdA.wr .u64 n) 9223372036854775808=n+9223372036854775808:=by
 rw[Gj n h1 (by omega)]
 show IntKind.u64.wrap _=_
 obtain⟨m,rfl⟩:∃m:Nat,n=m:=⟨n.toNat,by omega⟩
 have e:(BitVec.ofInt IntKind.u64.bits (m:Int) ||| BitVec.ofInt IntKind.u64.bits 9223372036854775808).toNat=m+9223372036854775808:=by
  have h3:9223372036854775808 ||| m=9223372036854775808+m:=by
   have:=Nat.two_pow_add_eq_or_of_lt (i:=63) (b:=m) (by omega) 1
   rw[show 2^63*1=9223372036854775808 by decide]at this
   exact this.symm
  rw[BitVec.toNat_or]
  have e1:(BitVec.ofInt IntKind.u64.bits (m:Int)).toNat=m:=by
   show (BitVec.ofInt 64 (m:Int)).toNat=m;rw[BitVec.ofInt_natCast,BitVec.toNat_ofNat];exact Nat.mod_eq_of_lt (by omega)
  have e2:(BitVec.ofInt IntKind.u64.bits 9223372036854775808).toNat=9223372036854775808:=by decide
  rw[e1,e2,Nat.or_comm,h3];omega
 rw[e]
 have:=Gj ((m+9223372036854775808:Nat):Int) (by omega) (by omega)
 rw[show IntKind.u64.wrap ((m+9223372036854775808:Nat):Int)=stdA.wr .u64 ((m+9223372036854775808:Nat):Int)from rfl,this]
 simp
theorem Zl(n:Int)(h1:0<=n)(h2:n<=9223372036854775807):stdA.ib .add .u64 (stdA.wr .u64 n) 9223372036854775808=n+9223372036854775808:=by
 rw[Gj n h1 (by omega)]
 exact Gj _ (by omega) (by omega)
def ES(n:Int):Int:=if n<0 then stdA.xr .u64 (stdA.wr .u64 n)else n+9223372036854775808
theorem zEd(n:Int)(hn:BH n)(h:EH):Tri Tryz.prog gs 81 [.lit (.int .i64 n)] h fun v h'=>IsN .u64 (fun m=>m=ES n) v/\h'=h:=by
 refine Tri.intC rfl (Bj F81_ok fun I0 ρ0 w0 Q hρ hQ=>?_) h
 obtain⟨A,hA⟩:∃A,A=stdA:=⟨_,rfl⟩
 with_reducible refine Be hA hd hQ 200 ?hk ?_
 case hk=>trivial
 conv=>arg 9;cbv
 try simp only[OK]
 repeat' first|((with_reducible refine⟨fun hbr=>?_,fun hbr=>?_⟩)<;>(try simp(disch:=omega)only[hA,Ba]at hbr)<;>(try (with_reducible exfalso;omega)))|((with_reducible refine Bd hA hd hQ 200 ?hk ?_);(case hk=>trivial);(conv=>arg 9;cbv);(try simp only[OK]))
 ·refine FinR.n rfl ?_
  rw[ES,if_pos hbr,hA]
 ·refine FinR.n rfl ?_
  rw[ES,if_neg hbr,hA];exact zCI n (by omega) hn.2
theorem zAe(n:Int)(hn:BH n)(h:EH):Tri Tryz.prog gs 40 [.lit (.int .i64 n)] h fun v h'=>IsN .u64 (fun m=>m=ES n) v/\h'=h:=by
 refine Tri.intC rfl (Bj F40_ok fun I0 ρ0 w0 Q hρ hQ=>?_) h
 obtain⟨A,hA⟩:∃A,A=stdA:=⟨_,rfl⟩
 with_reducible refine Be hA hd hQ 200 ?hk ?_
 case hk=>trivial
 conv=>arg 9;cbv
 try simp only[OK]
 repeat' first|((with_reducible refine⟨fun hbr=>?_,fun hbr=>?_⟩)<;>(try simp(disch:=omega)only[hA,Ba]at hbr)<;>(try (with_reducible exfalso;omega)))|((with_reducible refine Bd hA hd hQ 200 ?hk ?_);(case hk=>trivial);(conv=>arg 9;cbv);(try simp only[OK]))
 ·refine FinR.n rfl ?_
  rw[ES,if_pos hbr,hA]
 ·refine FinR.n rfl ?_
  rw[ES,if_neg hbr,hA];exact Zl n (by omega) hn.2
theorem zDF(a b:Bool)(h:EH):Tri Tryz.prog gs 39 [.sb a,.sb b] h fun v h'=>IsN .i64 (fun m=>m=if a then -1 else if b then 1 else 0) v/\h'=h:=by
 refine Tri.intC rfl (Bj F39_ok fun I0 ρ0 w0 Q hρ hQ=>?_) h
 obtain⟨A,hA⟩:∃A,A=stdA:=⟨_,rfl⟩
 with_reducible refine Be hA hd hQ 200 ?hk ?_
 case hk=>trivial
 conv=>arg 9;cbv
 try simp only[OK]
 repeat' first|((with_reducible refine⟨fun hbr=>?_,fun hbr=>?_⟩)<;>(try simp(disch:=omega)only[hA,OK,Ba,Int.reduceToNat,GH,reduceCtorEq]at hbr)<;>(try (with_reducible exfalso;omega)))|((with_reducible refine Bd hA hd hQ 200 ?hk ?_);(case hk=>trivial);(conv=>arg 9;cbv);(try simp only[OK]))
 all_goals (try (with_reducible refine FinR.self ?_;first|refine FinR.n rfl ?_|refine FinR.nh rfl ?_ rfl))
 all_goals (try simp(disch:=omega)only[hA,OK,Ba,Int.reduceToNat,GH,bF,true_iff,false_iff,eq_self,iff_true,iff_false])
 all_goals (cases a<;>cases b<;>simp_all)
theorem zA9(k:Int)(h:EH):Tri Tryz.prog gs 107 [.lit (.int .i64 k)] h fun v h'=>IsP (3<=k/\k<=10) v/\h'=h:=by
 refine Tri.boolC rfl (Bj F107_ok fun I0 ρ0 w0 Q hρ hQ=>?_) h
 obtain⟨A,hA⟩:∃A,A=stdA:=⟨_,rfl⟩
 with_reducible refine Be hA hd hQ 200 ?hk ?_
 case hk=>trivial
 conv=>arg 9;cbv
 try simp only[OK]
 repeat' first|((with_reducible refine⟨fun hbr=>?_,fun hbr=>?_⟩)<;>(try simp(disch:=omega)only[hA,Ba]at hbr)<;>(try (with_reducible exfalso;omega)))|((with_reducible refine Bd hA hd hQ 200 ?hk ?_);(case hk=>trivial);(conv=>arg 9;cbv);(try simp only[OK]))
 all_goals refine⟨_,rfl,_,(by first|exact .inl rfl|exact .inr rfl),?_⟩
 all_goals (try simp(disch:=omega)only[hA,Ba,bF,false_iff])
 all_goals first|omega|(simp<;>omega)|(simp_all<;>omega)
def Cy(k n:Int):Prop:=
 if k=2 then n=0\/n=1 else if k=3 then -128<=n/\n<=127 else if k=4 then -32768<=n/\n<=32767 else if k=5 then -2147483648<=n/\n<=2147483647
 else if k=7 then 0<=n/\n<=255 else if k=8 then 0<=n/\n<=65535 else if k=9 then 0<=n/\n<=4294967295 else True
def Jm(k:Int):Int:=if k=3\/k=7 then 8 else if k=4\/k=8 then 16 else if k=5\/k=9 then 32 else 64
theorem zBw(k:Int)(hk:3<=k/\k<=10)(h:EH):Tri Tryz.prog gs 127 [.lit (.int .i64 k)] h fun v h'=>(∃b:Bool,(v = .tup [.lit (.int .i64 (Jm k)),.lit (.bool b)])/\(b=true↔k<=6))/\h'=h:=by
 refine Tri.litC (φ:=fun v=>∃b:Bool,(v = .tup [.lit (.int .i64 (Jm k)),.lit (.bool b)])/\(b=true↔k<=6)) (fun v ⟨b,hv,_⟩=>by rw[hv];rfl) rfl (Bj F127_ok fun I0 ρ0 w0 Q hρ hQ=>?_) h
 obtain⟨A,hA⟩:∃A,A=stdA:=⟨_,rfl⟩
 have hc:k=3\/k=4\/k=5\/k=6\/k=7\/k=8\/k=9\/k=10:=by omega
 have hs1:k<=6->A.sh .shl .i64 8 (A.ib .sub .i64 k 3)=Jm k:=fun h=>by
  rw[hA];rcases hc with rfl|rfl|rfl|rfl|rfl|rfl|rfl|rfl<;>first|rfl|omega
 have hs2:¬k<=6->A.sh .shl .i64 8 (A.ib .sub .i64 k 7)=Jm k:=fun h=>by
  rw[hA];rcases hc with rfl|rfl|rfl|rfl|rfl|rfl|rfl|rfl<;>first|rfl|omega
 with_reducible refine Be hA hd hQ 200 ?hk ?_
 case hk=>trivial
 conv=>arg 9;cbv
 try simp only[OK]
 repeat' first|((with_reducible refine⟨fun hbr=>?_,fun hbr=>?_⟩)<;>(try simp(disch:=omega)only[hA,Ba]at hbr)<;>(try (with_reducible exfalso;omega)))|((with_reducible refine Bd hA hd hQ 200 ?hk ?_);(case hk=>trivial);(conv=>arg 9;cbv);(try simp only[OK]))|((with_reducible refine Bp ?hn ?_);(case hn=>((simp(disch:=omega)only[hA,Ba])<;>omega)))
 ·exact fI_ rfl ⟨true,by rw[<-hs1 (by omega)];rfl,by simp;omega⟩
 ·exact fI_ rfl ⟨false,by rw[<-hs2 (by omega)];rfl,by simp;omega⟩
theorem Za(k n:Int)(hk:3<=k/\k<=10)(hn:BH n)(h:EH):Tri Tryz.prog gs 108 [.lit (.int .i64 k),.lit (.int .i64 n)] h fun v h'=>IsP (Cy k n) v/\h'=h:=by
 refine Tri.boolC rfl (Bj F108_ok fun I0 ρ0 w0 Q hρ hQ=>?_) h
 obtain⟨A,hA⟩:∃A,A=stdA:=⟨_,rfl⟩
 with_reducible refine Be hA hd hQ 200 ?hk ?_
 case hk=>trivial
 conv=>arg 9;cbv
 try simp only[OK]
 refine cO (Bb F127_ok) (tM (zBw k hk _) fun v hh hx=>?_)
 obtain⟨⟨b,hv,hb⟩,hh'⟩:=hx
 subst hv;subst hh'
 obtain⟨B,hB⟩:∃B,B=Jm k:=⟨_,rfl⟩
 rw[<-hB]
 have hc:k=3\/k=4\/k=5\/k=6\/k=7\/k=8\/k=9\/k=10:=by omega
 have hs1:B≠64->k<=6->A.sh .shl .i64 1 (A.ib .sub .i64 B 1)=(if k=3 then 128 else if k=4 then 32768 else 2147483648):=fun h0 h=>by
  rw[hA,hB];rw[hB]at h0;rcases hc with rfl|rfl|rfl|rfl|rfl|rfl|rfl|rfl<;>first|rfl|omega|exact absurd rfl h0
 have hs0:B≠64->k<=6->A.sh .shl .i64 (-1) (A.ib .sub .i64 B 1)=(if k=3 then -128 else if k=4 then -32768 else -2147483648):=fun h0 h=>by
  rw[hA,hB];rw[hB]at h0;rcases hc with rfl|rfl|rfl|rfl|rfl|rfl|rfl|rfl<;>first|rfl|omega|exact absurd rfl h0
 have hs2:B≠64->¬k<=6->A.sh .shl .i64 1 B=(if k=7 then 256 else if k=8 then 65536 else 4294967296):=fun h0 h=>by
  rw[hA,hB];rw[hB]at h0;rcases hc with rfl|rfl|rfl|rfl|rfl|rfl|rfl|rfl<;>first|rfl|omega|exact absurd rfl h0
 have hnn:0<=B-1/\0<=B/\B<=64:=by rw[hB];rcases hc with rfl|rfl|rfl|rfl|rfl|rfl|rfl|rfl<;>decide
 have hfin:B=64->Cy k n:=fun h=>by rw[hB]at h;rcases hc with rfl|rfl|rfl|rfl|rfl|rfl|rfl|rfl<;>first|trivial|exact absurd h (by decide)
 have h64:B≠64->k≠6/\k≠10:=fun h=>by rw[hB]at h;rcases hc with rfl|rfl|rfl|rfl|rfl|rfl|rfl|rfl<;>first|decide|exact absurd rfl h
 obtain⟨X1,hX1⟩:∃X:Int,X=if k=3 then 128 else if k=4 then 32768 else 2147483648:=⟨_,rfl⟩
 obtain⟨X0,hX0⟩:∃X:Int,X=if k=3 then -128 else if k=4 then -32768 else -2147483648:=⟨_,rfl⟩
 obtain⟨X2,hX2⟩:∃X:Int,X=if k=7 then 256 else if k=8 then 65536 else 4294967296:=⟨_,rfl⟩
 rw[<-hX1]at hs1;rw[<-hX0]at hs0;rw[<-hX2]at hs2
 rw[hA]at hs1 hs0 hs2
 rw[PK _ _ (by omega) (by omega)]at hs1 hs0
 have hb1:b=true->k<=6:=hb.1
 have hb2:b=false->¬k<=6:=fun h h2=>by rw[hb.2 h2]at h;cases h
 clear hb
 with_reducible refine Bd hA hd hQ 1 ?hk ?_
 case hk=>trivial
 conv=>arg 9;cbv
 try simp only[OK]
 cases b
 ·have hk6:=hb2 rfl
  repeat' first|((with_reducible refine⟨fun hbr=>?_,fun hbr=>?_⟩)<;>(try simp(disch:=omega)only[hA,Ba]at hbr)<;>(try (with_reducible exfalso;omega)))|((with_reducible refine Bd hA hd hQ 200 ?hk ?_);(case hk=>trivial);(conv=>arg 9;cbv);(try simp only[OK]))|((with_reducible refine Bp ?hn ?_);(case hn=>((simp(disch:=omega)only[hA,Ba])<;>omega)))
  all_goals (try (with_reducible refine FinR.self ?_;first|refine FinR.bl rfl ?_|refine FinR.bs rfl ?_|refine FinR.blh rfl ?_ rfl|refine FinR.bsh rfl ?_ rfl))
  all_goals (try simp(disch:=omega)only[hA,Ba,bF,true_iff,false_iff,eq_self,hs2])
  ·exact hfin hbr
  all_goals have h6:=h64 (by assumption)
  all_goals unfold Cy
  all_goals (repeat' split at hX2)
  all_goals (repeat' split)
  all_goals omega
 ·have hk6:=hb1 rfl
  repeat' first|((with_reducible refine⟨fun hbr=>?_,fun hbr=>?_⟩)<;>(try simp(disch:=omega)only[hA,Ba,hs0]at hbr)<;>(try (with_reducible exfalso;omega)))|((with_reducible refine Bd hA hd hQ 200 ?hk ?_);(case hk=>trivial);(conv=>arg 9;cbv);(try simp only[OK]))|((with_reducible refine Bp ?hn ?_);(case hn=>((simp(disch:=omega)only[hA,Ba])<;>omega)))
  all_goals (try (with_reducible refine FinR.self ?_;first|refine FinR.bl rfl ?_|refine FinR.bs rfl ?_|refine FinR.blh rfl ?_ rfl|refine FinR.bsh rfl ?_ rfl))
  all_goals (try simp(disch:=omega)only[hA,Ba,bF,true_iff,false_iff,eq_self,hs1])
  ·exact hfin hbr
  all_goals have h6:=h64 (by assumption)
  all_goals unfold Cy
  all_goals (repeat' split at hX1)
  all_goals (repeat' split at hX0)
  all_goals (repeat' split)
  all_goals omega
def LJ(k:Int):Fld:=.mk ⟨#[97]⟩ false k 0 0 0 []
theorem zAL:HU ⟨#[97]⟩:=⟨by decide,by decide,fun i hi=>by
 have:i=0:=by have:(⟨#[97]⟩:ByteArray).size=1:=rfl;omega
 subst this
 exact .inl ⟨by decide,by decide⟩,by decide⟩
theorem Zt(k:Int)(hk:2<=k/\k<=13):B7 (LJ k):=by
 refine⟨by simp,by simp,by simp,?_⟩
 simp only[BM,Cq,LJ,Ce,List.append_nil,List.length_nil,ite_self,lN]
 refine⟨by simp,⟨by simp,zAL,by simp,?_,?_,by simp,?_⟩,trivial⟩
 ·refine⟨by show 1<=k;omega,by show k<=20;omega,?_⟩
  simp only[Hb,JB,Kd,Ja,G5,List.length_nil];rw[if_neg (by omega),if_neg (by omega),if_neg (by omega),if_neg (by omega),if_neg (by omega),if_neg (by omega)]
  simp
 ·exact⟨fun h=>by simp only[Hb]at h;omega,fun _=>rfl,fun h=>by simp only[Hb]at h;omega⟩
 ·rintro⟨h,_⟩
  simp only[Hb]at h;omega
def Dr(k:Int):List EV:=[.lit (.string ⟨#[97]⟩),.lit (.bool false),.lit (.int .i64 k),.lit (.int .i64 0),.lit (.int .i64 0),.lit (.int .i64 0),.isl 0 none []]
theorem Ti(k:Int)(hk:2<=k/\k<=13)(h:EH):Tri Tryz.prog gs 53 [.agg (Dr k)] h fun v h'=>IsP True v/\h'=h:=by
 have hc:=Kj (LJ k) ⟨by decide,⟨by omega,by omega⟩,⟨by omega,by omega⟩,⟨by omega,by omega⟩,⟨by omega,by omega⟩,by simp,trivial⟩
 have hm:=Zt k hk
 rw[show Bo (LJ k)=Dr k from rfl]at hc
 refine Tri.boolC rfl (Bj F53_ok fun I0 ρ0 w0 Q hρ hQ=>?_) h
 obtain⟨A,hA⟩:∃A,A=stdA:=⟨_,rfl⟩
 unfold Dr at hc ⊢
 with_reducible refine Be hA hd hQ 200 ?hk ?_
 case hk=>trivial
 conv=>arg 9;cbv
 try simp only[OK]
 refine cO (Bb F10_ok) (tM (hc _) fun v hh hx=>?_)
 obtain⟨⟨e,at',pn,pc,hv,he⟩,hh'⟩:=hx
 subst hv;subst hh'
 with_reducible refine Bd hA hd hQ 1 ?hk ?_
 case hk=>trivial
 conv=>arg 9;cbv
 try simp only[OK]
 repeat' first|((with_reducible refine Bd hA hd hQ 200 ?hk ?_);(case hk=>trivial);(conv=>arg 9;cbv);(try simp only[OK]))
 all_goals (try (with_reducible refine FinR.self ?_;first|refine FinR.bl rfl ?_|refine FinR.bs rfl ?_|refine FinR.blh rfl ?_ rfl|refine FinR.bsh rfl ?_ rfl))
 all_goals (try simp(disch:=omega)only[hA,Ba,iff_true])
 all_goals exact he.2 hm
theorem zEg (k n : Int) (t : ByteArray) (c : List EV) (hk : 2 ≤ k ∧ k ≤ 11) (hn : BH n) (ht : t.size ≤ 140737488351232) :
    Tri Tryz.prog gs 79 [.ptr 0 0, .agg (Dr k), .agg [.lit (.bool false), .lit (.int .i64 n), .lit (.string t), .isl 0 none c]] [.blk [.lit (.int .i64 4194304)]] fun v _ => IsP (t.size = 0 ∧ Cy k n) v := by
  refine Tri.up (R := fun v _ => ∃ b : Bool, (v = .lit (.bool b) ∨ v = .sb b) ∧ (b = true ↔ t.size = 0 ∧ Cy k n)) ?_ fun v h' ⟨b, hv, hb⟩ => ⟨.sb b, ⟨b, rfl, hb⟩, by rcases hv with rfl | rfl; exact Up.sb _; exact Up.refl _⟩
  refine Bj F79_ok fun I0 ρ0 w0 Q hρ hQ => ?_
  obtain ⟨A, hA⟩ : ∃ A, A = stdA := ⟨_, rfl⟩
  unfold Dr
  have hemp := KE t
  with_reducible refine Be hA hd hQ 200 ?hk ?_
  case hk => trivial
  conv => arg 9; cbv
  try simp only [OK]
  repeat' first | ((with_reducible refine ⟨fun hbr => ?_, fun hbr => ?_⟩) <;> (try simp (disch := omega) only [hA, Ba, reduceCtorEq] at hbr) <;> (try (with_reducible exfalso; omega))) | ((with_reducible refine Bd hA hd hQ 200 ?hk ?_); (case hk => trivial); (conv => arg 9; cbv); (try simp only [OK])) | (refine cO (Bb F107_ok) (tM (zA9 _ _) fun v hh hx => ?_); (obtain ⟨⟨b, hv, hb⟩, he⟩ := hx; subst hv; subst he; cases b <;> simp (disch := omega) only [bF, true_iff, false_iff, eq_self] at hb) <;> (try (with_reducible exfalso; omega))) | (refine cO (Bb F108_ok) (tM (Za k n (by omega) hn _) fun v hh hx => ?_); (obtain ⟨⟨b, hv, hb⟩, he⟩ := hx; subst hv; subst he; cases b <;> simp (disch := omega) only [bF, true_iff, false_iff, eq_self] at hb) <;> (try (with_reducible exfalso; omega)))
  all_goals (try (with_reducible refine FinR.self ?_; first | refine FinR.bl rfl ?_ | refine FinR.bs rfl ?_ | refine FinR.blh rfl ?_ rfl | refine FinR.bsh rfl ?_ rfl))
  all_goals (try simp (disch := omega) only [hA, Ba, bF, true_iff, false_iff, eq_self])
  all_goals first
    | exact fun h => by have := h.1; omega
    | exact fun h => absurd (hemp.2 h.1) (by assumption)
    | (have h0 : t.size = 0 := hemp.1 (Classical.byContradiction (by assumption))
       first
        | exact ⟨h0, by assumption⟩
        | exact fun h => absurd h.2 (by assumption)
        | exact ⟨h0, by unfold Cy; rw [if_pos (by assumption)]; exact .inl (by assumption)⟩
        | exact ⟨fun h => ⟨h0, by unfold Cy; rw [if_pos (by assumption)]; exact .inr h⟩, fun h => by have := h.2; unfold Cy at this; rw [if_pos (by assumption)] at this; omega⟩
        | exact ⟨h0, by rw [show k = 11 by assumption]; simp [Cy]⟩)
theorem PI(k n:Int)(t:ByteArray)(c:List EV)(hk:2<=k/\k<=11)(hn:BH n)(ht:t.size<=140737488351232)(h:EH) :
  Tri Tryz.prog gs 54 [.agg (Dr k),.agg [.lit (.bool false),.lit (.int .i64 n),.lit (.string t),.isl 0 none c]] h fun v h'=>IsP (t.size=0/\Cy k n) v/\h'=h:=by
 refine Tri.boolC rfl (Bj F54_ok fun I0 ρ0 w0 Q hρ hQ=>?_) h
 obtain⟨A,hA⟩:∃A,A=stdA:=⟨_,rfl⟩
 have hf:=zEg k n t c hk hn ht
 unfold Dr at hf ⊢
 with_reducible refine Be hA hd hQ 200 ?hk ?_
 case hk=>trivial
 conv=>arg 9;cbv
 try simp only[OK]
 refine cO (Bb F79_ok) (tM (Tri.sub [2] [] ⟨by decide,by simp[Bc],by simp⟩ (by simp) hf (.inl rfl)) fun v hh hx=>?_)
 obtain⟨v0,h0,⟨b,hv0,hb⟩,hv,hh'⟩:=hx
 subst hv0;subst hv
 clear hh'
 with_reducible refine Bd hA hd hQ 1 ?hk ?_
 case hk=>trivial
 conv=>arg 9;cbv
 try simp only[OK]
 repeat' first|((with_reducible refine Bd hA hd hQ 200 ?hk ?_);(case hk=>trivial);(conv=>arg 9;cbv);(try simp only[OK]))
 all_goals (try (with_reducible refine FinR.self ?_;first|refine FinR.bl rfl ?_|refine FinR.bs rfl ?_|refine FinR.blh rfl ?_ rfl|refine FinR.bsh rfl ?_ rfl))
 all_goals (try simp(disch:=omega)only[hA,OK,Ba,Int.reduceToNat,GH,bF,true_iff,false_iff,eq_self,iff_true,iff_false])
 all_goals exact hb
theorem Yn(k n:Int)(t:ByteArray)(c:List EV)(hk:2<=k/\k<=11)(hn:BH n)(ht:t.size<=140737488351232)(h:EH) :
  Tri Tryz.prog gs 56 [.agg (Dr k),.agg [.lit (.bool false),.lit (.int .i64 n),.lit (.string t),.isl 0 none c]] h fun v h'=>IsN .i64 (fun e=>e=0↔t.size=0/\Cy k n) v/\h'=h:=by
 refine Tri.intC rfl (Bj F56_ok fun I0 ρ0 w0 Q hρ hQ=>?_) h
 obtain⟨A,hA⟩:∃A,A=stdA:=⟨_,rfl⟩
 have hg:=PI k n t c hk hn ht
 have hm:=Ti k (by omega)
 unfold Dr at hg hm ⊢
 with_reducible refine Be hA hd hQ 200 ?hk ?_
 case hk=>trivial
 conv=>arg 9;cbv
 try simp only[OK]
 repeat' first|((with_reducible refine⟨fun hbr=>?_,fun hbr=>?_⟩)<;>(try simp(disch:=omega)only[hA,Ba,reduceCtorEq]at hbr)<;>(try (with_reducible exfalso;omega)))|((with_reducible refine Bd hA hd hQ 200 ?hk ?_);(case hk=>trivial);(conv=>arg 9;cbv);(try simp only[OK]))|(refine cO (Bb F53_ok) (tM (hm _) fun v hh hx=>?_);(obtain⟨⟨b,hv,hb⟩,he⟩:=hx;subst hv;subst he;cases b<;>simp(disch:=omega)only[bF,false_iff,eq_self]at hb)<;>(try (with_reducible exfalso;omega)))|(refine cO (Bb F54_ok) (tM (hg _) fun v hh hx=>?_);(obtain⟨⟨b,hv,hb⟩,he⟩:=hx;subst hv;subst he;cases b<;>simp(disch:=omega)only[bF,true_iff,false_iff,eq_self]at hb)<;>(try (with_reducible exfalso;omega)))
 all_goals (try (with_reducible refine FinR.self ?_;first|refine FinR.n rfl ?_|refine FinR.nh rfl ?_ rfl))
 all_goals (try simp(disch:=omega)only[true_iff,eq_self])
 all_goals first
  |exact absurd trivial (by assumption)
  |exact⟨fun h=>absurd h (by decide),fun h=>absurd h (by assumption)⟩
  |assumption
def Ez(k a b:Int):Int:=if k=10 then sgn (stdA.wr .u64 a) (stdA.wr .u64 b)else if k=11 then sgn (ES a) (ES b)else sgn a b
theorem Zo(k a b:Int)(t u:ByteArray)(c d:List EV)(hk:2<=k/\k<=11)(ha:BH a)(hb0:BH b)(h:EH) :
  Tri Tryz.prog gs 55 [.agg (Dr k),.agg [.lit (.bool false),.lit (.int .i64 a),.lit (.string t),.isl 0 none c],.agg [.lit (.bool false),.lit (.int .i64 b),.lit (.string u),.isl 0 none d]] h fun v h'=>IsN .i64 (fun e=>e=Ez k a b) v/\h'=h:=by
 refine Tri.intC rfl (Bj F55_ok fun I0 ρ0 w0 Q hρ hQ=>?_) h
 obtain⟨A,hA⟩:∃A,A=stdA:=⟨_,rfl⟩
 unfold Dr
 with_reducible refine Be hA hd hQ 200 ?hk ?_
 case hk=>trivial
 conv=>arg 9;cbv
 try simp only[OK]
 repeat' first|(with_reducible refine And.intro trivial ?_)|((with_reducible refine⟨fun hbr=>?_,fun hbr=>?_⟩)<;>(try simp(disch:=omega)only[hA,Ba]at hbr)<;>(try (with_reducible exfalso;omega)))|((with_reducible refine Bd hA hd hQ 200 ?hk ?_);(case hk=>trivial);(conv=>arg 9;cbv);(try simp only[OK]))|(refine cO (Bb F82_ok) (tM (zD1 _ _ _) fun v hh hx=>?_);(obtain⟨⟨z,hv,hz⟩,he⟩:=hx;subst hv;subst he))|(refine cO (Bb F80_ok) (tM (ZF _ _ _) fun v hh hx=>?_);(obtain⟨⟨z,hv,hz⟩,he⟩:=hx;subst hv;subst he))|(refine cO (Bb F81_ok) (tM (zEd _ (by assumption) _) fun v hh hx=>?_);(obtain⟨⟨z,hv,hz⟩,he⟩:=hx;subst hv;subst he))
 all_goals (try (with_reducible refine FinR.self ?_;first|refine FinR.n rfl ?_|refine FinR.nh rfl ?_ rfl))
 all_goals (try simp(disch:=omega)only[hA,OK,Ba,Int.reduceToNat,GH,bF,true_iff,false_iff,eq_self,iff_true,iff_false])
 all_goals unfold Ez
 ·rw[if_pos (by assumption),hz,hA]
 ·rw[if_neg (by assumption),if_pos (by assumption),hz];simp_all
 ·rw[if_neg (by assumption),if_neg (by assumption),hz]
def Val.null:Val->Bool | .mk b _ _ _=>b
def Val.num:Val->Int | .mk _ n _ _=>n
def Val.text:Val->ByteArray | .mk _ _ t _=>t
def HJ(b:Bool)(n:Int)(t:ByteArray)(ln:Nat):Prop:=b=false/\n=0/\t.size=0/\ln=0
def E6(k:Int)(b:Bool)(n:Int)(t:ByteArray)(ln:Nat):Prop:=b=false/\ln=0/\if 12<=k then n=0/\t.size<=16 else t.size=0/\Cy k n
def BZ(k:Int)(a b:Int)(t u:ByteArray):Int:=if 12<=k then C1 t u else Ez k a b
theorem Su(b:Bool)(n:Int)(t:ByteArray)(ln:Nat)(c:List EV)(h:EH):Tri Tryz.prog gs 35 [.agg [.lit (.bool b),.lit (.int .i64 n),.lit (.string t),.isl ln none c]] h fun v h'=>IsP (HJ b n t ln) v/\h'=h:=by
 refine Tri.boolC rfl (Bj F35_ok fun I0 ρ0 w0 Q hρ hQ=>?_) h
 obtain⟨A,hA⟩:∃A,A=stdA:=⟨_,rfl⟩
 have he:=KE t
 cases b
 all_goals
  with_reducible refine Be hA hd hQ 200 ?hk ?_
  case hk=>trivial
  conv=>arg 9;cbv
  try simp only[OK]
  repeat' first|((with_reducible refine⟨fun hbr=>?_,fun hbr=>?_⟩)<;>(try simp(disch:=omega)only[hA,Ba]at hbr)<;>(try (with_reducible exfalso;omega)))|((with_reducible refine Bd hA hd hQ 200 ?hk ?_);(case hk=>trivial);(conv=>arg 9;cbv);(try simp only[OK]))
 all_goals (try (with_reducible refine FinR.self ?_;first|refine FinR.bl rfl ?_|refine FinR.bs rfl ?_|refine FinR.blh rfl ?_ rfl|refine FinR.bsh rfl ?_ rfl))
 all_goals (try simp(disch:=omega)only[hA,Ba,bF,false_iff])
 all_goals unfold HJ
 all_goals (try simp only[he]at *)
 all_goals (first|omega|(simp;done)|(simp;omega)|(simp_all;done)|(simp_all;omega))
def Hz(nm:ByteArray)(nul:Bool)(k w i x:Int)(kn:Nat)(kc:List EV):List EV:=[.lit (.string nm),.lit (.bool nul),.lit (.int .i64 k),.lit (.int .i64 w),.lit (.int .i64 i),.lit (.int .i64 x),.isl kn none kc]
theorem Ve(nm:ByteArray)(nul:Bool)(k w i x:Int)(kn:Nat)(kc:List EV)(hk:2<=k/\k<=14)(hz:k<=11->w=0/\i=0/\x=0/\kn=0/\kc=[])
  (b:Bool) (n:Int) (t:ByteArray) (ln:Nat) (c:List EV) (hn:BH n) (ht:t.size<=140737488351232) (hln:ln<=140737488351232) (h:EH) :
  Tri Tryz.prog gs 36 [.agg (Hz nm nul k w i x kn kc),.agg [.lit (.bool b),.lit (.int .i64 n),.lit (.string t),.isl ln none c]] h fun v h'=>IsP (E6 k b n t ln) v/\h'=h:=by
 refine Tri.boolC rfl (Bj F36_ok fun I0 ρ0 w0 Q hρ hQ=>?_) h
 obtain⟨A,hA⟩:∃A,A=stdA:=⟨_,rfl⟩
 have hf:=fun hk=>Yn k n t c hk hn ht
 unfold Hz
 unfold Dr at hf
 by_cases h11:k<=11
 ·obtain⟨rfl,rfl,rfl,rfl,rfl⟩:=hz h11
  by_cases hl:ln=0
  ·subst hl
   cases b
   all_goals
    with_reducible refine Be hA hd hQ 200 ?hk ?_
    case hk=>trivial
    conv=>arg 9;cbv
    try simp only[OK]
    repeat' first|((with_reducible refine⟨fun hbr=>?_,fun hbr=>?_⟩)<;>(try simp(disch:=omega)only[hA,Ba,reduceCtorEq]at hbr)<;>(try (with_reducible exfalso;omega)))|((with_reducible refine Bd hA hd hQ 200 ?hk ?_);(case hk=>trivial);(conv=>arg 9;cbv);(try simp only[OK]))|(refine cO (Bb F17_ok) (tM (Jq _ _) fun v hh hx=>?_);(obtain⟨⟨b,hv,hb⟩,he⟩:=hx;subst hv;subst he;cases b<;>simp(disch:=omega)only[bF,true_iff,false_iff,eq_self]at hb)<;>(try (with_reducible exfalso;omega)))|(refine cO (Bb F56_ok) (tM (hf (by omega) _) fun v hh hx=>?_);(obtain⟨⟨z,hv,hz⟩,he⟩:=hx;subst hv;subst he))
   all_goals (try (with_reducible refine FinR.self ?_;first|refine FinR.bl rfl ?_|refine FinR.bs rfl ?_|refine FinR.blh rfl ?_ rfl|refine FinR.bsh rfl ?_ rfl))
   all_goals (try simp(disch:=omega)only[hA,Ba,bF,false_iff])
   all_goals unfold E6
   all_goals (try rw[if_neg (by omega)])
   all_goals (first|omega|(simp;done)|(simp_all;done))
  ·cases b
   all_goals
    with_reducible refine Be hA hd hQ 200 ?hk ?_
    case hk=>trivial
    conv=>arg 9;cbv
    try simp only[OK]
    repeat' first|((with_reducible refine⟨fun hbr=>?_,fun hbr=>?_⟩)<;>(try simp(disch:=omega)only[hA,Ba]at hbr)<;>(try (with_reducible exfalso;omega)))|((with_reducible refine Bd hA hd hQ 200 ?hk ?_);(case hk=>trivial);(conv=>arg 9;cbv);(try simp only[OK]))
   all_goals (try (with_reducible refine FinR.self ?_;first|refine FinR.bl rfl ?_|refine FinR.bs rfl ?_|refine FinR.blh rfl ?_ rfl|refine FinR.bsh rfl ?_ rfl))
   all_goals (try simp(disch:=omega)only[bF,false_iff])
   all_goals unfold E6
   all_goals (first|(simp;done)|(simp[hl];done))
 ·cases b
  all_goals
   with_reducible refine Be hA hd hQ 200 ?hk ?_
   case hk=>trivial
   conv=>arg 9;cbv
   try simp only[OK]
   repeat' first|((with_reducible refine⟨fun hbr=>?_,fun hbr=>?_⟩)<;>(try simp(disch:=omega)only[hA,Ba,reduceCtorEq]at hbr)<;>(try (with_reducible exfalso;omega)))|((with_reducible refine Bd hA hd hQ 200 ?hk ?_);(case hk=>trivial);(conv=>arg 9;cbv);(try simp only[OK]))|(refine cO (Bb F17_ok) (tM (Jq _ _) fun v hh hx=>?_);(obtain⟨⟨b,hv,hb⟩,he⟩:=hx;subst hv;subst he;cases b<;>simp(disch:=omega)only[bF,true_iff,false_iff,eq_self]at hb)<;>(try (with_reducible exfalso;omega)))
  all_goals (try (with_reducible refine FinR.self ?_;first|refine FinR.bl rfl ?_|refine FinR.bs rfl ?_|refine FinR.blh rfl ?_ rfl|refine FinR.bsh rfl ?_ rfl))
  all_goals (try simp(disch:=omega)only[hA,Ba,bF,false_iff])
  all_goals unfold E6
  all_goals (try rw[if_pos (by omega)])
  all_goals (first|omega|(simp;done)|(simp;omega)|(simp_all;done)|(simp_all;omega))
theorem zAd(k a b:Int)(t u:ByteArray)(c d:List EV)(hk:2<=k/\k<=11)(ha:BH a)(hb0:BH b)(ht:t.size=0/\Cy k a)(hu:u.size=0/\Cy k b)(h:EH) :
  Tri Tryz.prog gs 34 [.agg (Dr k),.agg [.lit (.bool false),.lit (.int .i64 a),.lit (.string t),.isl 0 none c],.agg [.lit (.bool false),.lit (.int .i64 b),.lit (.string u),.isl 0 none d]] h fun v h'=>v = .tup [.lit (.int .i64 (Ez k a b)),.lit (.int .i64 0)]/\h'=h:=by
 refine Tri.valC rfl rfl (Bj F34_ok fun I0 ρ0 w0 Q hρ hQ=>?_) h
 obtain⟨A,hA⟩:∃A,A=stdA:=⟨_,rfl⟩
 have hm:=Ti k (by omega)
 have hga:=PI k a t c hk ha (by omega)
 have hgb:=PI k b u d hk hb0 (by omega)
 have ho:=Zo k a b t u c d hk ha hb0
 obtain⟨O,hO⟩:∃O,O=Ez k a b:=⟨_,rfl⟩
 rw[<-hO]at ho hQ
 unfold Dr at hga hgb hm ho ⊢
 with_reducible refine Be hA hd hQ 200 ?hk ?_
 case hk=>trivial
 conv=>arg 9;cbv
 try simp only[OK]
 repeat' first|((with_reducible refine⟨fun hbr=>?_,fun hbr=>?_⟩)<;>(try simp(disch:=omega)only[hA,Ba,reduceCtorEq]at hbr)<;>(try (with_reducible exfalso;omega)))|((with_reducible refine Bd hA hd hQ 200 ?hk ?_);(case hk=>trivial);(conv=>arg 9;cbv);(try simp only[OK]))|(refine cO (Bb F53_ok) (tM (hm _) fun v hh hx=>?_);(obtain⟨⟨b,hv,hb⟩,he⟩:=hx;subst hv;subst he;cases b<;>simp(disch:=omega)only[bF,false_iff,eq_self]at hb)<;>(try (with_reducible exfalso;omega)))|(refine cO (Bb F54_ok) (tM (hga _) fun v hh hx=>?_);(obtain⟨⟨b,hv,hb⟩,he⟩:=hx;subst hv;subst he;cases b<;>simp(disch:=omega)only[bF,true_iff,false_iff,eq_self]at hb)<;>(try (with_reducible exfalso;omega)))|(refine cO (Bb F54_ok) (tM (hgb _) fun v hh hx=>?_);(obtain⟨⟨b,hv,hb⟩,he⟩:=hx;subst hv;subst he;cases b<;>simp(disch:=omega)only[bF,true_iff,false_iff,eq_self]at hb)<;>(try (with_reducible exfalso;omega)))|(refine cO (Bb F55_ok) (tM (ho _) fun v hh hx=>?_);(obtain⟨⟨z,hv,hz⟩,he⟩:=hx;subst hv;subst he))
 all_goals first
  |exact absurd trivial (by assumption)
  |exact absurd ht (by assumption)
  |exact absurd hu (by assumption)
  |(exact fI_ rfl (by rw[<-hz];rfl))
theorem RC(nm:ByteArray)(nul:Bool)(k w i x:Int)(kn:Nat)(kc:List EV)(hk:2<=k/\k<=14)(hz:k<=11->w=0/\i=0/\x=0/\kn=0/\kc=[])
  (a b:Int) (t u:ByteArray) (c d:List EV) (ha:BH a) (hb0:BH b) (hn:k<=11->(t.size=0/\Cy k a)/\u.size=0/\Cy k b) (h:EH) :
  Tri Tryz.prog gs 16 [.agg (Hz nm nul k w i x kn kc),.agg [.lit (.bool false),.lit (.int .i64 a),.lit (.string t),.isl 0 none c],.agg [.lit (.bool false),.lit (.int .i64 b),.lit (.string u),.isl 0 none d]] h fun v h'=>IsN .i64 (fun n=>n=BZ k a b t u) v/\h'=h:=by
 refine Tri.intC rfl (Bj F16_ok fun I0 ρ0 w0 Q hρ hQ=>?_) h
 obtain⟨A,hA⟩:∃A,A=stdA:=⟨_,rfl⟩
 unfold Hz
 have hst:∀h,Tri Tryz.prog gs 33 [.lit (.string t),.lit (.string u)] h fun v h'=>IsN .i64 (fun n=>n=C1 t u) v/\h'=h:=fun h=>(UC t u h).mono fun v h' hx=>⟨⟨_,hx.1,rfl⟩,hx.2⟩
 by_cases h11:k<=11
 ·obtain⟨rfl,rfl,rfl,rfl,rfl⟩:=hz h11
  have hc:=zAd k a b t u c d (by omega) ha hb0 (hn h11).1 (hn h11).2
  unfold Dr at hc
  with_reducible refine Be hA hd hQ 200 ?hk ?_
  case hk=>trivial
  conv=>arg 9;cbv
  try simp only[OK]
  repeat' first|((with_reducible refine⟨fun hbr=>?_,fun hbr=>?_⟩)<;>(try simp(disch:=omega)only[reduceCtorEq]at hbr)<;>(try (with_reducible exfalso;omega)))|((with_reducible refine Bd hA hd hQ 200 ?hk ?_);(case hk=>trivial);(conv=>arg 9;cbv);(try simp only[OK]))|(refine cO (Bb F17_ok) (tM (Jq _ _) fun v hh hx=>?_);(obtain⟨⟨b,hv,hb⟩,he⟩:=hx;subst hv;subst he;cases b<;>simp(disch:=omega)only[bF,true_iff,false_iff,eq_self]at hb)<;>(try (with_reducible exfalso;omega)))
  all_goals
   refine cO (Bb F34_ok) (tM (hc _) fun v hh hx=>?_)
   obtain⟨hv,hh'⟩:=hx;obtain⟨O,hO⟩:∃O,O=Ez k a b:=⟨_,rfl⟩;rw[<-hO]at hv;subst hv;subst hh'
   with_reducible refine Bd hA hd hQ 1 ?hk ?_
   case hk=>trivial
   conv=>arg 9;cbv
   try simp only[OK]
   repeat' first|((with_reducible refine Bd hA hd hQ 200 ?hk ?_);(case hk=>trivial);(conv=>arg 9;cbv);(try simp only[OK]))
   exact FinR.n rfl (by rw[BZ,if_neg (by omega),<-hO])
 ·have hkk:¬k<=11:=h11
  with_reducible refine Be hA hd hQ 200 ?hk ?_
  case hk=>trivial
  conv=>arg 9;cbv
  try simp only[OK]
  repeat' first|((with_reducible refine⟨fun hbr=>?_,fun hbr=>?_⟩)<;>(try simp(disch:=omega)only[reduceCtorEq]at hbr)<;>(try (with_reducible exfalso;omega)))|((with_reducible refine Bd hA hd hQ 200 ?hk ?_);(case hk=>trivial);(conv=>arg 9;cbv);(try simp only[OK]))|(refine cO (Bb F17_ok) (tM (Jq _ _) fun v hh hx=>?_);(obtain⟨⟨b,hv,hb⟩,he⟩:=hx;subst hv;subst he;cases b<;>simp(disch:=omega)only[bF,true_iff,false_iff,eq_self]at hb)<;>(try (with_reducible exfalso;omega)))
  all_goals
   refine cO Zm (tM (UC t u _) fun v hh hx=>?_)
   obtain⟨hv,hh'⟩:=hx;obtain⟨O,hO⟩:∃O,O=C1 t u:=⟨_,rfl⟩;rw[<-hO]at hv;subst hv;subst hh'
   with_reducible refine Bd hA hd hQ 1 ?hk ?_
   case hk=>trivial
   conv=>arg 9;cbv
   try simp only[OK]
   repeat' first|((with_reducible refine Bd hA hd hQ 200 ?hk ?_);(case hk=>trivial);(conv=>arg 9;cbv);(try simp only[OK]))
   exact FinR.n rfl (by rw[BZ,if_pos (by omega),<-hO])
structure VP where
 b:Bool
 n:Int
 t:ByteArray
 ln:Nat
 c:List EV
def VP.ok(v:VP):Prop:=BH v.n/\v.t.size<=140737488351232/\v.ln<=140737488351232
def VP.cells(v:VP):List EV:=[.lit (.bool v.b),.lit (.int .i64 v.n),.lit (.string v.t),.isl v.ln none v.c]
def VP.none(v:VP):Prop:=HJ v.b v.n v.t v.ln
def VP.bnd(k:Int)(v:VP):Prop:=E6 k v.b v.n v.t v.ln
def K7(k rows nulls:Int)(has:Bool)(l m:VP):Prop:=
 0<=rows/\rows<=1048576/\0<=nulls/\nulls<=rows/\(has=false->l.none/\m.none)/\(has=true->(2<=k/\k<=14)/\nulls≠rows/\l.bnd k/\m.bnd k/\BZ k l.n m.n l.t m.t<=0)
theorem Rk{f:Fld}(h:CJ f)(hk:2<=f.kind/\f.kind<=14):f.kind<=11->f.width=0/\f.id=0/\f.idx=0/\f.kids.length=0/\Bl f.kids=[]:=fun h11=>by
 obtain⟨nm,nul,k,w,i,x,kids⟩:=f
 simp only[Hb,JB,Kd,Ja,G5]at *
 obtain⟨_,⟨_,_,h⟩,_⟩:=h
 rw[if_neg (by omega),if_neg (by omega),if_neg (by omega),if_neg (by omega),if_neg (by omega),if_neg (by omega)]at h
 obtain⟨h1,h2,h3,h4⟩:=h
 exact⟨h1,h2,h3,h4,by rw[List.length_eq_zero_iff.1 h4];rfl⟩
theorem TU(nm:ByteArray)(nul:Bool)(k w i x:Int)(kn:Nat)(kc:List EV)(hk:2<=k/\k<=14)(hz:k<=11->w=0/\i=0/\x=0/\kn=0/\kc=[])(l m:VP)(hlo:l.ok)(hmo:m.ok)(hl:l.bnd k)(hm:m.bnd k)(h:EH) :
  Tri Tryz.prog gs 16 [.agg (Hz nm nul k w i x kn kc),.agg l.cells,.agg m.cells] h fun v h'=>IsN .i64 (fun n=>n=BZ k l.n m.n l.t m.t) v/\h'=h:=by
 obtain⟨lb,ln,lt,ll,lc⟩:=l
 obtain⟨mb,mn,mt,ml,mc⟩:=m
 obtain⟨h1,h2,h3⟩:=hl
 obtain⟨h4,h5,h6⟩:=hm
 simp only at h1 h2 h4 h5
 subst h1;subst h2;subst h4;subst h5
 exact RC nm nul k w i x kn kc hk hz ln mn lt mt lc mc hlo.1 hmo.1 (fun h11=>by
  rw[if_neg (by omega)]at h3 h6
  exact⟨h3,h6⟩) h
theorem Sv(f g:Fld)(hall:CJ f)(hcore:Core f g)(hg:CJ g)(rows nulls:Int)(has:Bool)(l m:VP)(hlo:l.ok)(hmo:m.ok)(h:EH) :
  Tri Tryz.prog gs 20 [.agg (Bo f),.agg ([.lit (.int .i64 rows),.lit (.int .i64 nulls),.lit (.bool has)]++l.cells++m.cells)] h fun v h'=>IsP (K7 g.kind rows nulls has l m) v/\h'=h:=by
 refine Tri.boolC (by rw[BF];rfl) (Bj F20_ok fun I0 ρ0 w0 Q hρ hQ=>?_) h
 obtain⟨A,hA⟩:∃A,A=stdA:=⟨_,rfl⟩
 have hpl:=N4 f g hall hcore
 have hzero:=Rk hg
 have hnl:=Su l.b l.n l.t l.ln l.c
 have hnm:=Su m.b m.n m.t m.ln m.c
 have hbl:=fun nm nul (hk:2<=g.kind/\g.kind<=14)=>Ve nm nul g.kind g.width g.id g.idx g.kids.length (Bl g.kids) hk (hzero hk) l.b l.n l.t l.ln l.c hlo.1 hlo.2.1 hlo.2.2
 have hbm:=fun nm nul (hk:2<=g.kind/\g.kind<=14)=>Ve nm nul g.kind g.width g.id g.idx g.kids.length (Bl g.kids) hk (hzero hk) m.b m.n m.t m.ln m.c hmo.1 hmo.2.1 hmo.2.2
 have hor:=fun nm nul (hk:2<=g.kind/\g.kind<=14) (h1:l.bnd g.kind) (h2:m.bnd g.kind)=>TU nm nul g.kind g.width g.id g.idx g.kids.length (Bl g.kids) hk (hzero hk) l m hlo hmo h1 h2
 have hsp:∀p:Prop,(p↔K7 g.kind rows nulls has l m)->(p↔K7 g.kind rows nulls has l m):=fun _ h=>h
 unfold VP.cells at *
 unfold Hz at *
 rw[BF]at *
 simp only[lC,lN]
 obtain⟨lb,ln,lt,ll,lc⟩:=l
 obtain⟨mb,mn,mt,ml,mc⟩:=m
 simp only at *
 generalize Bl f.kids=kc,f.kids.length=kn,f.nm=nm,f.nul=nul,f.kind=k,f.width=w,f.id=i,f.idx=x at *
 unfold PlainV at hpl
 generalize Bl g.kids=gc,g.kids.length=gn,g.kind=gk,g.width=gw,g.id=gi,g.idx=gx at *
 cases has
 ·skip
  with_reducible refine Be hA hd hQ 200 ?hk ?_
  case hk=>trivial
  conv=>arg 9;cbv
  try simp only[OK]
  repeat' first|((with_reducible refine⟨fun hbr=>?_,fun hbr=>?_⟩)<;>(try simp(disch:=omega)only[hA,Ba,reduceCtorEq]at hbr)<;>(try (with_reducible exfalso;omega)))|((with_reducible refine Bd hA hd hQ 200 ?hk ?_);(case hk=>trivial);(conv=>arg 9;cbv);(try simp only[OK]))|(refine cO (Bb F35_ok) (tM (hnl _) fun v hh hx=>?_);(obtain⟨⟨b,hv,hb⟩,he⟩:=hx;subst hv;subst he;cases b<;>simp(disch:=omega)only[bF,true_iff,false_iff,eq_self]at hb)<;>(try (with_reducible exfalso;omega)))|(refine cO (Bb F35_ok) (tM (hnm _) fun v hh hx=>?_);(obtain⟨⟨b,hv,hb⟩,he⟩:=hx;subst hv;subst he;cases b<;>simp(disch:=omega)only[bF,true_iff,false_iff,eq_self]at hb)<;>(try (with_reducible exfalso;omega)))
  all_goals (try (with_reducible refine FinR.self ?_;first|refine FinR.bl rfl ?_|refine FinR.bs rfl ?_|refine FinR.blh rfl ?_ rfl|refine FinR.bsh rfl ?_ rfl))
  all_goals (try simp(disch:=omega)only[bF,true_iff,false_iff,eq_self])
  all_goals first
   |exact fun h=>by have h1:=h.1;have h2:=h.2.1;have h3:=h.2.2.1;have h4:=h.2.2.2.1;omega
   |exact fun h=>absurd (h.2.2.2.2.1 rfl).1 (by assumption:¬HJ lb ln lt ll)
   |exact fun h=>absurd (h.2.2.2.2.1 rfl).2 (by assumption:¬HJ mb mn mt ml)
   |exact⟨by omega,by omega,by omega,by omega,fun _=>⟨(by assumption:HJ lb ln lt ll),(by assumption:HJ mb mn mt ml)⟩,fun h=>(by cases h)⟩
 ·skip
  with_reducible refine Be hA hd hQ 200 ?hk ?_
  case hk=>trivial
  conv=>arg 9;cbv
  try simp only[OK]
  repeat' first|((with_reducible refine⟨fun hbr=>?_,fun hbr=>?_⟩)<;>(try simp(disch:=omega)only[hA,Ba]at hbr)<;>(try (with_reducible exfalso;omega)))|((with_reducible refine Bd hA hd hQ 200 ?hk ?_);(case hk=>trivial);(conv=>arg 9;cbv);(try simp only[OK]))
  rotate_right
  ·refine cO (Bb F12_ok) (tM (hpl _) fun v hh hx=>?_)
   obtain⟨⟨pm,pu,hv⟩,hh'⟩:=hx;subst hv;subst hh'
   with_reducible refine Bd hA hd hQ 1 ?hk ?_
   case hk=>trivial
   conv=>arg 9;cbv
   try simp only[OK]
   repeat' first|((with_reducible refine⟨fun hbr=>?_,fun hbr=>?_⟩)<;>(try simp(disch:=omega)only[hA,Ba,reduceCtorEq]at hbr)<;>(try (with_reducible exfalso;omega)))|((with_reducible refine Bd hA hd hQ 200 ?hk ?_);(case hk=>trivial);(conv=>arg 9;cbv);(try simp only[OK]))|(refine cO (Bb F15_ok) (tM (zCM _ _) fun v hh hx=>?_);(obtain⟨⟨b,hv,hb⟩,he⟩:=hx;subst hv;subst he;cases b<;>simp(disch:=omega)only[bF,true_iff,false_iff,eq_self]at hb)<;>(try (with_reducible exfalso;omega)))|(refine cO (Bb F36_ok) (tM (hbl pm pu (by assumption) _) fun v hh hx=>?_);(obtain⟨⟨b,hv,hb⟩,he⟩:=hx;subst hv;subst he;cases b<;>simp(disch:=omega)only[bF,true_iff,false_iff,eq_self]at hb)<;>(try (with_reducible exfalso;omega)))|(refine cO (Bb F36_ok) (tM (hbm pm pu (by assumption) _) fun v hh hx=>?_);(obtain⟨⟨b,hv,hb⟩,he⟩:=hx;subst hv;subst he;cases b<;>simp(disch:=omega)only[bF,true_iff,false_iff,eq_self]at hb)<;>(try (with_reducible exfalso;omega)))|(refine cO (Bb F16_ok) (tM (hor pm pu (by assumption) (by assumption:E6 gk lb ln lt ll) (by assumption:E6 gk mb mn mt ml) _) fun v hh hx=>?_);(obtain⟨⟨z,hv,hz⟩,he⟩:=hx;subst hv;subst he))
   all_goals (try (with_reducible refine FinR.self ?_;first|refine FinR.bl rfl ?_|refine FinR.bs rfl ?_|refine FinR.blh rfl ?_ rfl|refine FinR.bsh rfl ?_ rfl))
   all_goals (try simp(disch:=omega)only[hA,Ba,bF,false_iff])
   all_goals first
    |exact fun h=>absurd (h.2.2.2.2.2 rfl).1 (by assumption)
    |exact fun h=>absurd (by assumption) (h.2.2.2.2.2 rfl).2.1
    |exact fun h=>absurd (h.2.2.2.2.2 rfl).2.2.1 (by assumption:¬E6 gk lb ln lt ll)
    |exact fun h=>absurd (h.2.2.2.2.2 rfl).2.2.2.1 (by assumption:¬E6 gk mb mn mt ml)
    |(subst hz;refine⟨fun h=>⟨by omega,by omega,by omega,by omega,fun h=>(by cases h),fun _=>⟨?_,?_,?_,?_,h⟩⟩,fun h=>(h.2.2.2.2.2 rfl).2.2.2.2⟩<;>assumption)
  all_goals (try (with_reducible refine FinR.self ?_;first|refine FinR.bl rfl ?_|refine FinR.bs rfl ?_|refine FinR.blh rfl ?_ rfl|refine FinR.bsh rfl ?_ rfl))
  all_goals (try simp(disch:=omega)only[bF,false_iff])
  all_goals exact fun h=>by have h1:=h.1;have h2:=h.2.1;have h3:=h.2.2.1;have h4:=h.2.2.2.1;omega
theorem WE:∀a b:List UInt8,Lib.compareBytes a b=if Op.bytesLess a b then -1 else if !(Op.bytesLess a b||a==b)then 1 else 0
 |[],[]=>rfl
 |[],_::_=>rfl
 |_::_,[]=>rfl
 |a::l,b::m=>by
  have ih:=WE l m;simp only[Lib.compareBytes,Op.bytesLess]
  by_cases h1:a<b
  ·simp[h1]
  ·by_cases h2:b<a
   ·have h3:¬a=b:=fun e=>by subst e;exact h1 h2
    simp[h1,h2,h3]
   ·have h3:a=b:=by
     apply UInt8.le_antisymm
     ·exact UInt8.not_lt.1 h2
     ·exact UInt8.not_lt.1 h1
    subst h3;simp[h1,ih]
theorem ZH(t u:ByteArray):(if stdA.ss .lss t u then (-1:Int)else if stdA.ss .gtr t u then 1 else 0)=C1 t u:=by
 rw[C1,WE]
 show (if Op.bytesLess t.toList u.toList then (-1:Int)else if !(Op.bytesLess t.toList u.toList||t.toList==u.toList)then 1 else 0)=_
 rw[ByteArray.toList_eq,ByteArray.toList_eq]
theorem RS(a b:Int):(if stdA.ic .lss a b=true then (-1:Int)else if stdA.ic .gtr a b=true then 1 else 0)=sgn a b:=by
 rw[T7,WA,sgn]
 simp only[decide_eq_true_eq]
structure StP where
 rows:Int
 nulls:Int
 has:Bool
 l:VP
 m:VP
def StP.cells(s:StP):List EV:=[.lit (.int .i64 s.rows),.lit (.int .i64 s.nulls),.lit (.bool s.has)]++s.l.cells++s.m.cells
def StP.ok(s:StP):Prop:=BH s.rows/\BH s.nulls/\s.l.ok/\s.m.ok
def StP.may(k:Int)(s:StP):Prop:=K7 k s.rows s.nulls s.has s.l s.m
def vp0:VP:=⟨false,0,⟨#[]⟩,0,[]⟩
def st0:StP:=⟨0,0,false,vp0,vp0⟩
def VP.same(v w:VP):Prop:=v.b=w.b/\v.n=w.n/\v.t=w.t/\v.ln=0/\w.ln=0
def StP.same(s t:StP):Prop:=s.rows=t.rows/\s.nulls=t.nulls/\s.has=t.has/\s.l.same t.l/\s.m.same t.m
noncomputable def ck(f:Fld):Int:=open Classical in if h:∃g,Core f g then (Classical.choose h).kind else 0
theorem UN{f g:Fld}(h:Core f g):ck f=g.kind:=by
 have hx:∃g,Core f g:=⟨g,h⟩
 rw[ck,dif_pos hx,(Classical.choose_spec hx).det h]
noncomputable def Cs (may : Prop) (k : Int) (a b : StP) : StP × Int := open Classical in
  if ¬ may then (st0, 5) else if ¬ (a.may k ∧ b.may k) then (st0, 7) else if 1048576 < a.rows + b.rows then (st0, 3) else
  (if a.nulls = a.rows then ⟨a.rows + b.rows, a.nulls + b.nulls, b.has, b.l, b.m⟩ else if b.nulls = b.rows then ⟨a.rows + b.rows, a.nulls + b.nulls, a.has, a.l, a.m⟩
   else if a.has = true ∧ b.has = true then ⟨a.rows + b.rows, a.nulls + b.nulls, true, if BZ k b.l.n a.l.n b.l.t a.l.t < 0 then b.l else a.l, if 0 < BZ k b.m.n a.m.n b.m.t a.m.t then b.m else a.m⟩
   else ⟨a.rows + b.rows, a.nulls + b.nulls, false, vp0, vp0⟩, 0)
def MergeV(f:Fld)(a b:StP)(v:EV):Prop:=∃(s:StP) (e:Int),v = .tup [.agg s.cells,.lit (.int .i64 e)]/\s.same (Cs (B7 f) (ck f) a b).1/\e=(Cs (B7 f) (ck f) a b).2
theorem MergeV.cl{f:Fld}{a b:StP}{v:EV}(h:MergeV f a b v):clE v=true:=by obtain⟨s,e,rfl,_⟩:=h;rfl
theorem Up.agg{l m:List EV}(h:l.length=m.length)(k:∀(j:Nat) (x y:EV),l[j]?=some x->m[j]?=some y->Up x y):Up (.agg l) (.agg m):=fun w I ρ cv hr=>by
 cases hr with
 |agg _ c vs hl hc=>
  refine .agg _ _ _ (by rw[<-h];exact hl) fun j e v he hv=>?_
  have hj:j<l.length:=by rw[h];exact(List.getElem?_eq_some_iff.1 he).1
  exact k j l[j] e (lE hj) he _ _ _ _ (hc j _ v (lE hj) hv)
theorem FinR.mg{rs:List ER}{s:St}{f:Fld}{a b:StP}{r n:Int}{hs:Bool}{b1 b2:Bool}{n1 n2 e:Int}{t1 t2:ByteArray}{L1 L2:EV}{c1 c2:List EV}
  (hv:Ci rs s.t s.h=some (.tup [.agg [.lit (.int .i64 r),.lit (.int .i64 n),.lit (.bool hs),.lit (.bool b1),.lit (.int .i64 n1),.lit (.string t1),L1,.lit (.bool b2),.lit (.int .i64 n2),.lit (.string t2),L2],.lit (.int .i64 e)]))
  (h1:Up L1 (.isl 0 none c1)) (h2:Up L2 (.isl 0 none c2)) (h:StP.same ⟨r,n,hs,⟨b1,n1,t1,0,c1⟩,⟨b2,n2,t2,0,c2⟩⟩ (Cs (B7 f) (ck f) a b).1/\e=(Cs (B7 f) (ck f) a b).2) :
  FinR rs (fun v _=>∃v',MergeV f a b v'/\Up v v') s:=by
 refine⟨_,hv,_,⟨⟨r,n,hs,⟨b1,n1,t1,0,c1⟩,⟨b2,n2,t2,0,c2⟩⟩,e,rfl,h.1,h.2⟩,Up.tup2 (Up.agg rfl fun j x y hx hy=>?_) (Up.refl _)⟩
 match j,hx,hy with
 |0,hx,hy=>cases hx;cases hy;exact Up.refl _
 |1,hx,hy=>cases hx;cases hy;exact Up.refl _
 |2,hx,hy=>cases hx;cases hy;exact Up.refl _
 |3,hx,hy=>cases hx;cases hy;exact Up.refl _
 |4,hx,hy=>cases hx;cases hy;exact Up.refl _
 |5,hx,hy=>cases hx;cases hy;exact Up.refl _
 |6,hx,hy=>cases hx;cases hy;exact h1
 |7,hx,hy=>cases hx;cases hy;exact Up.refl _
 |8,hx,hy=>cases hx;cases hy;exact Up.refl _
 |9,hx,hy=>cases hx;cases hy;exact Up.refl _
 |10,hx,hy=>cases hx;cases hy;exact h2
theorem IsP.to{p q:Prop}{v:EV}(h:IsP p v)(e:p↔q):IsP q v:=by obtain⟨b,h1,h2⟩:=h;exact⟨b,h1,h2.trans e⟩
theorem Tri.isTo{P:Program}{G:List (List EV)}{f:FuncId}{args:List EV}{h:EH}{p q:Prop}(t:Tri P G f args h fun v h'=>IsP p v/\h'=h)(e:p↔q):Tri P G f args h fun v h'=>IsP q v/\h'=h:=
 t.mono fun v h' hx=>⟨IsP.to hx.1 e,hx.2⟩
theorem Cm(b n t c c'):VP.same ⟨b,n,t,0,c⟩ ⟨b,n,t,0,c'⟩:=⟨rfl,rfl,rfl,rfl,rfl⟩
theorem Ns{k:Int}{s:StP}(h:s.may k):s.l.ln=0/\s.m.ln=0:=by
 obtain⟨_,_,_,_,h1,h2⟩:=h
 cases hh:s.has with
 |false=>exact⟨(h1 hh).1.2.2.2,(h1 hh).2.2.2.2⟩
 |true=>obtain⟨_,_,h3,h4,_⟩:=h2 hh;exact⟨h3.2.1,h4.2.1⟩
theorem zDP{may:Prop}{k:Int}{a b:StP}(h:¬may):Cs may k a b=(st0,5):=by rw[Cs,if_pos h]
theorem S7{may:Prop}{k:Int}{a b:StP}(hm:may)(h:¬(a.may k/\b.may k)):Cs may k a b=(st0,7):=by rw[Cs,if_neg (not_not_intro hm),if_pos h]
theorem VB{may:Prop}{k:Int}{a b:StP}(hm:may)(h:a.may k/\b.may k)(hr:1048576<a.rows+b.rows):Cs may k a b=(st0,3):=by rw[Cs,if_neg (not_not_intro hm),if_neg (not_not_intro h),if_pos hr]
theorem I6{may:Prop}{k:Int}{a b:StP}(hm:may)(h:a.may k/\b.may k)(hr:¬1048576<a.rows+b.rows)(h1:a.nulls=a.rows):Cs may k a b=(⟨a.rows+b.rows,a.nulls+b.nulls,b.has,b.l,b.m⟩,0):=by
 rw[Cs,if_neg (not_not_intro hm),if_neg (not_not_intro h),if_neg hr,if_pos h1]
theorem Lj{may:Prop}{k:Int}{a b:StP}(hm:may)(h:a.may k/\b.may k)(hr:¬1048576<a.rows+b.rows)(h1:¬a.nulls=a.rows)(h2:b.nulls=b.rows):Cs may k a b=(⟨a.rows+b.rows,a.nulls+b.nulls,a.has,a.l,a.m⟩,0):=by
 rw[Cs,if_neg (not_not_intro hm),if_neg (not_not_intro h),if_neg hr,if_neg h1,if_pos h2]
theorem Lb{may:Prop}{k:Int}{a b:StP}(hm:may)(h:a.may k/\b.may k)(hr:¬1048576<a.rows+b.rows)(h1:¬a.nulls=a.rows)(h2:¬b.nulls=b.rows)(h3:¬(a.has=true/\b.has=true)):Cs may k a b=(⟨a.rows+b.rows,a.nulls+b.nulls,false,vp0,vp0⟩,0):=by
 rw[Cs,if_neg (not_not_intro hm),if_neg (not_not_intro h),if_neg hr,if_neg h1,if_neg h2,if_neg h3]
theorem NL{may:Prop}{k:Int}{a b:StP}(hm:may)(h:a.may k/\b.may k)(hr:¬1048576<a.rows+b.rows)(h1:¬a.nulls=a.rows)(h2:¬b.nulls=b.rows)(h3:a.has=true/\b.has=true) :
  Cs may k a b=(⟨a.rows+b.rows,a.nulls+b.nulls,true,if BZ k b.l.n a.l.n b.l.t a.l.t<0 then b.l else a.l,if 0<BZ k b.m.n a.m.n b.m.t a.m.t then b.m else a.m⟩,0):=by
 rw[Cs,if_neg (not_not_intro hm),if_neg (not_not_intro h),if_neg hr,if_neg h1,if_neg h2,if_pos h3]
theorem mgo{may:Prop}{k r n:Int}{a b:StP}{l m:VP}(hm:may)(h:a.may k/\b.may k)(hr:¬1048576<a.rows+b.rows)(h1:¬a.nulls=a.rows)(h2:¬b.nulls=b.rows)(h3:a.has=true)(h4:b.has=true)
  (hr1:r=a.rows+b.rows) (hr2:n=a.nulls+b.nulls) (hl:l.same (if BZ k b.l.n a.l.n b.l.t a.l.t<0 then b.l else a.l)) (hg:m.same (if 0<BZ k b.m.n a.m.n b.m.t a.m.t then b.m else a.m)) :
  StP.same ⟨r,n,true,l,m⟩ (Cs may k a b).1/\(0:Int)=(Cs may k a b).2:=by
 rw[NL hm h hr h1 h2 ⟨h3,h4⟩];exact⟨⟨hr1,hr2,rfl,hl,hg⟩,rfl⟩
theorem zCj (f : Fld) (hok : okF f) (a b : StP) (ha : a.ok) (hb0 : b.ok) (h : EH) :
    Tri Tryz.prog gs 6 [.agg (Bo f), .agg a.cells, .agg b.cells] h fun v h' => MergeV f a b v ∧ h' = h := by
  have t : Tri Tryz.prog gs 6 [.agg (Bo f), .agg a.cells, .agg b.cells] [] fun v _ => ∃ v', MergeV f a b v' ∧ Up v v' := by
    refine Bj F6_ok fun I0 ρ0 w0 Q hρ hQ => ?_
    obtain ⟨A, hA⟩ : ∃ A, A = stdA := ⟨_, rfl⟩
    have hck := Kj f hok
    have hg := fun hm => Sg (SizeOf.sizeOf f) f (Nat.le_refl _) (Ei hm)
    by_cases hm : B7 f
    · obtain ⟨g, hco, hga, _⟩ := hg hm
      have hall := Ei hm
      have hk := UN hco
      have hsa := Sv f g hall hco hga a.rows a.nulls a.has a.l a.m ha.2.2.1 ha.2.2.2
      have hsb := Sv f g hall hco hga b.rows b.nulls b.has b.l b.m hb0.2.2.1 hb0.2.2.2
      have hpl := N4 f g hall hco
      unfold PlainV at hpl
      have hzero := Rk hga
      have hor := fun nm nul (hk : 2 ≤ g.kind ∧ g.kind ≤ 14) (l m : VP) h1 h2 (h3 : l.bnd g.kind) (h4 : m.bnd g.kind) => TU nm nul g.kind g.width g.id g.idx g.kids.length (Bl g.kids) hk (hzero hk) l m h1 h2 h3 h4
      have hma : ∀ s : StP, s.may g.kind → s.l.ln = 0 ∧ s.m.ln = 0 := fun s hs => Ns hs
      rw [BF] at *
      generalize Bl f.kids = kc, f.kids.length = kn, f.nm = nm, f.nul = nul, f.kind = k, f.width = w, f.id = i, f.idx = x at *
      generalize Bl g.kids = gc, g.kids.length = gn, g.width = gw, g.id = gi, g.idx = gx at *
      generalize g.kind = gk at *
      have hy := hQ
      obtain ⟨ar, an, ah, ⟨alb, aln, alt, all_, alc⟩, ⟨amb, amn, amt, aml, amc⟩⟩ := a
      obtain ⟨br, bn, bh, ⟨blb, bln, blt, bll, blc⟩, ⟨bmb, bmn, bmt, bml, bmc⟩⟩ := b
      by_cases hA1 : StP.may gk ⟨ar, an, ah, ⟨alb, aln, alt, all_, alc⟩, ⟨amb, amn, amt, aml, amc⟩⟩
      · by_cases hB1 : StP.may gk ⟨br, bn, bh, ⟨blb, bln, blt, bll, blc⟩, ⟨bmb, bmn, bmt, bml, bmc⟩⟩
        · obtain ⟨e1, e2⟩ := Ns hA1
          obtain ⟨e3, e4⟩ := Ns hB1
          simp only at e1 e2 e3 e4
          subst e1; subst e2; subst e3; subst e4
          have hsa := fun h => Tri.isTo (hsa h) (iff_true_intro hA1)
          have hsb := fun h => Tri.isTo (hsb h) (iff_true_intro hB1)
          have hrr : 0 ≤ ar ∧ ar ≤ 1048576 ∧ 0 ≤ an ∧ an ≤ ar ∧ 0 ≤ br ∧ br ≤ 1048576 ∧ 0 ≤ bn ∧ bn ≤ br := ⟨hA1.1, hA1.2.1, hA1.2.2.1, hA1.2.2.2.1, hB1.1, hB1.2.1, hB1.2.2.1, hB1.2.2.2.1⟩
          have hr1 : A.ib .add .i64 ar br = ar + br := by simp (disch := omega) only [hA, Ba]
          have hr2 : A.ib .add .i64 an bn = an + bn := by simp (disch := omega) only [hA, Ba]
          simp only [StP.cells, VP.cells, lC, lN] at hsa hsb ⊢
          cases ah <;> cases bh
          all_goals
            with_reducible refine Be hA hd hQ 200 ?hk ?_
            case hk => trivial
            conv => arg 9; cbv
            try simp only [OK]
            refine cO (Bb F10_ok) (tM (hck _) fun v hh hx => ?_)
            obtain ⟨⟨e, at', pn, pc, hv, he⟩, hh'⟩ := hx
            subst hv; subst hh'
            with_reducible refine Bd hA hd hQ 1 ?hk ?_
            case hk => trivial
            conv => arg 9; cbv
            try simp only [OK]
            have he0 : e = 0 := he.2 hm
            subst he0
          rotate_right
          · have hAt := hA1.2.2.2.2.2 rfl
            have hBt := hB1.2.2.2.2.2 rfl
            have ho1 := fun pm pu => hor pm pu hAt.1 ⟨blb, bln, blt, 0, blc⟩ ⟨alb, aln, alt, 0, alc⟩ hb0.2.2.1 ha.2.2.1 hBt.2.2.1 hAt.2.2.1
            have ho2 := fun pm pu => hor pm pu hAt.1 ⟨bmb, bmn, bmt, 0, bmc⟩ ⟨amb, amn, amt, 0, amc⟩ hb0.2.2.2 ha.2.2.2 hBt.2.2.2.1 hAt.2.2.2.1
            simp only [VP.cells] at ho1 ho2
            repeat' first | ((with_reducible refine ⟨fun hbr => ?_, fun hbr => ?_⟩) <;> (try simp (disch := omega) only [hA, Ba, reduceCtorEq] at hbr) <;> (try (with_reducible exfalso; omega))) | ((with_reducible refine Bd hA hd hQ 200 ?hk ?_); (case hk => trivial); (conv => arg 9; cbv); (try simp only [OK])) | (refine cO (Bb F20_ok) (tM (hsa _) fun v hh hx => ?_); (obtain ⟨⟨b, hv, hb⟩, he⟩ := hx; subst hv; subst he; cases b <;> simp (disch := omega) only [bF, false_iff, eq_self] at hb) <;> (try (with_reducible exfalso; omega))) | (refine cO (Bb F20_ok) (tM (hsb _) fun v hh hx => ?_); (obtain ⟨⟨b, hv, hb⟩, he⟩ := hx; subst hv; subst he; cases b <;> simp (disch := omega) only [bF, false_iff, eq_self] at hb) <;> (try (with_reducible exfalso; omega)))
            rotate_right
            refine cO (Bb F12_ok) (tM (hpl _) fun v hh hx => ?_)
            obtain ⟨⟨pm, pu, hv⟩, hh'⟩ := hx
            subst hv; subst hh'
            with_reducible refine Bd hA hd hQ 1 ?hk ?_
            case hk => trivial
            conv => arg 9; cbv
            try simp only [OK]
            repeat' first | (with_reducible refine And.intro trivial ?_) | ((with_reducible refine ⟨fun hbr => ?_, fun hbr => ?_⟩) <;> (try simp (disch := omega) only [hA, Ba] at hbr) <;> (try (with_reducible exfalso; omega))) | ((with_reducible refine Bd hA hd hQ 200 ?hk ?_); (case hk => trivial); (conv => arg 9; cbv); (try simp only [OK])) | (refine cO (Bb F16_ok) (tM (ho1 pm pu _) fun v hh hx => ?_); (obtain ⟨⟨z, hv, hz⟩, he⟩ := hx; subst hv; subst he)) | (refine cO (Bb F16_ok) (tM (ho2 pm pu _) fun v hh hx => ?_); (obtain ⟨⟨z, hv, hz⟩, he⟩ := hx; subst hv; subst he))
            all_goals first
              | exact absurd trivial (by assumption)
              | (refine FinR.mg rfl (by first | exact Up.nil [] | exact Up.refl _) (by first | exact Up.nil [] | exact Up.refl _) ?_
                 first
                  | (rw [hk, VB hm ⟨hA1, hB1⟩ (by show 1048576 < ar + br; omega)]; exact ⟨⟨rfl, rfl, rfl, Cm _ _ _ _ _, Cm _ _ _ _ _⟩, rfl⟩)
                  | (rw [hk, I6 hm ⟨hA1, hB1⟩ (by show ¬ 1048576 < ar + br; omega) (by show an = ar; omega)]; exact ⟨⟨hr1, hr2, rfl, Cm _ _ _ _ _, Cm _ _ _ _ _⟩, rfl⟩)
                  | (rw [hk, Lj hm ⟨hA1, hB1⟩ (by show ¬ 1048576 < ar + br; omega) (by show ¬ an = ar; omega) (by show bn = br; omega)]; exact ⟨⟨hr1, hr2, rfl, Cm _ _ _ _ _, Cm _ _ _ _ _⟩, rfl⟩)
                  | (rw [hk, Lb hm ⟨hA1, hB1⟩ (by show ¬ 1048576 < ar + br; omega) (by show ¬ an = ar; omega) (by show ¬ bn = br; omega) (by simp)]; exact ⟨⟨hr1, hr2, rfl, Cm _ _ _ _ _, Cm _ _ _ _ _⟩, rfl⟩)
                  | (rw [hk]
                     refine mgo hm ⟨hA1, hB1⟩ (by show ¬ 1048576 < ar + br; omega) (by show ¬ an = ar; omega) (by show ¬ bn = br; omega) rfl rfl hr1 hr2 ?_ ?_
                     · show VP.same _ (if BZ gk bln aln blt alt < 0 then (⟨blb, bln, blt, 0, blc⟩ : VP) else ⟨alb, aln, alt, 0, alc⟩)
                       first
                        | (rw [if_pos (by omega)]; exact Cm _ _ _ _ _)
                        | (rw [if_neg (by omega)]; exact Cm _ _ _ _ _)
                     · show VP.same _ (if 0 < BZ gk bmn amn bmt amt then (⟨bmb, bmn, bmt, 0, bmc⟩ : VP) else ⟨amb, amn, amt, 0, amc⟩)
                       first
                        | (rw [if_pos (by omega)]; exact Cm _ _ _ _ _)
                        | (rw [if_neg (by omega)]; exact Cm _ _ _ _ _)))
          all_goals
            repeat' first | ((with_reducible refine ⟨fun hbr => ?_, fun hbr => ?_⟩) <;> (try simp (disch := omega) only [hA, Ba, reduceCtorEq] at hbr) <;> (try (with_reducible exfalso; omega))) | ((with_reducible refine Bd hA hd hQ 200 ?hk ?_); (case hk => trivial); (conv => arg 9; cbv); (try simp only [OK])) | (refine cO (Bb F20_ok) (tM (hsa _) fun v hh hx => ?_); (obtain ⟨⟨b, hv, hb⟩, he⟩ := hx; subst hv; subst he; cases b <;> simp (disch := omega) only [bF, false_iff, eq_self] at hb) <;> (try (with_reducible exfalso; omega))) | (refine cO (Bb F20_ok) (tM (hsb _) fun v hh hx => ?_); (obtain ⟨⟨b, hv, hb⟩, he⟩ := hx; subst hv; subst he; cases b <;> simp (disch := omega) only [bF, false_iff, eq_self] at hb) <;> (try (with_reducible exfalso; omega)))
            rotate_right
            refine cO (Bb F12_ok) (tM (hpl _) fun v hh hx => ?_)
            obtain ⟨⟨pm, pu, hv⟩, hh'⟩ := hx
            subst hv; subst hh'
            with_reducible refine Bd hA hd hQ 1 ?hk ?_
            case hk => trivial
            conv => arg 9; cbv
            try simp only [OK]
            repeat' first | (with_reducible refine And.intro trivial ?_) | ((with_reducible refine ⟨fun hbr => ?_, fun hbr => ?_⟩) <;> (try simp (disch := omega) only [hA, Ba] at hbr) <;> (try (with_reducible exfalso; omega))) | ((with_reducible refine Bd hA hd hQ 200 ?hk ?_); (case hk => trivial); (conv => arg 9; cbv); (try simp only [OK]))
            all_goals first
              | exact absurd trivial (by assumption)
              | (refine FinR.mg rfl (by first | exact Up.nil [] | exact Up.refl _) (by first | exact Up.nil [] | exact Up.refl _) ?_
                 first
                  | (rw [hk, VB hm ⟨hA1, hB1⟩ (by show 1048576 < ar + br; omega)]; exact ⟨⟨rfl, rfl, rfl, Cm _ _ _ _ _, Cm _ _ _ _ _⟩, rfl⟩)
                  | (rw [hk, I6 hm ⟨hA1, hB1⟩ (by show ¬ 1048576 < ar + br; omega) (by show an = ar; omega)]; exact ⟨⟨hr1, hr2, rfl, Cm _ _ _ _ _, Cm _ _ _ _ _⟩, rfl⟩)
                  | (rw [hk, Lj hm ⟨hA1, hB1⟩ (by show ¬ 1048576 < ar + br; omega) (by show ¬ an = ar; omega) (by show bn = br; omega)]; exact ⟨⟨hr1, hr2, rfl, Cm _ _ _ _ _, Cm _ _ _ _ _⟩, rfl⟩)
                  | (rw [hk, Lb hm ⟨hA1, hB1⟩ (by show ¬ 1048576 < ar + br; omega) (by show ¬ an = ar; omega) (by show ¬ bn = br; omega) (by simp)]; exact ⟨⟨hr1, hr2, rfl, Cm _ _ _ _ _, Cm _ _ _ _ _⟩, rfl⟩)
                  | (rw [hk]
                     refine mgo hm ⟨hA1, hB1⟩ (by show ¬ 1048576 < ar + br; omega) (by show ¬ an = ar; omega) (by show ¬ bn = br; omega) rfl rfl hr1 hr2 ?_ ?_
                     · show VP.same _ (if BZ gk bln aln blt alt < 0 then (⟨blb, bln, blt, 0, blc⟩ : VP) else ⟨alb, aln, alt, 0, alc⟩)
                       first
                        | (rw [if_pos (by omega)]; exact Cm _ _ _ _ _)
                        | (rw [if_neg (by omega)]; exact Cm _ _ _ _ _)
                     · show VP.same _ (if 0 < BZ gk bmn amn bmt amt then (⟨bmb, bmn, bmt, 0, bmc⟩ : VP) else ⟨amb, amn, amt, 0, amc⟩)
                       first
                        | (rw [if_pos (by omega)]; exact Cm _ _ _ _ _)
                        | (rw [if_neg (by omega)]; exact Cm _ _ _ _ _)))
        · have hsa := fun h => Tri.isTo (hsa h) (iff_true_intro hA1)
          have hsb := fun h => Tri.isTo (hsb h) (iff_false_intro hB1)
          simp only [StP.cells, VP.cells, lC, lN] at hsa hsb ⊢
          with_reducible refine Be hA hd hQ 200 ?hk ?_
          case hk => trivial
          conv => arg 9; cbv
          try simp only [OK]
          refine cO (Bb F10_ok) (tM (hck _) fun v hh hx => ?_)
          obtain ⟨⟨e, at', pn, pc, hv, he⟩, hh'⟩ := hx
          subst hv; subst hh'
          with_reducible refine Bd hA hd hQ 1 ?hk ?_
          case hk => trivial
          conv => arg 9; cbv
          try simp only [OK]
          have he0 : e = 0 := he.2 hm
          subst he0
          repeat' first | ((with_reducible refine ⟨fun hbr => ?_, fun hbr => ?_⟩) <;> (try simp (disch := omega) only [hA, Ba, reduceCtorEq] at hbr) <;> (try (with_reducible exfalso; omega))) | ((with_reducible refine Bd hA hd hQ 200 ?hk ?_); (case hk => trivial); (conv => arg 9; cbv); (try simp only [OK])) | (refine cO (Bb F20_ok) (tM (hsa _) fun v hh hx => ?_); (obtain ⟨⟨b, hv, hb⟩, he⟩ := hx; subst hv; subst he; cases b <;> simp (disch := omega) only [bF, false_iff, eq_self] at hb) <;> (try (with_reducible exfalso; omega))) | (refine cO (Bb F20_ok) (tM (hsb _) fun v hh hx => ?_); (obtain ⟨⟨b, hv, hb⟩, he⟩ := hx; subst hv; subst he; cases b <;> simp (disch := omega) only [bF, true_iff, eq_self] at hb) <;> (try (with_reducible exfalso; omega)))
          all_goals first | exact absurd trivial (by assumption) | exact FinR.mg rfl (Up.nil []) (Up.nil []) (by rw [hk, S7 hm (fun h => hB1 h.2)]; exact ⟨⟨rfl, rfl, rfl, Cm _ _ _ _ _, Cm _ _ _ _ _⟩, rfl⟩)
      · have hsa := fun h => Tri.isTo (hsa h) (iff_false_intro hA1)
        simp only [StP.cells, VP.cells, lC, lN] at hsa hsb ⊢
        with_reducible refine Be hA hd hQ 200 ?hk ?_
        case hk => trivial
        conv => arg 9; cbv
        try simp only [OK]
        refine cO (Bb F10_ok) (tM (hck _) fun v hh hx => ?_)
        obtain ⟨⟨e, at', pn, pc, hv, he⟩, hh'⟩ := hx
        subst hv; subst hh'
        with_reducible refine Bd hA hd hQ 1 ?hk ?_
        case hk => trivial
        conv => arg 9; cbv
        try simp only [OK]
        have he0 : e = 0 := he.2 hm
        subst he0
        repeat' first | ((with_reducible refine ⟨fun hbr => ?_, fun hbr => ?_⟩) <;> (try simp (disch := omega) only [hA, Ba, reduceCtorEq] at hbr) <;> (try (with_reducible exfalso; omega))) | ((with_reducible refine Bd hA hd hQ 200 ?hk ?_); (case hk => trivial); (conv => arg 9; cbv); (try simp only [OK])) | (refine cO (Bb F20_ok) (tM (hsa _) fun v hh hx => ?_); (obtain ⟨⟨b, hv, hb⟩, he⟩ := hx; subst hv; subst he; cases b <;> simp (disch := omega) only [bF, true_iff, eq_self] at hb) <;> (try (with_reducible exfalso; omega)))
        all_goals first | exact absurd trivial (by assumption) | exact FinR.mg rfl (Up.nil []) (Up.nil []) (by rw [hk, S7 hm (fun h => hA1 h.1)]; exact ⟨⟨rfl, rfl, rfl, Cm _ _ _ _ _, Cm _ _ _ _ _⟩, rfl⟩)
    · rw [BF] at *
      generalize Bl f.kids = kc, f.kids.length = kn, f.nm = nm, f.nul = nul, f.kind = k, f.width = w, f.id = i, f.idx = x at *
      obtain ⟨ar, an, ah, ⟨alb, aln, alt, all_, alc⟩, ⟨amb, amn, amt, aml, amc⟩⟩ := a
      obtain ⟨br, bn, bh, ⟨blb, bln, blt, bll, blc⟩, ⟨bmb, bmn, bmt, bml, bmc⟩⟩ := b
      simp only [StP.cells, VP.cells, lC, lN]
      with_reducible refine Be hA hd hQ 200 ?hk ?_
      case hk => trivial
      conv => arg 9; cbv
      try simp only [OK]
      refine cO (Bb F10_ok) (tM (hck _) fun v hh hx => ?_)
      obtain ⟨⟨e, at', pn, pc, hv, he⟩, hh'⟩ := hx
      subst hv; subst hh'
      with_reducible refine Bd hA hd hQ 1 ?hk ?_
      case hk => trivial
      conv => arg 9; cbv
      try simp only [OK]
      have he0 : e ≠ 0 := fun h => hm (he.1 h)
      repeat' first | ((with_reducible refine ⟨fun hbr => ?_, fun hbr => ?_⟩) <;> (try simp (disch := omega) only [hA, Ba] at hbr) <;> (try (with_reducible exfalso; omega))) | ((with_reducible refine Bd hA hd hQ 200 ?hk ?_); (case hk => trivial); (conv => arg 9; cbv); (try simp only [OK]))
      all_goals first | exact absurd trivial (by assumption) | exact FinR.mg rfl (Up.nil []) (Up.nil []) (by rw [zDP hm]; exact ⟨⟨rfl, rfl, rfl, Cm _ _ _ _ _, Cm _ _ _ _ _⟩, rfl⟩)
  exact Tri.litC (fun v hv => hv.cl) (by rw [BF]; rfl) (Tri.up t fun v h' ⟨v', h1, h2⟩ => ⟨v', h1, h2⟩) h
theorem UK(v w:VP)(e:v.same w)(h:EH):Tri Tryz.prog gs 21 [.agg v.cells,.agg w.cells] h fun v h'=>IsP True v/\h'=h:=by
 obtain⟨b,n,t,l,c⟩:=v
 obtain⟨b',n',t',l',c'⟩:=w
 obtain⟨e1,e2,e3,e4,e5⟩:=e
 simp only at e1 e2 e3 e4 e5
 subst e1;subst e2;subst e3;subst e4;subst e5
 refine Tri.boolC rfl (Bj F21_ok fun I0 ρ0 w0 Q hρ hQ=>?_) h
 obtain⟨A,hA⟩:∃A,A=stdA:=⟨_,rfl⟩
 simp only[VP.cells]
 have hne:=TT t t
 cases b
 all_goals
  with_reducible refine Be hA hd hQ 200 ?hk ?_
  case hk=>trivial
  conv=>arg 9;cbv
  try simp only[OK]
  repeat' first|(with_reducible refine OKK.loop ?_)|((with_reducible refine⟨fun hbr=>?_,fun hbr=>?_⟩)<;>(try simp(disch:=omega)only[hA,Ba,reduceCtorEq,ne_eq,not_true_eq_false,decide_false]at hbr)<;>(try (with_reducible exfalso;omega)))|((with_reducible refine Bd hA hd hQ 200 ?hk ?_);(case hk=>trivial);(conv=>arg 9;cbv);(try simp only[OK]))
 all_goals (try (with_reducible refine FinR.self ?_;first|refine FinR.bl rfl ?_|refine FinR.bs rfl ?_|refine FinR.blh rfl ?_ rfl|refine FinR.bsh rfl ?_ rfl))
 all_goals (try simp(disch:=omega)only[hA,Ba,bF,iff_true])
 all_goals first
  |exact absurd trivial (by assumption)
  |exact absurd (by assumption:(false==false)=false) (by decide)
  |exact absurd (by assumption:(true==true)=false) (by decide)
  |(refine OKs.loop (fun s=>s=_) (fun _=>0) (fun s hs _=>?_) rfl;subst hs)
 all_goals
  with_reducible refine Be hA hd hQ 200 ?hk ?_
  case hk=>trivial
  conv=>arg 9;cbv
  try simp only[OK]
  repeat' first|((with_reducible refine⟨fun hbr=>?_,fun hbr=>?_⟩)<;>(try simp(disch:=omega)only[hA,Ba]at hbr)<;>(try (with_reducible exfalso;omega)))|((with_reducible refine Bd hA hd hQ 200 ?hk ?_);(case hk=>trivial);(conv=>arg 9;cbv);(try simp only[OK]))
 all_goals (try (with_reducible refine FinR.self ?_;first|refine FinR.bl rfl ?_|refine FinR.bs rfl ?_|refine FinR.blh rfl ?_ rfl|refine FinR.bsh rfl ?_ rfl))
 all_goals (try simp(disch:=omega)only[eq_self])
 all_goals first
  |exact absurd trivial (by assumption)
  |exact absurd (by assumption:(false==false)=false) (by decide)
  |exact absurd (by assumption:(true==true)=false) (by decide)
  |(simp_all;done)
  |omega
theorem WP(s t:StP)(e:s.same t)(h:EH):Tri Tryz.prog gs 7 [.agg s.cells,.agg t.cells] h fun v h'=>IsP True v/\h'=h:=by
 have h1:=UK s.l t.l e.2.2.2.1
 have h2:=UK s.m t.m e.2.2.2.2
 obtain⟨r,n,hs,⟨b,m,x,l,c⟩,⟨b2,m2,x2,l2,c2⟩⟩:=s
 obtain⟨r',n',hs',⟨b',m',x',l',c'⟩,⟨b2',m2',x2',l2',c2'⟩⟩:=t
 obtain⟨e1,e2,e3,⟨e4,e5,e6,e7,e8⟩,⟨e9,e10,e11,e12,e13⟩⟩:=e
 simp only at e1 e2 e3 e4 e5 e6 e7 e8 e9 e10 e11 e12 e13
 subst e1;subst e2;subst e3;subst e4;subst e5;subst e6;subst e7;subst e8;subst e9;subst e10;subst e11;subst e12;subst e13
 refine Tri.boolC rfl (Bj F7_ok fun I0 ρ0 w0 Q hρ hQ=>?_) h
 obtain⟨A,hA⟩:∃A,A=stdA:=⟨_,rfl⟩
 simp only[StP.cells,VP.cells,lC,lN]at *
 cases hs
 all_goals
  with_reducible refine Be hA hd hQ 200 ?hk ?_
  case hk=>trivial
  conv=>arg 9;cbv
  try simp only[OK]
  repeat' first|((with_reducible refine⟨fun hbr=>?_,fun hbr=>?_⟩)<;>(try simp(disch:=omega)only[hA,Ba,reduceCtorEq]at hbr)<;>(try (with_reducible exfalso;omega)))|((with_reducible refine Bd hA hd hQ 200 ?hk ?_);(case hk=>trivial);(conv=>arg 9;cbv);(try simp only[OK]))|(refine cO (Bb F21_ok) (tM (h1 _) fun v hh hx=>?_);(obtain⟨⟨b,hv,hb⟩,he⟩:=hx;subst hv;subst he;cases b<;>simp(disch:=omega)only[bF,false_iff,eq_self]at hb)<;>(try (with_reducible exfalso;omega)))|(refine cO (Bb F21_ok) (tM (h2 _) fun v hh hx=>?_);(obtain⟨⟨b,hv,hb⟩,he⟩:=hx;subst hv;subst he;cases b<;>simp(disch:=omega)only[bF,false_iff,eq_self]at hb)<;>(try (with_reducible exfalso;omega)))
 all_goals (try (with_reducible refine FinR.self ?_;first|refine FinR.bl rfl ?_|refine FinR.bs rfl ?_|refine FinR.blh rfl ?_ rfl|refine FinR.bsh rfl ?_ rfl))
 all_goals (try simp(disch:=omega)only[bF,eq_self,iff_true])
 all_goals first
  |exact absurd trivial (by assumption)
  |exact absurd (by assumption:(false==false)=false) (by decide)
  |exact absurd (by assumption:(true==true)=false) (by decide)
  |(simp_all;done)
  |omega
theorem zCN{s t m:StP}(h:s.same m)(k:t.same m):s.same t:=by
 obtain⟨e1,e2,e3,⟨e4,e5,e6,e7,e8⟩,⟨e9,e10,e11,e12,e13⟩⟩:=h
 obtain⟨k1,k2,k3,⟨k4,k5,k6,k7,k8⟩,⟨k9,k10,k11,k12,k13⟩⟩:=k
 exact⟨e1.trans k1.symm,e2.trans k2.symm,e3.trans k3.symm,⟨e4.trans k4.symm,e5.trans k5.symm,e6.trans k6.symm,e7,k7⟩,⟨e9.trans k9.symm,e10.trans k10.symm,e11.trans k11.symm,e12,k12⟩⟩
theorem zDt(AC:List EV)(hcl:clL AC=true)(h:EH):Tri Tryz.prog gs 14 [.iptr AC 0] h fun v h'=>v = .fn (.func 31) [] [.iptr [.iptr AC 0] 0]/\h'=h:=by
 refine Tri.valA rfl rfl (Tri.mv (R:=fun v h'=>v = .fn (.func 31) [] [.ptr 0 0]/\h'=[.blk [.iptr AC 0]]) (Bj F14_ok fun I0 ρ0 w0 Q hρ hQ=>?_) fun v h' ⟨hv,hr⟩=>?_) h
 ·obtain⟨A,hA⟩:∃A,A=stdA:=⟨_,rfl⟩
  with_reducible refine Be hA hd hQ 200 ?hk ?_
  case hk=>trivial
  conv=>arg 9;cbv
  try simp only[OK]
  all_goals exact fI_ rfl ⟨rfl,rfl⟩
 ·subst hv;subst hr
  exact⟨[],[0],rfl,⟨by simp,by simp,fun id hid=>by simp at hid;subst hid;exact⟨_,rfl,rfl⟩⟩,rfl⟩
def EQ(k:Int)(V:Val):Prop:=V=Bw\/∃n t,V = .mk false n t []/\BH n/\t.size<=65536/\if 12<=k then n=0 else t.size=0/\Cy k n
theorem Nl(l:List Nat):(CH l).size=l.length:=by simp[CH,ByteArray.size]
theorem UL{f:Fld}{d:Dat}{r:Nat}(h:BJ f.kind d r=true):BB f d r=(Bw,16):=by rw[GX];unfold Eb;rw[if_pos h]
theorem ZQ(b:List Nat)(r:Nat):Ch b r<2:=by unfold Ch;exact Nat.mod_lt _ (by decide)
theorem Jy{w n:Nat}(hw:w=1\/w=2\/w=4\/w=8)(hn:n<256^w): -(2^(8*w-1):Int)<=B5 w n/\B5 w n<(2^(8*w-1):Int):=by
 unfold B5
 rcases hw with rfl|rfl|rfl|rfl<;>simp only[Nat.reduceMul,Nat.reduceSub,Nat.reducePow,Int.reducePow]at hn ⊢ <;> split<;>omega
theorem zCv{k:Int}{b:List Nat}{r:Nat}(hk:3<=k/\k<=11)(ha:AllB b):BH (CI k b r)/\Cy k (CI k b r):=by
 have hU:=fun w=>JY b ha (r*w) w
 unfold BH Cy CI
 by_cases h6:k<=6
 ·rw[if_pos h6]
  have hw:(k=3/\Bk k=1)\/(k=4/\Bk k=2)\/(k=5/\Bk k=4)\/(k=6/\Bk k=8):=by
   unfold Bk
   (repeat' split)<;>omega
  rcases hw with ⟨e,ew⟩|⟨e,ew⟩|⟨e,ew⟩|⟨e,ew⟩<;>rw[ew]<;>subst e
  ·have:=Jy (by omega) (hU 1)
   generalize B5 1 _=S at *;simp only[Nat.reduceMul,Nat.reduceSub,Int.reducePow]at this;simp;omega
  ·have:=Jy (by omega) (hU 2)
   generalize B5 2 _=S at *;simp only[Nat.reduceMul,Nat.reduceSub,Int.reducePow]at this;simp;omega
  ·have:=Jy (by omega) (hU 4)
   generalize B5 4 _=S at *;simp only[Nat.reduceMul,Nat.reduceSub,Int.reducePow]at this;simp;omega
  ·have:=Jy (by omega) (hU 8)
   generalize B5 8 _=S at *;simp only[Nat.reduceMul,Nat.reduceSub,Int.reducePow]at this;simp;omega
 ·rw[if_neg h6]
  by_cases h10:k=10\/k=11
  ·rw[if_pos h10]
   have:=Jy (by omega) (hU 8)
   generalize B5 8 _=S at *;simp only[Nat.reduceMul,Nat.reduceSub,Int.reducePow]at this;rw[if_neg (by omega),if_neg (by omega),if_neg (by omega),if_neg (by omega),if_neg (by omega),if_neg (by omega),if_neg (by omega)]
   exact⟨⟨by omega,by omega⟩,trivial⟩
  ·rw[if_neg h10]
   have hw:(k=7/\Bk k=1)\/(k=8/\Bk k=2)\/(k=9/\Bk k=4):=by
    unfold Bk
    (repeat' split)<;>omega
   rcases hw with ⟨e,ew⟩|⟨e,ew⟩|⟨e,ew⟩<;>rw[ew]<;>subst e
   ·have:=hU 1
    generalize BW b (r*1) 1=S at *;simp only[Nat.reducePow]at this;simp;omega
   ·have:=hU 2
    generalize BW b (r*2) 2=S at *;simp only[Nat.reducePow]at this;simp;omega
   ·have:=hU 4
    generalize BW b (r*4) 4=S at *;simp only[Nat.reducePow]at this;simp;omega
theorem WY:∀{f g:Fld},Core f g->∀{d:Dat},okP f d->Cu f->2<=g.kind/\g.kind<=14->∀i<d.len.toNat,EQ g.kind (BB f d (d.ofs.toNat+i)).1:=by
 intro f g hc
 induction hc with
 |here f hk=>
  intro d h hsm hg i hi;have hz:=h.sz;have hnb:=hz.nb
  by_cases hn:BJ f.kind d (d.ofs.toNat+i)=true
  ·exact .inl (by rw[UL hn])
  ·right
   rw[GX];unfold Eb;rw[if_neg hn]
   by_cases c2:f.kind=2
   ·rw[if_pos c2]
    have:=ZQ (d.buf 1) (d.ofs.toNat+i);refine⟨_,_,rfl,by unfold BH;omega,by show (0:Nat)<=65536;omega,?_⟩
    rw[if_neg (by omega)]
    refine⟨rfl,?_⟩;unfold Cy;rw[if_pos c2];omega
   rw[if_neg c2]
   by_cases c11:f.kind<=11
   ·rw[if_pos c11]
    have hb2:d.bufs.length=2:=by unfold Cc at hnb;rw[if_neg (by omega),if_neg (by omega),if_neg (by omega)]at hnb;omega
    have:=zCv (k:=f.kind) (b:=d.buf 1) (r:=d.ofs.toNat+i) ⟨by omega,c11⟩ (hz.big 1 (by omega)).2
    refine⟨_,_,rfl,this.1,by show (0:Nat)<=65536;omega,?_⟩
    rw[if_neg (by omega)]
    exact⟨rfl,this.2⟩
   rw[if_neg c11]
   by_cases c13:f.kind<=13
   ·rw[if_pos c13]
    have hb3:d.bufs.length=3:=by unfold Cc at hnb;rw[if_neg (by omega),if_neg (by omega),if_pos (by omega)]at hnb;omega
    refine⟨_,_,rfl,by unfold BH;omega,?_,by rw[if_pos (by omega)]⟩
    unfold txt;rw[Nl,lK,lD];have:=(hz.big 2 (by omega)).1
    omega
   ·rw[if_neg c13,if_pos (by omega)]
    have hb2:d.bufs.length=2:=by unfold Cc at hnb;rw[if_neg (by omega),if_neg (by omega),if_neg (by omega)]at hnb;omega
    refine⟨_,_,rfl,by unfold BH;omega,?_,by rw[if_pos (by omega)]⟩
    unfold txt;rw[Nl,lK,lD];have:=(hz.big 1 (by omega)).1
    omega
 |down f c g hk hkid hc ih=>
  intro d h hsm hg i hi
  by_cases hn:BJ f.kind d (d.ofs.toNat+i)=true
  ·exact .inl (by rw[UL hn])
  have hk0:f.kids.getD 0 BQ=c:=by rw[hkid];rfl
  have hkl:f.kids.length=1:=by rw[hkid];rfl
  rw[GX];unfold Eb;rw[if_neg hn,if_neg (by omega),if_neg (by omega),if_neg (by omega),if_neg (by omega),if_neg (by omega),if_neg (by omega),if_neg (by omega),if_neg (by omega)]
  by_cases c19:f.kind=19
  ·rw[if_pos c19]
   have hn1:=h.num.1 (by omega)
   obtain⟨a,b,e,_⟩:=h.dic c19 i hi hn (fun _=>(Bw,0))
   obtain⟨p1,p2,p3⟩:=h.part hsm 0 (by omega)
   have hpF:Bz f 0=c:=by unfold Bz;rw[if_neg (by omega),hk0]
   rw[hpF]at p1 p2
   dsimp only
   rw[h.row0 (by omega) 0 (by omega),hpF]
   have hlt:BW (d.buf 1) ((d.ofs.toNat+i)*Bk f.idx) (Bk f.idx)<(Bn d 0).len.toNat:=by unfold Bn;omega
   exact ih p1 p2 hg _ hlt
  ·rw[if_neg c19]
   have c20:f.kind=20:=by omega
   obtain⟨y,y1,y2,y3,y4,y5⟩:=h.runs c20 i hi;have hn2:=h.num.2 c20;obtain⟨p1,p2,p3⟩:=h.part hsm 1 (by omega)
   have hpF:Bz f 1=c:=by unfold Bz;rw[if_pos c20,if_neg (by omega),hk0]
   rw[hpF]at p1 p2
   dsimp only
   rw[h.row20 c20,y4,hpF];have hlt:y<(Bn d 1).len.toNat:=by unfold Bn;omega
   exact ih p1 p2 hg _ hlt
theorem zBi(a:Int):sgn a a=0:=by unfold sgn;rw[if_neg (by omega),if_neg (by omega)]
theorem zAS(a b:Int):sgn b a = - sgn a b:=by unfold sgn;(repeat' split)<;>omega
theorem ZS(a b:Int):sgn a b<=0↔a<=b:=by unfold sgn;(repeat' split)<;>omega
theorem PS(a b:Int):sgn a b=0↔a=b:=by unfold sgn;(repeat' split)<;>omega
theorem RQ:∀a:List UInt8,Lib.compareBytes a a=0
 |[]=>rfl
 |a::l=>by simp[Lib.compareBytes,RQ l,UInt8.lt_irrefl]
theorem Ub:∀a b:List UInt8,Lib.compareBytes b a = - Lib.compareBytes a b
 |[],[]=>rfl
 |[],_::_=>rfl
 |_::_,[]=>rfl
 |a::l,b::m=>by
  have ih:=Ub l m;simp only[Lib.compareBytes]
  by_cases h1:a<b
  ·have h2:¬b<a:=fun h=>absurd (UInt8.lt_trans h1 h) (UInt8.lt_irrefl _)
   simp[h1,h2]
  ·by_cases h2:b<a
   ·simp[h1,h2]
   ·simp[h1,h2,ih]
theorem Uf:∀a b:List UInt8,Lib.compareBytes a b=0->a=b
 |[],[],_=>rfl
 |[],_::_,h=>by simp[Lib.compareBytes]at h
 |_::_,[],h=>by simp[Lib.compareBytes]at h
 |a::l,b::m,h=>by
  simp only[Lib.compareBytes]at h
  by_cases h1:a<b
  ·simp[h1]at h
  ·by_cases h2:b<a
   ·simp[h1,h2]at h
   ·have h3:a=b:=UInt8.le_antisymm (UInt8.not_lt.1 h2) (UInt8.not_lt.1 h1)
    simp only[h1,h2,if_false]at h;rw[h3,Uf l m h]
theorem T2:∀a b c:List UInt8,Lib.compareBytes a b<=0->Lib.compareBytes b c<=0->Lib.compareBytes a c<=0
 |[],_,[],_,_=>by simp[Lib.compareBytes]
 |[],_,_::_,_,_=>by simp[Lib.compareBytes]
 |_::_,[],_,h,_=>by simp[Lib.compareBytes]at h
 |_::_,_::_,[],_,h=>by simp[Lib.compareBytes]at h
 |a::l,b::m,c::n,h,k=>by
  simp only[Lib.compareBytes]at h k ⊢
  by_cases h1:a<b
  ·by_cases k1:b<c
   ·simp[UInt8.lt_trans h1 k1]
   ·by_cases k2:c<b
    ·simp[k1,k2]at k
    ·have e:b=c:=UInt8.le_antisymm (UInt8.not_lt.1 k2) (UInt8.not_lt.1 k1)
     subst e;simp[h1]
  ·by_cases h2:b<a
   ·simp[h1,h2]at h
   ·have e:a=b:=UInt8.le_antisymm (UInt8.not_lt.1 h2) (UInt8.not_lt.1 h1)
    subst e
    by_cases k1:a<c
    ·simp[k1]
    ·by_cases k2:c<a
     ·simp[k1,k2]at k
     ·simp only[h1,k1,k2,if_false]at h k ⊢
      exact T2 l m n h k
theorem K1(k a:Int)(t:ByteArray):BZ k a a t t=0:=by
 unfold BZ Ez C1
 (repeat' split)<;>first|exact RQ _|exact zBi _
theorem Lc(k a b:Int)(t u:ByteArray):BZ k b a u t = - BZ k a b t u:=by
 unfold BZ Ez C1
 (repeat' split)<;>first|exact Ub _ _|exact zAS _ _
theorem Dx{k a b c:Int}{t u v:ByteArray}:BZ k a b t u<=0->BZ k b c u v<=0->BZ k a c t v<=0:=by
 unfold BZ Ez C1
 (repeat' split)<;>first|exact T2 _ _ _|(simp only[ZS];omega)
theorem zBB(m:Int)(h1:0<=m)(h2:m<=18446744073709551615):stdA.xr .u64 m=18446744073709551615-m:=by
 obtain⟨a,rfl⟩:∃a:Nat,m=a:=⟨m.toNat,by omega⟩
 show IntKind.u64.wrap ((BitVec.ofInt 64 18446744073709551615 ^^^ BitVec.ofInt 64 (a:Int)).toNat:Nat)=_
 have e:(BitVec.ofInt 64 18446744073709551615 ^^^ BitVec.ofInt 64 (a:Int)).toNat=18446744073709551615-a:=by
  rw[show BitVec.ofInt 64 18446744073709551615=BitVec.allOnes 64 by decide,BitVec.allOnes_xor,BitVec.toNat_not,BitVec.ofInt_natCast,BitVec.toNat_ofNat,Nat.mod_eq_of_lt (by omega)]
 rw[e]
 have:=Gj ((18446744073709551615-a:Nat):Int) (by omega) (by omega)
 rw[show IntKind.u64.wrap ((18446744073709551615-a:Nat):Int)=stdA.wr .u64 ((18446744073709551615-a:Nat):Int)from rfl,this]
 omega
theorem Km(a:Int)(h:a<0)(h2: -9223372036854775808<=a):stdA.wr .u64 a=a+18446744073709551616:=by
 show IntKind.u64.wrap a=_
 simp only[IntKind.wrap,IntKind.signed,IntKind.bits]
 simp
 omega
theorem Uc{a:Int}(ha:BH a):ES a=if a<0 then -1-a else a+9223372036854775808:=by
 unfold BH at ha
 unfold ES
 by_cases h:a<0
 ·rw[if_pos h,if_pos h,Km a h ha.1,zBB _ (by omega) (by omega)];omega
 ·rw[if_neg h,if_neg h]
theorem zD3{k a b:Int}{t u:ByteArray}(ha:BH a)(hb0:BH b)(h:BZ k a b t u=0):if 12<=k then t=u else a=b:=by
 unfold BZ at h
 by_cases h12:12<=k
 ·rw[if_pos h12]at h ⊢
  have:=Uf _ _ h;cases t;cases u;simp only[ByteArray.mk.injEq];exact Array.toList_inj.1 this
 ·rw[if_neg h12]at h ⊢
  unfold Ez at h;split at h
  ·rw[PS]at h
   unfold BH at ha hb0
   by_cases h1:a<0<;>by_cases h2:b<0
   ·rw[Km a h1 ha.1,Km b h2 hb0.1]at h;omega
   ·rw[Km a h1 ha.1,Gj b (by omega) (by omega)]at h;omega
   ·rw[Gj a (by omega) (by omega),Km b h2 hb0.1]at h;omega
   ·rw[Gj a (by omega) (by omega),Gj b (by omega) (by omega)]at h;omega
  ·split at h
   ·rw[PS,Uc ha,Uc hb0]at h
    unfold BH at ha hb0;split at h<;>split at h<;>omega
   ·exact(PS a b).1 h
section
theorem Rj(k:Int)(h:EH):Tri Tryz.prog gs 15 [.lit (.int .i64 k)] h fun v h'=>IsP (2<=k/\k<=14) v/\h'=h:=by
 refine Tri.boolC rfl (Bj F15_ok fun I0 ρ0 w0 Q hρ hQ=>?_) h
 obtain⟨A,hA⟩:∃A,A=stdA:=⟨_,rfl⟩
 with_reducible refine Be hA hd hQ 200 ?hk ?_
 case hk=>trivial
 conv=>arg 9;cbv
 try simp only[OK]
 repeat' first|((with_reducible refine⟨fun hbr=>?_,fun hbr=>?_⟩)<;>(try simp(disch:=omega)only[hA,Ba]at hbr)<;>(try (with_reducible exfalso;omega)))|((with_reducible refine Bd hA hd hQ 200 ?hk ?_);(case hk=>trivial);(conv=>arg 9;cbv);(try simp only[OK]))
 all_goals (try (with_reducible refine FinR.self ?_;first|refine FinR.bl rfl ?_|refine FinR.bs rfl ?_|refine FinR.blh rfl ?_ rfl|refine FinR.bsh rfl ?_ rfl))
 all_goals (try simp(disch:=omega)only[hA,Ba,bF,false_iff])
 all_goals omega
def zV:List EV:=[.lit (.bool false),.lit (.int .i64 0),.lit (.string ⟨#[]⟩),.lit (.slice none 0 0)]
def vC(n:Int)(t:ByteArray)(c:List EV):List EV:=[.lit (.bool false),.lit (.int .i64 n),.lit (.string t),.isl 0 none c]
def z11:List EV:=[.lit (.int .i64 0),.lit (.int .i64 0),.lit (.bool false)]++zV++zV
def LAo:EC:=rfA (EK (GN (Er (Dv F4.body 8))))
def LBo:EC:=rfB (EK (GN (Er (Dv F4.body 8))))
def LTo(AC:List EV):List EV:=mkT 99 [(4,.ptr 0 0),(8,.ptr 1 0),(9,.ptr 2 0),(10,.ptr 3 0),(11,.ptr 4 0),(12,.ptr 5 0),(40,.fn (.func 31) [] [.iptr [.iptr AC 0] 0])]
def HO(PC:List EV)(len nl:Int)(lc mc:List EV)(has:Bool)(T:List EV)(LA LB:EC)(st:Nat):EH:=
 [.blk z11,.blk PC,.blk ([.lit (.int .i64 len),.lit (.int .i64 nl),.lit (.bool false)]++zV++zV),.blk lc,.blk mc,.blk [.lit (.bool has)],.lp T [41,42] LA LB st none]
def GV(AC:List EV):List EV:=mkT 99 [(4,.ptr 0 0),(8,.ptr 1 0),(9,.ptr 2 0),(10,.ptr 3 0),(11,.ptr 4 0),(12,.ptr 5 0),(14,.ptr 8 0),(40,.fn (.func 31) [] [.iptr [.iptr AC 0] 0])]
def PCc(nm:ByteArray)(nul:Bool)(k w i x:Int)(kn:Nat)(kc:List EV):List EV:=[.lit (.string nm),.lit (.bool nul),.lit (.int .i64 k),.lit (.int .i64 w),.lit (.int .i64 i),.lit (.int .i64 x),.isl kn none kc]
def GM(T:List EV):Prop:=∀g z,(∀i,i<6->g i=some i)->mvL g z T=T
theorem Jd(AC:List EV):GM (LTo AC):=fun g z hg=>by
 show (mkT 99 [(4,mvE g z (.ptr 0 0)),(8,mvE g z (.ptr 1 0)),(9,mvE g z (.ptr 2 0)),(10,mvE g z (.ptr 3 0)),(11,mvE g z (.ptr 4 0)),(12,mvE g z (.ptr 5 0)),(40,mvE g z (.fn (.func 31) [] [.iptr [.iptr AC 0] 0]))])=_
 simp only[mvE,mvL,hg 0 (by decide),hg 1 (by decide),hg 2 (by decide),hg 3 (by decide),hg 4 (by decide),hg 5 (by decide)]
 rfl
abbrev L8:List Nat:=[0,1,2,3,4,5,6,7]
theorem H1{nm:ByteArray}{nul:Bool}{k w i x:Int}{kn:Nat}{kc lc mc T:List EV}{len nl:Int}{has:Bool}{LA LB:EC}{st:Nat}(hT:GM T)(hlc:clL lc=true)(hmc:clL mc=true)(vc:List EV)(hvc:clL vc=true)(t:EH) :
  mvH L8 [] (HO (PCc nm nul k w i x kn kc) len nl lc mc has T LA LB st++(.blk vc::t)) L8=HO (PCc nm nul k w i x kn kc) len nl lc mc has T LA LB st++[.blk vc]:=by
 show ([.blk z11,.blk (PCc nm nul k w i x kn kc),.blk ([.lit (.int .i64 len),.lit (.int .i64 nl),.lit (.bool false)]++zV++zV),.blk (mvL _ _ lc),.blk (mvL _ _ mc),.blk [.lit (.bool has)],.lp (mvL (mvG L8 []) (mvZ [] _) T) [41,42] LA LB st none,.blk (mvL _ _ vc)]:EH)=_
 rw[hT _ _ (by decide),BR _ _ _ hlc,BR _ _ _ hmc,BR _ _ _ hvc]
 rfl
section
variable {ro:Option Nat} {I0:Imm} {ρ0:Ren} {w0:World} {Q:Exit->Act->World->Prop}
theorem zDv(PC AC lc mc T:List EV)(LA LB:EC)(len nl z:Int)(has:Bool)(vb:Bool)(vn:Int)(vt:ByteArray)(ln:Nat)(c:List EV)
  (hpost:∀a w',SimX Tryz.prog gs I0 ρ0 w0 ⟨GV AC,HO PC len nl lc mc has T LA LB 0++[.blk [.lit (.bool vb),.lit (.int .i64 vn),.lit (.string vt),.isl ln none c],.blk [.lit (.bool vb),.lit (.int .i64 vn),.lit (.string vt),.isl ln none c]]⟩ a w'->Q .normal a w') :
  OKs Tryz.prog gs ro I0 ρ0 w0 Q [.c LAo] ⟨Dm (LTo AC) [41,42] [.lit (.int .i64 z),.agg [.lit (.bool vb),.lit (.int .i64 vn),.lit (.string vt),.isl ln none c]],HO PC len nl lc mc has T LA LB 0++[.blk [.lit (.bool vb),.lit (.int .i64 vn),.lit (.string vt),.isl ln none c]]⟩:=by
 obtain⟨A,hA⟩:∃A,A=stdA:=⟨_,rfl⟩
 have hQ:EndsQ Tryz.prog gs I0 ρ0 w0 Q (fun _=>False):=EndsQ.no
 with_reducible refine Be hA hd hQ 1 ?hk ?_
 case hk=>trivial
 conv=>arg 9;cbv
 try simp only[OK]
 repeat' first|(with_reducible refine OKK.nilS ?_)|((with_reducible refine Bd hA hd hQ 1 ?hk ?_);(case hk=>trivial);(conv=>arg 9;cbv);(try simp only[OK]))
 refine oK_ (msk 99 [4,8,9,10,11,12,14,40]) ?_
 exact OKs.nil hpost
theorem zDX(ρl:ρ0.length=8)(nm:ByteArray)(nul:Bool)(k w i x:Int)(kn:Nat)(kc AC T:List EV)(LA LB:EC)(hT:GM T)(len nl:Int)(lc mc:List EV)(has:Bool)(vn:Int)(vt:ByteArray)(ln:Nat)(c:List EV)(hnl:0<=nl/\nl<=4096)(hlc:clL lc=true)(hmc:clL mc=true)
  (hpost:∀a w',SimX Tryz.prog gs I0 ρ0 w0 ⟨LTo AC,HO (PCc nm nul k w i x kn kc) len (nl+1) lc mc has T LA LB 1++[.blk [.lit (.bool true),.lit (.int .i64 vn),.lit (.string vt),.isl ln none c]]⟩ a w'->Q .normal a w') :
  OKs Tryz.prog gs ro I0 ρ0 w0 Q [.c LBo] ⟨GV AC,HO (PCc nm nul k w i x kn kc) len nl lc mc has T LA LB 1++[.blk [.lit (.bool true),.lit (.int .i64 vn),.lit (.string vt),.isl ln none c],.blk [.lit (.bool true),.lit (.int .i64 vn),.lit (.string vt),.isl ln none c]]⟩:=by
 obtain⟨A,hA⟩:∃A,A=stdA:=⟨_,rfl⟩
 have hQ:EndsQ Tryz.prog gs I0 ρ0 w0 Q (fun _=>False):=EndsQ.no
 have e1:A.ib .add .i64 nl 1=nl+1:=by simp(disch:=omega)only[hA,Ba]
 rw[<-e1]at hpost
 with_reducible refine Be hA hd hQ 1 ?hk ?_
 case hk=>trivial
 conv=>arg 9;cbv
 try simp only[OK]
 repeat' first|(with_reducible refine OKK.nilS ?_)|((with_reducible refine Bd hA hd hQ 1 ?hk ?_);(case hk=>trivial);(conv=>arg 9;cbv);(try simp only[OK]))
 refine oK_ (msk 99 [4,8,9,10,11,12,40]) (OKs.mvE L8 [] (by rw[ρl];rfl) ⟨by decide,by simp[Bc],by simp⟩ (H1 hT hlc hmc _ rfl [_]) (OKs.nil hpost))
theorem Yv(ρl:ρ0.length=8)(nm:ByteArray)(nul:Bool)(k w i x:Int)(kn:Nat)(kc AC T:List EV)(LA LB:EC)(hT:GM T)(len nl:Int)(lc mc:List EV)(has:Bool)(vn:Int)(vt:ByteArray)(ln:Nat)(c:List EV)(hk:¬(2<=k/\k<=14))(hlc:clL lc=true)(hmc:clL mc=true)
  (hpost:∀a w',SimX Tryz.prog gs I0 ρ0 w0 ⟨LTo AC,HO (PCc nm nul k w i x kn kc) len nl lc mc has T LA LB 1++[.blk [.lit (.bool false),.lit (.int .i64 vn),.lit (.string vt),.isl ln none c]]⟩ a w'->Q .normal a w') :
  OKs Tryz.prog gs ro I0 ρ0 w0 Q [.c LBo] ⟨GV AC,HO (PCc nm nul k w i x kn kc) len nl lc mc has T LA LB 1++[.blk [.lit (.bool false),.lit (.int .i64 vn),.lit (.string vt),.isl ln none c],.blk [.lit (.bool false),.lit (.int .i64 vn),.lit (.string vt),.isl ln none c]]⟩:=by
 obtain⟨A,hA⟩:∃A,A=stdA:=⟨_,rfl⟩
 have hQ:EndsQ Tryz.prog gs I0 ρ0 w0 Q (fun _=>False):=EndsQ.no
 have hb1:=Rj k
 simp only[hk]at hb1
 with_reducible refine Be hA hd hQ 1 ?hk ?_
 case hk=>trivial
 conv=>arg 9;cbv
 try simp only[OK]
 repeat' first|(with_reducible refine OKK.nilS ?_)|((with_reducible refine⟨fun hbr=>?_,fun hbr=>?_⟩)<;>(try simp(disch:=omega)only[hA,Ba,reduceCtorEq]at hbr)<;>(try (with_reducible exfalso;omega)))|((with_reducible refine Bd hA hd hQ 1 ?hk ?_);(case hk=>trivial);(conv=>arg 9;cbv);(try simp only[OK]))|((with_reducible refine cO ?hg ?_);(case hg=>with_reducible exact Bb F15_ok);(refine tM (hb1 _) fun v hh hx=>?_);(obtain⟨⟨b,hv,hb⟩,he⟩:=hx;subst hv;subst he;cases b<;>simp(disch:=omega)only[bF,true_iff,eq_self]at hb)<;>(try (with_reducible exfalso;omega)))
 refine oK_ (msk 99 [4,8,9,10,11,12,40]) (OKs.mvE L8 [] (by rw[ρl];rfl) ⟨by decide,by simp[Bc],by simp⟩ (H1 hT hlc hmc _ rfl [_]) (OKs.nil hpost))
theorem zDk(ρl:ρ0.length=8)(nm:ByteArray)(nul:Bool)(k w i x:Int)(kn:Nat)(kc AC T:List EV)(LA LB:EC)(hT:GM T)(len nl:Int)(vn:Int)(vt:ByteArray)(c:List EV)(hk:2<=k/\k<=14)
  (hpost:∀a w',SimX Tryz.prog gs I0 ρ0 w0 ⟨LTo AC,HO (PCc nm nul k w i x kn kc) len nl (vC vn vt c) (vC vn vt c) true T LA LB 1++[.blk (vC vn vt c)]⟩ a w'->Q .normal a w') :
  OKs Tryz.prog gs ro I0 ρ0 w0 Q [.c LBo] ⟨GV AC,HO (PCc nm nul k w i x kn kc) len nl zV zV false T LA LB 1++[.blk (vC vn vt c),.blk (vC vn vt c)]⟩:=by
 obtain⟨A,hA⟩:∃A,A=stdA:=⟨_,rfl⟩
 have hQ:EndsQ Tryz.prog gs I0 ρ0 w0 Q (fun _=>False):=EndsQ.no
 have hb1:=Rj k
 simp only[hk,and_self]at hb1
 with_reducible refine Be hA hd hQ 1 ?hk ?_
 case hk=>trivial
 conv=>arg 9;cbv
 try simp only[OK]
 repeat' first|(with_reducible refine OKK.nilS ?_)|((with_reducible refine⟨fun hbr=>?_,fun hbr=>?_⟩)<;>(try simp(disch:=omega)only[hA,Ba,reduceCtorEq]at hbr)<;>(try (with_reducible exfalso;omega)))|((with_reducible refine Bd hA hd hQ 1 ?hk ?_);(case hk=>trivial);(conv=>arg 9;cbv);(try simp only[OK]))|((with_reducible refine cO ?hg ?_);(case hg=>with_reducible exact Bb F15_ok);(refine tM (hb1 _) fun v hh hx=>?_);(obtain⟨⟨b,hv,hb⟩,he⟩:=hx;subst hv;subst he;cases b<;>simp(disch:=omega)only[bF,false_iff,eq_self,not_true_eq_false]at hb)<;>(try (with_reducible exfalso;omega)))
 refine oK_ (msk 99 [4,8,9,10,11,12,40]) (OKs.mvE L8 [] (by rw[ρl];rfl) ⟨by decide,by simp[Bc],by simp⟩ (H1 (lc:=vC vn vt c) (mc:=vC vn vt c) hT rfl rfl _ rfl [_]) (OKs.nil hpost))
theorem zAV(ρl:ρ0.length=8)(nm:ByteArray)(nul:Bool)(k w i x:Int)(kn:Nat)(kc AC T:List EV)(LA LB:EC)(hT:GM T)(len nl:Int)(vn ln mn:Int)(vt lt mt:ByteArray)(c c1 c2:List EV)(hk:2<=k/\k<=14)(hz:k<=11->w=0/\i=0/\x=0/\kn=0/\kc=[])(hv:BH vn)(hl:BH ln)(hm:BH mn)(hvn:k<=11->vt.size=0/\Cy k vn)(hln:k<=11->lt.size=0/\Cy k ln)(hmn:k<=11->mt.size=0/\Cy k mn)
  (hpost:∀l' m',(l'=if BZ k vn ln vt lt<0 then vC vn vt c else vC ln lt c1)->(m'=if 0<BZ k vn mn vt mt then vC vn vt c else vC mn mt c2)->∀a w',SimX Tryz.prog gs I0 ρ0 w0 ⟨LTo AC,HO (PCc nm nul k w i x kn kc) len nl l' m' true T LA LB 1++[.blk (vC vn vt c)]⟩ a w'->Q .normal a w') :
  OKs Tryz.prog gs ro I0 ρ0 w0 Q [.c LBo] ⟨GV AC,HO (PCc nm nul k w i x kn kc) len nl (vC ln lt c1) (vC mn mt c2) true T LA LB 1++[.blk (vC vn vt c),.blk (vC vn vt c)]⟩:=by
 obtain⟨A,hA⟩:∃A,A=stdA:=⟨_,rfl⟩
 have hQ:EndsQ Tryz.prog gs I0 ρ0 w0 Q (fun _=>False):=EndsQ.no
 have hb1:=Rj k
 simp only[hk,and_self]at hb1
 have o1:=RC nm nul k w i x kn kc hk hz vn ln vt lt c c1 hv hl (fun h=>⟨hvn h,hln h⟩)
 have o2:=RC nm nul k w i x kn kc hk hz vn mn vt mt c c2 hv hm (fun h=>⟨hvn h,hmn h⟩)
 have hp11:=hpost _ _ rfl rfl
 clear hpost
 generalize BZ k vn ln vt lt=O1,BZ k vn mn vt mt=O2 at *
 unfold Hz at o1 o2
 unfold PCc vC at *
 with_reducible refine Be hA hd hQ 1 ?hk ?_
 case hk=>trivial
 conv=>arg 9;cbv
 try simp only[OK]
 repeat' first|(with_reducible refine OKK.nilS ?_)|((with_reducible refine⟨fun hbr=>?_,fun hbr=>?_⟩)<;>(try simp(disch:=omega)only[hA,Ba,reduceCtorEq]at hbr)<;>(try (with_reducible exfalso;omega)))|((with_reducible refine Bd hA hd hQ 1 ?hk ?_);(case hk=>trivial);(conv=>arg 9;cbv);(try simp only[OK]))|((with_reducible refine cO ?hg ?_);(case hg=>with_reducible exact Bb F15_ok);(refine tM (hb1 _) fun v hh hx=>?_);(obtain⟨⟨b,hv,hb⟩,he⟩:=hx;subst hv;subst he;cases b<;>simp(disch:=omega)only[bF,false_iff,eq_self,not_true_eq_false]at hb)<;>(try (with_reducible exfalso;omega)))|(refine cO (Bb F16_ok) (tM (o1 _) fun v hh hx=>?_);(obtain⟨⟨z,hv,hz⟩,he⟩:=hx;subst hv;subst he))|(refine cO (Bb F16_ok) (tM (o2 _) fun v hh hx=>?_);(obtain⟨⟨z,hv,hz⟩,he⟩:=hx;subst hv;subst he))
 ·rw[if_pos (by omega),if_pos (by omega)]at hp11
  refine oK_ (msk 99 [4,8,9,10,11,12,40]) (OKs.mvE L8 [] (by rw[ρl];rfl) ⟨by decide,by simp[Bc],by simp⟩ (H1 hT (by rfl) (by rfl) _ (by rfl) [_]) (OKs.nil hp11))
 ·rw[if_pos (by omega),if_neg (by omega)]at hp11
  refine oK_ (msk 99 [4,8,9,10,11,12,40]) (OKs.mvE L8 [] (by rw[ρl];rfl) ⟨by decide,by simp[Bc],by simp⟩ (H1 hT (by rfl) (by rfl) _ (by rfl) [_]) (OKs.nil hp11))
 ·rw[if_neg (by omega),if_pos (by omega)]at hp11
  refine oK_ (msk 99 [4,8,9,10,11,12,40]) (OKs.mvE L8 [] (by rw[ρl];rfl) ⟨by decide,by simp[Bc],by simp⟩ (H1 hT (by rfl) (by rfl) _ (by rfl) [_]) (OKs.nil hp11))
 ·rw[if_neg (by omega),if_neg (by omega)]at hp11
  refine oK_ (msk 99 [4,8,9,10,11,12,40]) (OKs.mvE L8 [] (by rw[ρl];rfl) ⟨by decide,by simp[Bc],by simp⟩ (H1 hT (by rfl) (by rfl) _ (by rfl) [_]) (OKs.nil hp11))
end
end
def CD(Y:List Val):Nat:=(Y.filter Val.null).length
def OfI (k : Int) (Y : List Val) (j : Nat) (nl : Int) (lc mc : List EV) (has : Bool) : Prop :=
  nl = CD (Y.take j) ∧
  ((has = false ∧ lc = zV ∧ mc = zV ∧ (2 ≤ k ∧ k ≤ 14 → ∀ v ∈ Y.take j, v.null = true)) ∨
   (has = true ∧ (2 ≤ k ∧ k ≤ 14) ∧ ∃ ln lt mn mt, lc = vC ln lt [] ∧ mc = vC mn mt [] ∧ Val.mk false ln lt [] ∈ Y.take j ∧ Val.mk false mn mt [] ∈ Y.take j ∧
      ∀ v ∈ Y.take j, v.null = false → BZ k ln v.num lt v.text ≤ 0 ∧ BZ k v.num mn v.text mt ≤ 0))
theorem OfI.cl{k:Int}{Y:List Val}{j:Nat}{nl:Int}{lc mc:List EV}{has:Bool}(h:OfI k Y j nl lc mc has):clL lc=true/\clL mc=true:=by
 rcases h.2 with ⟨_,rfl,rfl,_⟩|⟨_,_,ln,lt,mn,mt,rfl,rfl,_⟩<;>exact⟨rfl,rfl⟩
theorem Hq(Y:List Val):CD Y<=Y.length:=List.length_filter_le _ _
theorem D2{Y:List Val}{j:Nat}(h:j<Y.length){v d:Val}:v∈Y.take (j+1)↔v∈Y.take j\/v=Y.getD j d:=by
 rw[KQ Y j d h,List.mem_append,List.mem_singleton]
theorem Kh{Y:List Val}{j:Nat}(h:j<Y.length)(d:Val):CD (Y.take (j+1))=CD (Y.take j)+if (Y.getD j d).null=true then 1 else 0:=by
 rw[KQ Y j d h]
 unfold CD
 rw[List.filter_append,List.length_append]
 generalize Y.getD j d=V
 cases hn:V.null<;>simp[List.filter,hn]
theorem OfI.null{k:Int}{Y:List Val}{j:Nat}{nl:Int}{lc mc:List EV}{has:Bool}(h:OfI k Y j nl lc mc has)(hj:j<Y.length)(hn:(Y.getD j Bw).null=true):OfI k Y (j+1) (nl+1) lc mc has:=by
 obtain⟨h1,h2⟩:=h
 refine⟨by rw[Kh hj Bw,if_pos hn,h1];push_cast;rfl,?_⟩
 rcases h2 with ⟨a,b,c,d⟩|⟨a,b,ln,lt,mn,mt,c,d,e,f,g⟩
 ·refine .inl ⟨a,b,c,fun hk v hv=>?_⟩
  rcases (D2 hj (d:=Bw)).1 hv with hv|rfl
  ·exact d hk v hv
  ·exact hn
 ·refine .inr ⟨a,b,ln,lt,mn,mt,c,d,(D2 hj (d:=Bw)).2 (.inl e),(D2 hj (d:=Bw)).2 (.inl f),fun v hv hvn=>?_⟩
  rcases (D2 hj (d:=Bw)).1 hv with hv|rfl
  ·exact g v hv hvn
  ·rw[hn]at hvn;exact absurd hvn (by decide)
theorem OfI.skip{k:Int}{Y:List Val}{j:Nat}{nl:Int}{lc mc:List EV}{has:Bool}(h:OfI k Y j nl lc mc has)(hj:j<Y.length)(hk:¬(2<=k/\k<=14))(hn:(Y.getD j Bw).null=false):OfI k Y (j+1) nl lc mc has:=by
 obtain⟨h1,h2⟩:=h
 refine⟨by rw[Kh hj Bw,if_neg (by rw[hn];decide),h1];rfl,?_⟩
 rcases h2 with ⟨a,b,c,d⟩|⟨a,b,_⟩
 ·exact .inl ⟨a,b,c,fun hk'=>absurd hk' hk⟩
 ·exact absurd b hk
theorem OfI.first{k:Int}{Y:List Val}{j:Nat}{nl:Int}{lc mc:List EV}(h:OfI k Y j nl lc mc false)(hj:j<Y.length)(hk:2<=k/\k<=14){n:Int}{t:ByteArray}(hv:Y.getD j Bw = .mk false n t []) :
  lc=zV/\mc=zV/\OfI k Y (j+1) nl (vC n t []) (vC n t []) true:=by
 obtain⟨h1,h2⟩:=h
 rcases h2 with ⟨a,b,c,d⟩|⟨a,_⟩
 ·refine⟨b,c,by rw[Kh hj Bw,if_neg (by rw[hv];simp[Val.null]),h1];rfl,.inr ⟨rfl,hk,n,t,n,t,rfl,rfl,(D2 hj (d:=Bw)).2 (.inr hv.symm),(D2 hj (d:=Bw)).2 (.inr hv.symm),fun v hm hvn=>?_⟩⟩
  rcases (D2 hj (d:=Bw)).1 hm with hm|rfl
  ·rw[d hk v hm]at hvn;exact absurd hvn (by decide)
  ·rw[hv];simp only[Val.num,Val.text,K1];exact⟨by omega,by omega⟩
 ·cases a
theorem OfI.next{k:Int}{Y:List Val}{j:Nat}{nl:Int}{ln mn:Int}{lt mt:ByteArray}(h1:nl=CD (Y.take j))(hk:2<=k/\k<=14)(hl:Val.mk false ln lt []∈Y.take j)(hm:Val.mk false mn mt []∈Y.take j)
  (hall:∀v∈Y.take j,v.null=false->BZ k ln v.num lt v.text<=0/\BZ k v.num mn v.text mt<=0) (hj:j<Y.length) {n:Int} {t:ByteArray} (hv:Y.getD j Bw = .mk false n t []) {l' m':List EV}
  (hl':l'=if BZ k n ln t lt<0 then vC n t []else vC ln lt []) (hm':m'=if 0<BZ k n mn t mt then vC n t []else vC mn mt []):OfI k Y (j+1) nl l' m' true:=by
 have hin:Val.mk false n t []∈Y.take (j+1):=(D2 hj (d:=Bw)).2 (.inr hv.symm)
 have hmore:∀v,v∈Y.take j->v∈Y.take (j+1):=fun v h=>(D2 hj (d:=Bw)).2 (.inl h)
 refine⟨by rw[Kh hj Bw,if_neg (by rw[hv];simp[Val.null]),h1];rfl,.inr ⟨rfl,hk,?_⟩⟩
 have f1:=Lc k n ln t lt
 have f2:=Lc k n mn t mt
 by_cases c1:BZ k n ln t lt<0<;>by_cases c2:0<BZ k n mn t mt
 ·rw[if_pos c1]at hl';rw[if_pos c2]at hm'
  refine⟨n,t,n,t,hl',hm',hin,hin,fun v hmv hvn=>?_⟩
  rcases (D2 hj (d:=Bw)).1 hmv with hmv|rfl
  ·obtain⟨a,b⟩:=hall v hmv hvn
   exact⟨Dx (by omega) a,Dx b (by omega)⟩
  ·rw[hv];simp only[Val.num,Val.text,K1];exact⟨by omega,by omega⟩
 ·rw[if_pos c1]at hl';rw[if_neg c2]at hm'
  refine⟨n,t,mn,mt,hl',hm',hin,hmore _ hm,fun v hmv hvn=>?_⟩
  rcases (D2 hj (d:=Bw)).1 hmv with hmv|rfl
  ·obtain⟨a,b⟩:=hall v hmv hvn
   exact⟨Dx (by omega) a,b⟩
  ·rw[hv];simp only[Val.num,Val.text,K1];exact⟨by omega,by omega⟩
 ·rw[if_neg c1]at hl';rw[if_pos c2]at hm'
  refine⟨ln,lt,n,t,hl',hm',hmore _ hl,hin,fun v hmv hvn=>?_⟩
  rcases (D2 hj (d:=Bw)).1 hmv with hmv|rfl
  ·obtain⟨a,b⟩:=hall v hmv hvn
   exact⟨a,Dx b (by omega)⟩
  ·rw[hv];simp only[Val.num,Val.text,K1];exact⟨by omega,by omega⟩
 ·rw[if_neg c1]at hl';rw[if_neg c2]at hm'
  refine⟨ln,lt,mn,mt,hl',hm',hmore _ hl,hmore _ hm,fun v hmv hvn=>?_⟩
  rcases (D2 hj (d:=Bw)).1 hmv with hmv|rfl
  ·exact hall v hmv hvn
  ·rw[hv];simp only[Val.num,Val.text];exact⟨by omega,by omega⟩
def Ta(k:Int)(Y:List Val)(j:Nat)(PC:List EV)(len:Int)(T:List EV)(LA LB:EC)(vc:List EV)(v:EV)(h':EH):Prop:=
 v = .lit (.bool true)/\∃nl lc mc has,OfI k Y (j+1) nl lc mc has/\h'=HO PC len nl lc mc has T LA LB 0++[.blk vc]
theorem Lw{k:Int}{Y:List Val}(hY:∀v∈Y,EQ k v){j:Nat}{n:Int}{t:ByteArray}(h:Val.mk false n t []∈Y.take j):BH n/\(k<=11->t.size=0/\Cy k n):=by
 rcases hY _ (List.mem_of_mem_take h)with e|⟨n',t',e,a,b,c⟩
 ·cases e
 ·cases e
  refine⟨a,fun h=>?_⟩
  rw[if_neg (by omega)]at c
  exact c
theorem Y8(nm:ByteArray)(nul:Bool)(k w i x:Int)(kn:Nat)(kc AC:List EV)(len:Int)(hz:(2<=k/\k<=14)->k<=11->w=0/\i=0/\x=0/\kn=0/\kc=[])(Y:List Val)(hYl:Y.length<=4096)(hY:2<=k/\k<=14->∀v∈Y,EQ k v)
  (j:Nat) (hj:j<Y.length) (z nl:Int) (lc mc:List EV) (has:Bool) (hI:OfI k Y j nl lc mc has) (V:Val) (hV:Y.getD j Bw=V) :
  TriY Tryz.prog gs 6 [.lit (.int .i64 z),.agg (BK V)] (HO (PCc nm nul k w i x kn kc) len nl lc mc has (LTo AC) LAo LBo 0++[.blk (BK V)]) (Ta k Y j (PCc nm nul k w i x kn kc) len (LTo AC) LAo LBo (BK V)):=by
 obtain⟨hlc,hmc⟩:=hI.cl
 have hnl:0<=nl/\nl<=4096:=by
  have:=Hq (Y.take j);rw[lK]at this;have:=hI.1;omega
 have key:∀(ro:Option Nat) (I0:Imm) (ρ0:Ren) (w0:World) (Q:Exit->Act->World->Prop),ρ0.length=8->
   (∀nl' lc' mc' has',OfI k Y (j+1) nl' lc' mc' has'->∀a w',SimX Tryz.prog gs I0 ρ0 w0 ⟨LTo AC,HO (PCc nm nul k w i x kn kc) len nl' lc' mc' has' (LTo AC) LAo LBo 1++[.blk (BK V)]⟩ a w'->Q .normal a w')->
   OKs Tryz.prog gs ro I0 ρ0 w0 Q [.c LBo] ⟨GV AC,HO (PCc nm nul k w i x kn kc) len nl lc mc has (LTo AC) LAo LBo 1++[.blk (BK V),.blk (BK V)]⟩:=by
  intro ro I0 ρ0 w0 Q hρ hpost;obtain⟨vb,vn,vt,vl⟩:=V;simp only[BK];cases vb with
  |true=>exact zDX hρ nm nul k w i x kn kc AC _ _ _ (Jd AC) len nl lc mc has vn vt _ _ hnl hlc hmc (hpost _ _ _ _ (hI.null hj (by rw[hV];rfl)))
  |false=>
   by_cases hk:2<=k/\k<=14
   ·have hm:Y.getD j Bw∈Y:=by
     rw[lG,lE hj];exact List.getElem_mem _
    rw[hV]at hm;rcases hY hk _ hm with e|⟨n',t',e,a,b,c⟩
    ·cases e
    ·cases e
     cases has with
     |false=>
      obtain⟨rfl,rfl,hI2⟩:=hI.first hj hk hV
      exact zDk hρ nm nul k w i x kn kc AC _ _ _ (Jd AC) len nl vn vt [] hk (hpost _ _ _ _ hI2)
     |true=>
      obtain⟨h1,h2⟩:=hI;rcases h2 with ⟨a',_⟩|⟨_,_,ln,lt,mn,mt,rfl,rfl,e,f,g⟩
      ·cases a'
      obtain⟨l1,l2⟩:=Lw (hY hk) e;obtain⟨m1,m2⟩:=Lw (hY hk) f;refine zAV hρ nm nul k w i x kn kc AC _ _ _ (Jd AC) len nl vn ln mn vt lt mt [] [] [] hk (hz hk) a l1 m1 (fun h=>?_) l2 m2 fun l' m' hl' hm'=>hpost _ _ _ _ (OfI.next h1 hk e f g hj hV hl' hm')
      rw[if_neg (by omega)]at c
      exact c
   ·exact Yv hρ nm nul k w i x kn kc AC _ _ _ (Jd AC) len nl lc mc has vn vt _ _ hk hlc hmc (hpost _ _ _ _ (hI.skip hj hk (by rw[hV];rfl)))
 have hasg:∀(ro:Option Nat) (I0:Imm) (ρ0:Ren) (w0:World) (Q:Exit->Act->World->Prop),
   (∀a w',SimX Tryz.prog gs I0 ρ0 w0 ⟨GV AC,HO (PCc nm nul k w i x kn kc) len nl lc mc has (LTo AC) LAo LBo 0++[.blk (BK V),.blk (BK V)]⟩ a w'->Q .normal a w')->
   OKs Tryz.prog gs ro I0 ρ0 w0 Q [.c LAo] ⟨Dm (LTo AC) [41,42] [.lit (.int .i64 z),.agg (BK V)],HO (PCc nm nul k w i x kn kc) len nl lc mc has (LTo AC) LAo LBo 0++[.blk (BK V)]⟩:=by
  intro ro I0 ρ0 w0 Q hpost;obtain⟨vb,vn,vt,vl⟩:=V;exact zDv _ AC lc mc _ _ _ len nl z has vb vn vt _ _ hpost
 generalize BK V=vc at *
 refine TriY.mono (Nm (how:=none) (t0:=LTo AC) (t1:=LTo AC) (ps:=[41,42]) (ps1:=[41,42]) (asg:=LAo) (a1:=LAo) (body:=LBo) (b1:=LBo) (pd:=none) (pd1:=none) (s1:=⟨GV AC,HO (PCc nm nul k w i x kn kc) len nl lc mc has (LTo AC) LAo LBo 0++[EO.blk vc,EO.blk vc]⟩)
  (S2:=fun s=>∃nl' lc' mc' has',OfI k Y (j+1) nl' lc' mc' has'/\s=⟨LTo AC,HO (PCc nm nul k w i x kn kc) len nl' lc' mc' has' (LTo AC) LAo LBo 1++[EO.blk vc]⟩) rfl rfl
  (fun ro I0 ρ0 w0 Q hl _ hpost=>hasg ro I0 ρ0 w0 Q hpost) rfl
  (fun ro I0 ρ0 w0 Q hl _ hpost=>key ro I0 ρ0 w0 Q hl fun nl' lc' mc' has' hi=>hpost _ ⟨nl',lc',mc',has',hi,rfl⟩)
  (fun s2 ⟨nl',lc',mc',has',hi,hs⟩=>by subst hs;exact⟨_,_,_,_,_,_,rfl⟩)) fun v h' hx=>?_
 obtain⟨hv,s2,t2,ps2,a2,b2,st2,pd2,⟨nl',lc',mc',has',hi,rfl⟩,hg,hh⟩:=hx
 cases hg
 exact⟨hv,nl',lc',mc',has',hi,hh⟩
end Go.Proofs.YtehgpabfgjofhaaGreatDoor.Stats
