/- No conditions. -/
import Derived.Test.YtehgpabfgjofhaaGreatDoorMc
import Derived.Test.YtehgpabfgjofhaaGreatDoorX37
import Derived.Test.YtehgpabfgjofhaaGreatDoorX45
set_option linter.unusedVariables false
set_option linter.unusedSimpArgs false
set_option maxRecDepth 100000
set_option maxHeartbeats 16000000
namespace Go.Proofs.YtehgpabfgjofhaaGreatDoor.Stats
open Go Go.Proofs.YtehgpabfgjofhaaGreatDoor Go.Proofs.YtehgpabfgjofhaaGreatDoor.Em Go.Proofs
def WL(f:Fld)(d:Dat):List (List Nat):=(List.range (Bv d).length).map fun j=>wts (Bz f j) ((Bv d).getD j Bf)
theorem C8(f:Fld)(d:Dat):(WL f d).length=(Bv d).length:=by simp[WL]
theorem LH(f:Fld)(d:Dat)(j:Nat)(h:j<(Bv d).length):(WL f d).getD j []=wts (Bz f j) ((Bv d).getD j Bf):=by
 unfold WL
 rw[lG,List.getElem?_map,List.getElem?_range h];rfl
theorem zBf{l:List Nat}{i:Nat}(h:i<l.length):l[i]?=some (l.getD i 0):=by
 rw[lG,lE h];rfl
theorem La:∀(fs:List Fld) (ds:List Dat),fs.length=ds.length->(Cv fs ds).length=fs.length
 |[],ds,_=>by unfold Cv;rfl
 |f::fs,[],h=>by simp at h
 |f::fs,d::ds,h=>by unfold Cv;simp[La fs ds (by simpa using h)]
theorem I8:∀(fs:List Fld) (ds:List Dat) (j:Nat),fs.length=ds.length->j<fs.length->(Cv fs ds)[j]?=some fun i=>BB (fs.getD j BQ) (ds.getD j Bf) ((ds.getD j Bf).ofs.toNat+i)
 |[],ds,j,_,h=>by simp at h
 |f::fs,[],j,h,_=>by simp at h
 |f::fs,d::ds,0,h,_=>by unfold Cv;rfl
 |f::fs,d::ds,j+1,h,hj=>by
  unfold Cv;simpa using I8 fs ds j (by simpa using h) (by simpa using hj)
theorem GX(f:Fld)(d:Dat)(r:Nat):BB f d r=Eb f.kind f.width f.idx d (Cv f.kids (d.parts f.kind)) r:=by
 cases f;simp only[BB];rfl
structure okP (f:Fld) (d:Dat):Prop where
 sub:SubF f
 okd:okA d
 siz:DD f d
 row:Ef f d
 par:∀j<(Bv d).length,BS (Bz f j) ((Bv d).getD j Bf)
 run:f.kind=20->DG d
theorem okP.sz{f:Fld}{d:Dat}(h:okP f d):szP f d:=szP.of h.okd h.siz
theorem IF{f:Fld}{d:Dat}(h:okA d)(j:Nat)(hj:j<(Bv d).length):okA ((Bv d).getD j Bf):=by
 have:=PJ h
 unfold Bv at hj ⊢
 split at hj
 ·rename_i e;rw[if_pos e];exact Jg this.1 j hj
 ·rename_i e;rw[if_neg e];exact Jg this.2.1 j hj
theorem Ii{f:Fld}{d:Dat}(hok:okA d)(h:BS f d):szP f d:=szP.of hok ((Iv f d).1 h).1
theorem Ps{f:Fld}{d:Dat}(h:BS f d):BA (wts f d)<=4194304:=((Iv f d).1 h).2.2.2.2.2
theorem okP.partL{f:Fld}{d:Dat}(h:okP f d)(j:Nat)(hj:j<(Bv d).length):0<=((Bv d).getD j Bf).len/\0<=((Bv d).getD j Bf).ofs/\((Bv d).getD j Bf).ofs+((Bv d).getD j Bf).len<=4096/\((WL f d).getD j []).length=((Bv d).getD j Bf).len.toNat:=by
 obtain⟨a1,a2,a3⟩:=(Ii (IF (f:=f) h.okd j hj) (h.par j hj)).len
 exact⟨a1,a2,a3,by rw[LH _ _ _ hj,JX]⟩
theorem okP.parts{f:Fld}{d:Dat}(h:okP f d):(f.kind≠20->d.parts f.kind=Bv d)/\(f.kind=20->d.parts f.kind=(Bv d).drop 1):=by
 have:=Sw h.sub h.sz
 exact⟨fun e=>by rw[this,if_neg e],fun e=>by rw[this,if_pos e]⟩
theorem okP.num{f:Fld}{d:Dat}(h:okP f d):(f.kind≠20->(Bv d).length=f.kids.length)/\(f.kind=20->(Bv d).length=2/\f.kids.length=1):=by
 have:=Ik h.sub h.sz
 refine⟨fun e=>by rw[this,if_neg e],fun e=>⟨by rw[this,if_pos e],?_⟩⟩
 have hfit:=h.sub.fits
 unfold Cl at hfit
 rw[e]at hfit;simp at hfit;omega
theorem okP.kids{f:Fld}{d:Dat}(h:okP f d)(e:f.kind≠19):Bv d=d.kids:=by
 have h2:=h.sz.nd
 unfold DZ at h2
 rw[if_neg e]at h2
 unfold Bv
 rw[if_neg (by omega)]
theorem okP.dict{f:Fld}{d:Dat}(h:okP f d)(e:f.kind=19):Bv d=d.dict:=by
 have h2:=h.sz.nd
 unfold DZ at h2
 rw[if_pos e]at h2
 unfold Bv
 rw[if_pos (by omega)]
theorem okP.wpart{f:Fld}{d:Dat}(h:okP f d)(e:f.kind≠20)(j i:Nat)(hj:j<f.kids.length)(hi:(i:Int)<((Bv d).getD j Bf).len)(dfl:Nat->Val×Nat) :
  (((Cv f.kids (d.parts f.kind)).getD j dfl) i).2=((WL f d).getD j []).getD i 0:=by
 have hn:=h.num.1 e
 have hp:=h.parts.1 e
 rw[LH _ _ _ (by omega),Pu _ _ _ (by omega),lG,hp,I8 _ _ _ hn.symm hj]
 unfold Bz
 rw[if_neg e];rfl
theorem okP.wpart20{f:Fld}{d:Dat}(h:okP f d)(e:f.kind=20)(i:Nat)(hi:(i:Int)<((Bv d).getD 1 Bf).len)(dfl:Nat->Val×Nat) :
  (((Cv f.kids (d.parts f.kind)).getD 0 dfl) i).2=((WL f d).getD 1 []).getD i 0:=by
 obtain⟨hn,hk⟩:=h.num.2 e
 have hp:=h.parts.2 e
 rw[LH _ _ _ (by omega),Pu _ _ _ (by omega),lG,hp,I8 _ _ _ (by rw[lD];omega) (by omega)]
 unfold Bz
 rw[if_pos e,if_neg (by omega)]
 have:((Bv d).drop 1).getD 0 Bf=(Bv d).getD 1 Bf:=by
  rw[lG,List.getElem?_drop,lG]
 rw[this];rfl
theorem U1{d:Dat}{T:Int}{n:Nat}(h:offP d T n):∀i<n,0<=C3 d (i+1)/\C3 d (i+1)<=T:=fun i hi=>by
 refine⟨?_,(h i hi).2⟩
 induction i with
 |zero=>have:=(h 0 hi).1;exact this
 |succ i ih=>have:=(h (i+1) hi).1;have:=ih (by omega);omega
theorem okP.offs{f:Fld}{d:Dat}(h:okP f d)(hk:f.kind=12\/f.kind=13\/f.kind=15)(i:Nat)(hi:i<d.len.toNat) :
  0<=Bt d (d.ofs.toNat+i)/\Bt d (d.ofs.toNat+i)<=Bt d (d.ofs.toNat+i+1)/\Bt d (d.ofs.toNat+i+1)<=Ee f.kind d:=by
 have hr:=(h.row.1 hk).1
 have a:=U1 hr i (by omega)
 have b:=(hr (i+1) (by omega)).1
 have c:=U1 hr (i+1) (by omega)
 exact⟨a.1,b,c.2⟩
theorem okP.wpre{f:Fld}{d:Dat}(h:okP f d):wPre f d (WL f d):=by
 have hz:=h.sz
 have hfit:=h.sub.fits
 unfold Cl at hfit
 have hmem:∀l∈WL f d,∃j,j<(Bv d).length/\l=wts (Bz f j) ((Bv d).getD j Bf):=fun l hl=>by
  unfold WL at hl;obtain⟨j,hj,rfl⟩:=List.mem_map.1 hl;exact⟨j,List.mem_range.1 hj,rfl⟩
 refine⟨h.sub,hz.len,hz.nul,fun l hl=>?_,?_,fun hk=>?_,fun hk i hi=>?_,fun hk=>?_,fun hk l hl=>?_,fun hk=>?_,fun hk i hi=>?_,fun hk=>?_,fun hk=>?_⟩
 ·obtain⟨j,hj,rfl⟩:=hmem l hl
  have:=h.partL j hj;exact⟨Ps (h.par j hj),by rw[JX];omega⟩
 ·rw[C8]
  by_cases e:f.kind=20
  ·have:=(h.num.2 e).1;omega
  ·rw[h.num.1 e]
   exact Pe h.sub.fits
 ·by_cases e:f.kind=18
  ·have:=hz.b18 e
   exact⟨by omega,(hz.big 1 (by omega)).1,(hz.big 1 (by omega)).2,this.2.2,fun e'=>absurd e e'⟩
  ·have:=hz.b1 (by omega)
   exact⟨this.1,(hz.big 1 (by omega)).1,(hz.big 1 (by omega)).2,by omega,fun _=>this.2⟩
 ·obtain⟨a,b,c⟩:=h.offs hk i hi
  refine⟨a,b,?_,fun e=>?_⟩
  ·unfold Ee at c
   split at c
   ·rename_i e
    have hn:=h.num.1 (by omega)
    have hk1:f.kids.length=1:=by rw[e]at hfit;simp at hfit;omega
    have hp:=h.partL 0 (by omega)
    rw[h.kids (by omega)]at hp
    omega
   ·by_cases h2:2<d.bufs.length
    ·have:=(hz.big 2 h2).1;omega
    ·unfold Dat.buf at c;rw[lG,List.getElem?_eq_none (by omega)]at c;simp at c;omega
  ·have hn:=h.num.1 (by omega)
   have hk1:f.kids.length=1:=by rw[e]at hfit;simp at hfit;omega
   have hp:=h.partL 0 (by omega)
   rw[h.kids (by omega)]at hp
   unfold Ee at c;rw[if_pos e]at c;rw[C8,h.kids (by omega)]
   rw[h.kids (by omega)]at hn
   omega
 ·have hn:=h.num.1 (by omega)
  have hk1:f.kids.length=1:=by rw[hk]at hfit;simp at hfit;omega
  have hp:=h.partL 0 (by omega)
  rw[h.kids (by omega)]at hp hn
  have:=(hz.kid 0 (by omega)).1 hk
  rw[C8,h.kids (by omega)]
  omega
 ·obtain⟨j,hj,rfl⟩:=hmem l hl
  have hp:=h.partL j hj;rw[h.kids (by omega)]at hp hj
  have:=(hz.kid j hj).2 hk;rw[JX,h.kids (by omega)]
  omega
 ·have:=hz.b18 hk
  exact⟨(hz.big 0 (by omega)).1,(hz.big 0 (by omega)).2,this.2.1⟩
 ·obtain⟨a,b,c⟩:=h.row.2.1 hk i hi
  have hp:=h.partL _ (show (d.buf 0).getD (d.ofs.toNat+i) 0<(Bv d).length by rw[h.kids (by omega)];exact a)
  rw[h.kids (by omega)]at hp
  rw[C8,h.kids (by omega)]
  exact⟨a,b,by omega⟩
 ·have hb:=hz.b19 hk
  have hn:=h.num.1 (by omega)
  have hp:=h.partL 0 (by rw[h.dict hk];omega)
  rw[h.dict hk]at hp hn;have hok:=Vb (Jg (PJ h.okd).1 0 (by omega))
  refine⟨hb.1,hb.2.1,(hz.big 1 (by omega)).1,(hz.big 1 (by omega)).2,hb.2.2,hok,by rw[C8,h.dict hk];omega,fun i hi=>?_⟩
  rcases h.row.2.2 hk i hi with h1|h1
  ·exact .inl h1
  ·refine .inr ⟨h1,?_⟩
   unfold CP at h1 ⊢;split at h1
   ·omega
   ·rename_i h2
    rw[if_neg h2];omega
 ·obtain⟨hn,hk1⟩:=h.num.2 hk
  have he:=h.run hk;obtain⟨e1,e2,e3⟩:=he;have hp:=h.partL 1 (by omega)
  have hv0:=h.par 0 (by omega)
  have hok0:=IF (f:=f) h.okd 0 (by omega)
  rw[h.kids (by omega)]at hp hn hv0 hok0
  have hz0:szP Cz (d.kids.getD 0 Bf):=Ii hok0 (by unfold Bz at hv0;rw[if_pos hk,if_pos rfl]at hv0;exact hv0)
  have hb0:(d.kids.getD 0 Bf).bufs.length=2:=by
   have h5:((d.kids.getD 0 Bf).bufs.length:Int)=Cc 5:=hz0.nb;rw[show Cc 5=2 by unfold Cc;simp]at h5;omega
  have hnd:=hz0.need 1 (by omega)
  have hwd:4*((d.kids.getD 0 Bf).ofs+(d.kids.getD 0 Bf).len)<=((d.kids.getD 0 Bf).buf 1).length:=by
   have h6:∀n m:Int,CS Cz ((1:Nat):Int) n m=n*4:=fun n m=>by unfold CS wid D4;simp[Cz,Fld.kind]
   rw[h6]at hnd;omega
  refine⟨by rw[C8,h.kids (by omega)];exact hn,hn,⟨hz0.len,hb0,(hz0.big 1 (by omega)).1,(hz0.big 1 (by omega)).2,hwd⟩,?_,e3⟩
  rw[e1];omega
theorem okP.k1{f:Fld}{d:Dat}(h:okP f d)(hk:f.kind=15\/f.kind=16\/f.kind=19):f.kids.length=1:=by
 have e:=h.sub.fits
 unfold Cl at e
 obtain⟨-, -,e⟩:=e
 rcases hk with hk|hk|hk<;>rw[hk]at e<;>simp at e<;>omega
theorem okP.seg{f:Fld}{d:Dat}(h:okP f d)(e:f.kind≠20)(p q:Nat)(hk0:0<f.kids.length)(hq:(q:Int)<=((Bv d).getD 0 Bf).len) :
  Ed ((WL f d).getD 0 []) p q=BA ((Dp ((Cv f.kids (d.parts f.kind)).getD 0 fun _=>(Bw,16)) p q).map (·.2)):=by
 unfold Ed Dp
 congr 1
 have hl:=(h.partL 0 (by have:=h.num.1 e;omega)).2.2.2
 apply List.ext_getElem?
 intro j
 rw[List.map_map,List.getElem?_map,List.getElem?_take]
 by_cases hj:j<q-p
 ·rw[if_pos hj,List.getElem?_range hj,List.getElem?_drop]
  have:=h.wpart e 0 (p+j) hk0 (by omega) (fun _=>(Bw,16))
  simp only[Option.map_some,Function.comp_apply,this];exact zBf (by omega)
 ·rw[if_neg hj,List.getElem?_eq_none (by simp;omega)];rfl
theorem okP.seg16{f:Fld}{d:Dat}(h:okP f d)(hk:f.kind=16)(i:Nat)(hi:i<d.len.toNat):(((d.ofs.toNat+i+1)*f.width.toNat:Nat):Int)<=((Bv d).getD 0 Bf).len:=by
 have hw:=h.wpre
 have hk1:=h.k1 (by omega)
 have hsp:=(hw.spn hk).2
 have hl:=(h.partL 0 (by have:=h.num.1 (by omega);omega)).2.2.2
 have hwf:=hw.fit.2.1 hk
 have hlen:=hw.len
 unfold Cn at hlen
 have hl0:=(h.partL 0 (by have:=h.num.1 (by omega);omega)).1
 have m0:0<=(d.ofs+d.len)*f.width:=Int.mul_nonneg (by omega) (by omega)
 have m1:(d.ofs.toNat+i+1)*f.width.toNat<=(d.ofs.toNat+d.len.toNat)*f.width.toNat:=Nat.mul_le_mul_right _ (by omega)
 have m2:((d.ofs.toNat+d.len.toNat)*f.width.toNat:Nat)=((d.ofs+d.len)*f.width).toNat:=by
  rw[Int.toNat_mul (by omega) (by omega)]
  congr 1;omega
 omega
theorem okP.str{f:Fld}{d:Dat}(h:okP f d)(hk:f.kind=17)(i:Nat)(hi:i<d.len.toNat) :
  ((WL f d).map fun l=>l.getD (d.ofs.toNat+i) 0)=((Cv f.kids (d.parts f.kind)).map fun g=>g (d.ofs.toNat+i)).map (·.2):=by
 have hw:=h.wpre
 have hn:=h.num.1 (by omega)
 have hp:=h.parts.1 (by omega)
 have hlen:=hw.len
 unfold Cn at hlen
 have e1:(WL f d).length=f.kids.length:=by rw[C8,hn]
 have e2:(Cv f.kids (d.parts f.kind)).length=f.kids.length:=La _ _ (by rw[hp];exact hn.symm)
 apply List.ext_getElem (by simp[e1,e2])
 intro j h1 h2
 simp only[List.length_map,e1]at h1
 simp only[List.getElem_map]
 have hlj:=h.partL j (by omega)
 have hst:=hw.str hk ((WL f d).getD j []) (by
  rw[lG,lE (by omega)];exact List.getElem_mem _)
 have:=h.wpart (by omega) j (d.ofs.toNat+i) h1 (by omega) (fun _=>(Bw,16))
 rw[lG,lE (by omega),lG (l:=WL f d),lE (by omega)]at this
 exact this.symm
theorem okP.uni{f:Fld}{d:Dat}(h:okP f d)(hk:f.kind=18)(i:Nat)(hi:i<d.len.toNat)(dfl:Nat->Val×Nat) :
  (((Cv f.kids (d.parts f.kind)).getD ((d.buf 0).getD (d.ofs.toNat+i) 0) dfl) (Bt d (d.ofs.toNat+i)).toNat).2=((WL f d).getD ((d.buf 0).getD (d.ofs.toNat+i) 0) []).getD (Bt d (d.ofs.toNat+i)).toNat 0:=by
 obtain⟨a,b,c⟩:=h.wpre.una hk i hi
 rw[C8]at a
 have hn:=h.num.1 (by omega)
 have hl:=(h.partL _ a).2.2.2
 exact h.wpart (by omega) _ _ (by omega) (by omega) _
theorem okP.dic{f:Fld}{d:Dat}(h:okP f d)(hk:f.kind=19)(i:Nat)(hi:i<d.len.toNat)(hnull:¬BJ f.kind d (d.ofs.toNat+i)=true)(dfl:Nat->Val×Nat) :
  0<=CP f.idx d (d.ofs.toNat+i)/\(CP f.idx d (d.ofs.toNat+i)).toNat=BW (d.buf 1) ((d.ofs.toNat+i)*Bk f.idx) (Bk f.idx)/\CP f.idx d (d.ofs.toNat+i)<((Bv d).getD 0 Bf).len/\
  (((Cv f.kids (d.parts f.kind)).getD 0 dfl) (BW (d.buf 1) ((d.ofs.toNat+i)*Bk f.idx) (Bk f.idx))).2=((WL f d).getD 0 []).getD (CP f.idx d (d.ofs.toNat+i)).toNat 0:=by
 obtain⟨b1,b2,b3,b4,b5,b6,b7,b8⟩:=h.wpre.dic hk
 rw[C8]at b7
 have hn:=h.num.1 (by omega)
 have hl:=(h.partL 0 b7).2.2.2
 rcases b8 i hi with h8|⟨h8,h9⟩
 ·rw[<-hk]at h8;exact absurd h8 hnull
 ·have e:(CP f.idx d (d.ofs.toNat+i)).toNat=BW (d.buf 1) ((d.ofs.toNat+i)*Bk f.idx) (Bk f.idx):=by
   unfold CP at h8 ⊢;split at h8
   ·omega
   ·rename_i h2;rw[if_neg h2];omega
  refine⟨h8,e,by omega,?_⟩
  rw[<-e];exact h.wpart (by omega) 0 _ (by omega) (by omega) _
theorem okP.runs{f:Fld}{d:Dat}(h:okP f d)(hk:f.kind=20)(i:Nat)(hi:i<d.len.toNat) :
  ∃y,y<(d.kids.getD 0 Bf).len.toNat/\((d.ofs.toNat+i:Nat):Int)<CB (d.kids.getD 0 Bf) y/\(∀j<y,CB (d.kids.getD 0 Bf) j<=(d.ofs.toNat+i:Nat))/\GF d (d.ofs.toNat+i)=y/\(y:Int)<((Bv d).getD 1 Bf).len:=by
 obtain⟨r1,r2,r3,r4,r5⟩:=h.wpre.run hk
 have hlen:=h.wpre.len
 unfold Cn at hlen
 have hn:=(h.num.2 hk).1
 have hl:=h.partL 1 (by omega)
 obtain⟨q1,q2,q3⟩:=r3.1
 have hlast:∃y,y<(d.kids.getD 0 Bf).len.toNat/\((d.ofs.toNat+i:Nat):Int)<CB (d.kids.getD 0 Bf) y/\∀j<y,CB (d.kids.getD 0 Bf) j<=(d.ofs.toNat+i:Nat):=by
  cases hf:(List.range (d.kids.getD 0 Bf).len.toNat).find? fun y=>decide (((d.ofs.toNat+i:Nat):Int)<CB (d.kids.getD 0 Bf) y)with
  |some y=>
   obtain⟨f1,f2,f3⟩:=List.find?_range_eq_some.1 hf
   exact⟨y,List.mem_range.1 f2,of_decide_eq_true f1,fun j hj=>by
    have:=f3 j hj;simp only[Bool.not_eq_true',decide_eq_false_iff_not]at this;omega⟩
  |none=>
   exfalso;have hall:=List.find?_eq_none.1 hf;generalize hm:(d.kids.getD 0 Bf).len.toNat=m at *
   match m with
   |0=>simp only[DV]at r5;omega
   |m+1=>
    have:=hall m (List.mem_range.2 (by omega))
    simp only[DV]at r5;simp only[decide_eq_true_eq]at this;omega
 obtain⟨y,y1,y2,y3⟩:=hlast
 exact⟨y,y1,y2,y3,UX d _ y y1 y2 y3,by omega⟩
theorem okP.wt{f:Fld}{d:Dat}(h:okP f d)(i:Nat)(hi:i<d.len.toNat):wtW f d (WL f d) (d.ofs.toNat+i)=(BB f d (d.ofs.toNat+i)).2:=by
 have hk:1<=f.kind/\f.kind<=20:=by have e:=h.sub.fits;unfold Cl at e;exact⟨e.1,e.2.1⟩
 rw[GX]
 unfold Eb
 by_cases hnull:BJ f.kind d (d.ofs.toNat+i)=true
 ·rw[if_pos hnull];unfold wtW;rw[if_pos hnull]
 rw[if_neg hnull]
 have w:=Hid.mk (R6 f d (WL f d) _ hnull)
 by_cases c2:f.kind=2
 ·rw[if_pos c2,w.out.2.2.2.2.2.2.2.2 (by omega) (by omega) (by omega) (by omega) (by omega) (by omega) (by omega) (by omega) (by omega)]
 rw[if_neg c2]
 by_cases c11:f.kind<=11
 ·rw[if_pos c11,w.out.2.2.2.2.2.2.2.2 (by omega) (by omega) (by omega) (by omega) (by omega) (by omega) (by omega) (by omega) (by omega)]
 rw[if_neg c11]
 by_cases c13:f.kind<=13
 ·rw[if_pos c13,w.out.2.1 (by omega)]
 rw[if_neg c13]
 by_cases c14:f.kind=14
 ·rw[if_pos c14,w.out.1 c14]
 rw[if_neg c14]
 by_cases c15:f.kind=15
 ·rw[if_pos c15,w.out.2.2.1 c15]
  have hk1:=h.k1 (by omega)
  obtain⟨a,b,c⟩:=h.offs (by omega) i hi
  unfold Ee at c;rw[if_pos c15,<-h.kids (by omega)]at c
  dsimp only
  rw[h.seg (by omega) _ _ (by omega) (by omega)]
 rw[if_neg c15]
 by_cases c16:f.kind=16
 ·rw[if_pos c16,w.out.2.2.2.1 c16]
  have hk1:=h.k1 (by omega)
  dsimp only
  rw[h.seg (by omega) _ _ (by omega) (h.seg16 c16 i hi)]
 rw[if_neg c16]
 by_cases c17:f.kind=17
 ·rw[if_pos c17,w.out.2.2.2.2.1 c17,h.str c17 i hi]
 rw[if_neg c17]
 by_cases c18:f.kind=18
 ·rw[if_pos c18,w.out.2.2.2.2.2.1 c18]
  dsimp only
  rw[h.uni c18 i hi]
 rw[if_neg c18]
 by_cases c19:f.kind=19
 ·rw[if_pos c19,w.out.2.2.2.2.2.2.1 c19,(h.dic c19 i hi hnull _).2.2.2]
 ·rw[if_neg c19]
  have c20:f.kind=20:=by omega
  obtain⟨y,y1,y2,y3,y4,y5⟩:=h.runs c20 i hi;rw[w.out.2.2.2.2.2.2.2.1 c20,y4,h.wpart20 c20 y y5 _]
mutual
def Ct:Fld->Nat
 | .mk _ _ _ _ _ _ kids=>Ek kids+1
def Ek:List Fld->Nat
 |[]=>0
 |f::l=>max (Ct f) (Ek l)
end
theorem Lk:∀(l:List Fld) (j:Nat),j<l.length->Ct (l.getD j BQ)<=Ek l
 |[],j,h=>by simp at h
 |f::l,0,_=>by unfold Ek;exact Nat.le_max_left _ _
 |f::l,j+1,h=>by
  unfold Ek;have:=Lk l j (by simpa using h)
  exact Nat.le_trans this (Nat.le_max_right _ _)
theorem G0(f:Fld):Ct f=Ek f.kids+1:=by cases f;simp only[Ct];rfl
mutual
theorem V8:∀(f:Fld) (path:List Nat) (ahead:List Fld) (inD:Bool),(∀p∈Cq path ahead inD f,p.path.length<=64)->path.length+Ct f<=64
 | .mk nm nul k w i x kids,path,ahead,inD,h=>by
  unfold Cq at h;have h0:=h _ (List.mem_cons_self ..);simp at h0;rw[if_pos (by omega)]at h
  have:=Wq kids (path++[ahead.length]) [] (inD||decide (k=19)) fun p hp=>h p (List.mem_cons_of_mem _ hp)
  unfold Ct;rcases this with rfl|this
  ·unfold Ek;omega
  ·simp at this;omega
theorem Wq:∀(l:List Fld) (path:List Nat) (ahead:List Fld) (inD:Bool),(∀p∈BM path ahead inD l,p.path.length<=64)->l=[]\/path.length+Ek l<=64
 |[],_,_,_,_=>.inl rfl
 |f::l,path,ahead,inD,h=>by
  unfold BM at h;have h1:=V8 f path ahead inD fun p hp=>h p (List.mem_append_left _ hp)
  have h2:=Wq l path (ahead++[f]) inD fun p hp=>h p (List.mem_append_right _ hp)
  right
  unfold Ek;rcases h2 with rfl|h2
  ·unfold Ek;omega
  ·omega
end
theorem SubF.dep{f:Fld}(h:SubF f):Ct f<=64:=by
 have h1:=h.2.2.2.2
 rw[Wf]at h1
 have h2:∀p∈BM [] [] false [DC f],p.path.length<=64:=fun p hp=>by
  obtain⟨k,hk,rfl⟩:=List.getElem_of_mem hp;exact(h1 k hk).2.1
 unfold BM at h2
 have:=V8 (DC f) [] [] false fun p hp=>h2 p (List.mem_append_left _ hp)
 have e:Ct (DC f)=Ct f:=by rw[G0,G0];cases f;rfl
 simp at this
 omega
theorem zBF:SubF Cz:=by
 refine⟨by unfold Cz okF Gg BH;decide,?_⟩
 refine⟨by simp,by simp,by simp,?_⟩
 show Ce [] (BM [] [] false [DC Cz])
 simp only[DC,Cz,Fld.kind,Fld.width,Fld.id,Fld.idx,Fld.kids,BM,Cq,List.append_nil,lN,Ce]
 have e1:Cl 5 0 0 0 ([]:List Fld).length:=by unfold Cl;simp
 have e2:I5 false 5 []:=by unfold I5;simp
 have e3:okN [] ⟨[0],[],Fld.mk ⟨#[97]⟩ false 5 0 0 0 [],false⟩:=⟨by simp,Wx,by simp,e1,e2,by simp,fun h=>absurd h.1 (by simp[Fld.kind])⟩
 simp only[Int.reduceEq,decide_false,Bool.false_and,Bool.or_self,List.length_nil]
 exact⟨by decide,e3,by simp[Ce]⟩
theorem zCt:Cu Cz:=by unfold Cz Cu Ey;simp
theorem Ks{f:Fld}(h:SubF f)(hsm:Cu f)(j:Nat)(h1:f.kind=20->j<=1)(h2:f.kind≠20->j<f.kids.length)(h3:f.kind=20->f.kids.length=1) :
  SubF (Bz f j)/\Cu (Bz f j)/\Ct (Bz f j)+1<=Ct f/\(Bz f j=Cz\/∃c∈f.kids,Bz f j=c):=by
 unfold Bz
 rw[G0 f]
 have hk:∀j<f.kids.length,f.kids.getD j BQ∈f.kids:=fun j hj=>Rn hj
 split
 ·rename_i e
  split
  ·refine⟨zBF,zCt,?_,.inl rfl⟩
   have:=Lk f.kids 0 (by have:=h3 e;omega)
   have e2:Ct Cz=1:=by unfold Cz Ct Ek;rfl
   rw[G0]at this;omega
  ·have:=h3 e
   exact⟨h.kid (hk 0 (by omega)),Jv (EY hsm).1 (hk 0 (by omega)),by have:=Lk f.kids 0 (by omega);omega,.inr ⟨_,hk 0 (by omega),rfl⟩⟩
 ·rename_i e
  have:=h2 e;exact⟨h.kid (hk j this),Jv (EY hsm).1 (hk j this),by have:=Lk f.kids j this;omega,.inr ⟨_,hk j this,rfl⟩⟩
theorem YZ(l:List Nat)(b:Nat)(h:∀x∈l,x<=b):BA l<=l.length*b:=by
 unfold BA
 induction l with
 |nil=>simp
 |cons a l ih=>
  have h1:=h a (by simp)
  have h2:=ih fun x hx=>h x (by simp[hx])
  simp only[List.foldr_cons,List.length_cons,Nat.add_mul];omega
theorem wPre.seg{f:Fld}{d:Dat}{W:List (List Nat)}(h:wPre f d W)(p q:Nat):Ed (W.getD 0 []) p q<=4194304:=by
 unfold Ed
 have a1:=JI ((W.getD 0 []).drop p) (q-p)
 have a2:=Sk (W.getD 0 []) p
 have a3:BA (W.getD 0 [])<=4194304:=by
  by_cases h0:0<W.length
  ·exact(h.all _ (by rw[lG,lE h0];exact List.getElem_mem _)).1
  ·rw[lG,List.getElem?_eq_none (by omega)];simp[BA]
 omega
theorem wPre.le2{f:Fld}{d:Dat}{W:List (List Nat)}(h:wPre f d W)(i:Nat)(hi:i<d.len.toNat):wtW f d W (d.ofs.toNat+i)<=300000000:=by
 by_cases hn:BJ f.kind d (d.ofs.toNat+i)=true
 ·unfold wtW;rw[if_pos hn];decide
 have w:=Hid.mk (R6 f d W _ hn)
 by_cases c14:f.kind=14
 ·rw[w.out.1 c14];have:=h.fit.1 c14;omega
 by_cases c12:f.kind=12\/f.kind=13
 ·rw[w.out.2.1 c12];have:=h.off (by omega) i hi;omega
 by_cases c15:f.kind=15
 ·rw[w.out.2.2.1 c15];have:=h.seg (Bt d (d.ofs.toNat+i)).toNat (Bt d (d.ofs.toNat+i+1)).toNat;omega
 by_cases c16:f.kind=16
 ·rw[w.out.2.2.2.1 c16];have:=h.seg ((d.ofs.toNat+i)*f.width.toNat) ((d.ofs.toNat+i+1)*f.width.toNat);omega
 by_cases c17:f.kind=17
 ·rw[w.out.2.2.2.2.1 c17]
  have h1:=YZ (W.map fun l=>l.getD (d.ofs.toNat+i) 0) 4194304 fun x hx=>by
   obtain⟨l,hl,rfl⟩:=List.mem_map.1 hx;have:=(h.all l hl).1;have:=NI l (d.ofs.toNat+i);omega
  have h2:=h.num;rw[List.length_map]at h1;have h3:W.length*4194304<=32*4194304:=Nat.mul_le_mul_right _ h2;omega
 by_cases c18:f.kind=18
 ·rw[w.out.2.2.2.2.2.1 c18];have:=h.le ((d.buf 0).getD (d.ofs.toNat+i) 0) (Bt d (d.ofs.toNat+i)).toNat;omega
 by_cases c19:f.kind=19
 ·rw[w.out.2.2.2.2.2.2.1 c19];have:=h.le 0 (CP f.idx d (d.ofs.toNat+i)).toNat;omega
 by_cases c20:f.kind=20
 ·rw[w.out.2.2.2.2.2.2.2.1 c20];have:=h.le 1 (GF d (d.ofs.toNat+i));omega
 ·rw[w.out.2.2.2.2.2.2.2.2 c14 (by omega) (by omega) c15 c16 c17 c18 c19 c20];decide
theorem Z6{f:Fld}{d:Dat}(hs:SubF f)(okd:okA d)(hz:szP f d)(hk:f.kind=20)(par:BS (Bz f 0) ((Bv d).getD 0 Bf)):d.kids.length=2/\JN (d.kids.getD 0 Bf):=by
 have hn:=Ik hs hz
 rw[if_pos hk]at hn
 have hkd:Bv d=d.kids:=by
  have h2:=hz.nd;unfold DZ at h2;rw[if_neg (by omega)]at h2
  unfold Bv;rw[if_neg (by omega)]
 have hok0:=IF (f:=f) okd 0 (by omega)
 rw[hkd]at hn par hok0
 have hz0:szP Cz (d.kids.getD 0 Bf):=Ii hok0 (by unfold Bz at par;rw[if_pos hk,if_pos rfl]at par;exact par)
 have hb0:(d.kids.getD 0 Bf).bufs.length=2:=by
  have h5:((d.kids.getD 0 Bf).bufs.length:Int)=Cc 5:=hz0.nb;rw[show Cc 5=2 by unfold Cc;simp]at h5;omega
 have hnd:=hz0.need 1 (by omega)
 have hwd:4*((d.kids.getD 0 Bf).ofs+(d.kids.getD 0 Bf).len)<=((d.kids.getD 0 Bf).buf 1).length:=by
  have h6:∀n m:Int,CS Cz ((1:Nat):Int) n m=n*4:=fun n m=>by unfold CS wid D4;simp[Cz,Fld.kind]
  rw[h6]at hnd;omega
 exact⟨hn,hz0.len,hb0,(hz0.big 1 (by omega)).1,(hz0.big 1 (by omega)).2,hwd⟩
theorem okP.wts_eq{f:Fld}{d:Dat}(h:okP f d):((List.range d.len.toNat).map fun j=>wtW f d (WL f d) (d.ofs.toNat+j))=wts f d:=by
 rw[Go.Proofs.YtehgpabfgjofhaaGreatDoor.Stats.wts_eq]
 exact List.map_congr_left fun j hj=>h.wt j (List.mem_range.1 hj)
theorem okP.wts_le{f:Fld}{d:Dat}(h:okP f d)(j:Nat):(wts f d).getD j 0<=300000000:=by
 by_cases hj:j<d.len.toNat
 ·have:=h.wpre.le2 j hj
  rw[h.wt j hj]at this;rw[Pu f d j hj];exact this
 ·rw[lG,List.getElem?_eq_none (by rw[JX];omega)];simp
def CKv(f:Fld)(d:Dat)(v:EV):Prop:=
 (∃(e a:Int) (pc:List EV),e≠0/\v = .tup [.agg [.lit (.int .i64 e),.isl pc.length none pc,.lit (.int .i64 a)],.isl 0 none []]/\pc.length<=Ct f/\clL pc=true/\¬BS f d)\/
 (v = .tup [.agg [.lit (.int .i64 0),.isl 0 none [],.lit (.int .i64 0)],DA (wts f d)]/\BS f d)
def Tx(B:Nat)(h:EH)(pc:List EV):Prop:=
 (B=5/\∃a0 a1 a2 a3 a4,h=[a0,a1,a2,a3,a4,.blk pc])\/(B=6/\∃a0 a1 a2 a3 a4 a5,h=[a0,a1,a2,a3,a4,a5,.blk pc])\/(B=7/\∃a0 a1 a2 a3 a4 a5 a6,h=[a0,a1,a2,a3,a4,a5,a6,.blk pc])
theorem RN{x:EV}(hx:clE x=true){qc:List EV}{qn:Nat}(hq:qn=qc.length)(hc:clL qc=true) :
  stdA.add 1 qn=(stdA.setl [x] (stdA.add 0 (stdA.mul 1 1)) (stdA.tak (stdA.mul qn 1) qc)).length/\(stdA.setl [x] (stdA.add 0 (stdA.mul 1 1)) (stdA.tak (stdA.mul qn 1) qc)).length=1+qn/\clL (stdA.setl [x] (stdA.add 0 (stdA.mul 1 1)) (stdA.tak (stdA.mul qn 1) qc))=true:=by
 have e:stdA.setl [x] (stdA.add 0 (stdA.mul 1 1)) (stdA.tak (stdA.mul qn 1) qc)=x::qc:=by
  show stdA.setl [x] 1 (List.take (qn*1) qc)=_;rw[Gn,lT (l:=qc) (by omega),List.drop_eq_nil_of_le (by rw[List.length_singleton];omega),List.append_nil]
  rfl
 rw[e]
 refine⟨?_,by rw[List.length_cons];omega,Dj fun y hy=>?_⟩
 ·show 1+qn=_
  rw[List.length_cons];omega
 ·rcases List.mem_cons.1 hy with h|h
  ·rw[h];exact hx
  ·exact Et hc y h
theorem N5{x:EV}(hx:clE x=true){qc:List EV}{qn:Nat}(hq:qn=qc.length)(hc:clL qc=true) :
  stdA.add 1 qn=(stdA.app (stdA.tak (stdA.mul 1 1) (stdA.drp 0 [x])) (stdA.tak (stdA.mul qn 1) qc)).length/\(stdA.app (stdA.tak (stdA.mul 1 1) (stdA.drp 0 [x])) (stdA.tak (stdA.mul qn 1) qc)).length=1+qn/\clL (stdA.app (stdA.tak (stdA.mul 1 1) (stdA.drp 0 [x])) (stdA.tak (stdA.mul qn 1) qc))=true:=by
 have e:stdA.app (stdA.tak (stdA.mul 1 1) (stdA.drp 0 [x])) (stdA.tak (stdA.mul qn 1) qc)=x::qc:=by
  show List.take 1 [x]++List.take (qn*1) qc=_;rw[lT (l:=qc) (by omega)];rfl
 rw[e]
 refine⟨?_,by rw[List.length_cons];omega,Dj fun y hy=>?_⟩
 ·show 1+qn=_
  rw[List.length_cons];omega
 ·rcases List.mem_cons.1 hy with h|h
  ·rw[h];exact hx
  ·exact Et hc y h
def CKo(f:Fld)(d:Dat)(v:EV)(h:EH):Prop:=
 (∃(e a:Int) (pe:EV),e≠0/\v = .tup [.agg [.lit (.int .i64 e),pe,.lit (.int .i64 a)],.lit (.slice none 0 0)]/\pe = .isl 0 none []/\¬BS f d)\/
 (∃(e a:Int) (pc:List EV) (n B:Nat) (cp:Option Nat),e≠0/\v = .tup [.agg [.lit (.int .i64 e),.sl 1 B 0 n cp,.lit (.int .i64 a)],.lit (.slice none 0 0)]/\Tx B h pc/\n=pc.length/\pc.length<=Ct f/\clL pc=true/\¬BS f d)\/
 (v = .tup [.agg [.lit (.int .i64 0),.lit (.slice none 0 0),.lit (.int .i64 0)],DA (wts f d)]/\BS f d)
def zDU(f:Fld)(d:Dat):Prop:=DD f d->szP f d
theorem zEp (f : Fld) (d : Dat) (hs : SubF f) (hsm : Cu f) (hok : okA d)
    (ih0 : szP f d → ∀ j < (Bv d).length, ∀ h : EH, Tri Tryz.prog gs 45 [.agg (Bo (Bz f j)), .agg (Bs ((Bv d).getD j Bf))] h fun v h' => CKv (Bz f j) ((Bv d).getD j Bf) v ∧ h' = h) :
    Tri Tryz.prog gs 45 [.agg (Bo f), .agg (Bs d)] [] fun v h' => CKo f d v h' := by
  have hsz := zC1 f d hs hsm hok
  have hrw : Hid (DD f d → ∀ h : EH, Tri Tryz.prog gs 72 [.agg (Bo f), .agg (Bs d)] h fun v h' => IsF0 (Ef f d) v ∧ h' = h) := fun e => ZX f d hs hok (szP.of hok e)
  have hpa := Ug d
  have hn1 : Hid (¬ DD f d → ¬ BS f d) := fun h k => h ((Iv f d).1 k).1
  have hn2 : Hid (¬ Ef f d → ¬ BS f d) := fun h k => h ((Iv f d).1 k).2.1
  obtain ⟨SZ, hSZ⟩ : ∃ p, p = DD f d := ⟨_, rfl⟩
  obtain ⟨RW, hRW⟩ : ∃ p, p = Ef f d := ⟨_, rfl⟩
  rw [← hSZ] at hsz hrw hn1
  rw [← hRW] at hrw hn2
  have hC1 : Hid (∀ (e a : Int) h, e ≠ 0 → ¬ BS f d → CKo f d (.tup [.agg [.lit (.int .i64 e), .isl 0 none [], .lit (.int .i64 a)], .lit (.slice none 0 0)]) h) := fun e a h h1 h2 => .inl ⟨e, a, _, h1, rfl, rfl, h2⟩
  have hC2 : Hid (∀ (e a : Int) (pc : List EV) (n B : Nat) (cp : Option Nat) h, Tx B h pc → e ≠ 0 → ¬ BS f d → n = pc.length → pc.length ≤ Ct f → clL pc = true → CKo f d (.tup [.agg [.lit (.int .i64 e), .sl 1 B 0 n cp, .lit (.int .i64 a)], .lit (.slice none 0 0)]) h) := fun e a pc n B cp h h6 h1 h2 h3 h4 h5 => .inr (.inl ⟨e, a, pc, n, B, cp, h1, rfl, h6, h3, h4, h5, h2⟩)
  have hC3 : Hid (∀ h, BS f d → CKo f d (.tup [.agg [.lit (.int .i64 0), .lit (.slice none 0 0), .lit (.int .i64 0)], DA (wts f d)]) h) := fun h h1 => .inr (.inr ⟨rfl, h1⟩)
  have hvi : Hid (szP f d → ((DD f d ∧ Ef f d ∧ (∀ j < (Bv d).length, BS (Bz f j) ((Bv d).getD j Bf)) ∧ (f.kind = 20 → DG d) ∧ BA (wts f d) ≤ 4194304) ↔ BS f d)) := fun h => PM hs h
  have hnp : Hid (szP f d → (Bv d).length = if f.kind = 20 then 2 else f.kids.length) := fun h => Ik hs h
  have hfit1 : Hid (f.kind = 20 → f.kids.length = 1) := fun e => by have h := hs.fits; unfold Cl at h; rw [e] at h; simp at h; omega
  have hpf : Hid (szP f d → ∀ j, j < (Bv d).length → ∀ h : EH, Tri Tryz.prog gs 74 [.agg (Bo f), .lit (.int .i64 j)] h fun v h' => v = .agg (Bo (Bz f j)) ∧ h' = h) := fun hz j hj => by
    have e := hnp.out hz
    exact V4 f j (fun e2 => by rw [if_pos e2] at e; exact ⟨by omega, hfit1.out e2⟩) (fun e2 => by rw [if_neg e2] at e; omega)
  have hdp : Hid (szP f d → ∀ j, j < (Bv d).length → Ct (Bz f j) + 1 ≤ Ct f) := fun hz j hj => by
    have e := hnp.out hz
    exact (Ks hs hsm j (fun e2 => by rw [if_pos e2] at e; omega) (fun e2 => by rw [if_neg e2] at e; omega) hfit1.out).2.2.1
  have hnp20 : Hid (szP f d → f.kind = 20 → (Bv d).length = 2) := fun hz e => by rw [hnp.out hz, if_pos e]
  have hendc : Hid (szP f d → f.kind = 20 → BS (Bz f 0) ((Bv d).getD 0 Bf) → ∀ h : EH, Tri Tryz.prog gs 75 [.agg (Bs d)] h fun v h' => IsF0 (DG d) v ∧ h' = h) := fun hz e hv h => by
    have h2 := Z6 hs hok hz e hv
    exact zCx d hz.len h2.1 h2.2 h
  have hwtc : Hid (DD f d → Ef f d → (∀ j < (Bv d).length, BS (Bz f j) ((Bv d).getD j Bf)) → (f.kind = 20 → DG d) → ∀ h : EH, Tri Tryz.prog gs 76 [.agg (Bo f), .agg (Bs d), .isl (WL f d).length none (DH (WL f d))] h fun v h' => v = DA (wts f d) ∧ h' = h) := fun h1 h2 h3 h4 h => by
    have ho : okP f d := ⟨hs, hok, h1, h2, h3, h4⟩
    have := zAG f d (WL f d) ho.wpre h
    rw [ho.wts_eq] at this
    exact this
  have hwlc : Hid (DD f d → Ef f d → (∀ j < (Bv d).length, BS (Bz f j) ((Bv d).getD j Bf)) → (f.kind = 20 → DG d) → ∀ j, (wts f d).getD j 0 ≤ 300000000) := fun h1 h2 h3 h4 j =>
    okP.wts_le ⟨hs, hok, h1, h2, h3, h4⟩ j
  have hd64 := hs.dep
  have hpk := C5 (Bv d)
  have hok' : Hid (zDU f d) := fun e => szP.of hok e
  have hnpl : Hid (szP f d → (Bv d).length ≤ 32) := fun hz => by
    have e := hnp.out hz
    have := Pe hs.fits
    split at e <;> omega
  obtain ⟨np, hnpd⟩ : ∃ n, n = (Bv d).length := ⟨_, rfl⟩
  generalize hCK : CKo f d = CK at *
  rw [BF, BL] at *
  rw [← hnpd] at hpa hnpl hdp hpf hvi ih0 hnp hpk hnp20 hwtc hwlc
  replace hnpd := hnpd.symm
  generalize Bi (Bv d) = pc at *
  generalize d.len = len, d.ofs = ofs, d.nuls = nls, d.bufs.length = nb, d.kids.length = nk, Bx d.bufs = cb, Bi d.kids = ck, d.dict.length = nd, Bi d.dict = cd at *
  generalize Bl f.kids = kc, f.kids.length = kn, f.nm = nm, f.nul = nul, f.kind = k, f.width = w, f.id = i, f.idx = ix at *
  refine (Bj F45_ok fun I0 ρ0 w0 Q hρ hQ => ?_)
  obtain ⟨A, hA⟩ : ∃ A, A = stdA := ⟨_, rfl⟩
  with_reducible refine Be hA hd hQ 200 ?hk ?_
  case hk => trivial
  conv => arg 9; cbv
  try simp only [OK]
  repeat' first | (with_reducible refine OKK.loop ?_) | ((with_reducible refine ⟨fun hbr => ?_, fun hbr => ?_⟩) <;> (try simp (disch := omega) only [hA, Ba] at hbr) <;> (try (with_reducible exfalso; omega))) | ((with_reducible refine Bd hA hd hQ 200 ?hk ?_); (case hk => trivial); (conv => arg 9; cbv); (try simp only [OK])) | ((with_reducible refine cO ?hg ?_); (case hg => with_reducible exact Bb F71_ok); (refine tM (hsz _) fun v hh hx => ?_); (obtain ⟨⟨fe, fa, hv, hfe⟩, hh'⟩ := hx; subst hv; subst hh')) | ((with_reducible refine cO ?hg ?_); (case hg => with_reducible exact Bb F72_ok); (refine tM (hrw.out (hfe.1 (by omega)) _) fun v hh hx => ?_); (obtain ⟨⟨ge, ga, hv, hge⟩, hh'⟩ := hx; subst hv; subst hh')) | ((with_reducible refine cO ?hg ?_); (case hg => with_reducible exact Bb F73_ok); refine tM (hpa _) ?_; rintro _ _ ⟨rfl, rfl⟩)
  · exact fI_ rfl (hC1.out fe fa _ (by omega) (hn1.out fun h => by have := hfe.2 h; omega))
  · exact fI_ rfl (hC1.out ge ga _ (by omega) (hn2.out fun h => by have := hge.2 h; omega))
  have hSz := hfe.1 (by omega)
  have hRw := hge.1 (by omega)
  rw [hSZ] at hSz
  rw [hRW] at hRw
  have hz := hok'.out hSz
  have hnpl := hnpl.out hz
  have hpf := hpf.out hz
  have hdp := Hid.mk (hdp.out hz)
  have ih := ih0 hz
  clear ih0 hfe hge hn1 hn2 hsz hrw hSZ hRW hnp
  refine oK_ (msk 92 [2, 3, 4, 5, 8, 33, 34, 35]) (OKs.mv [0, 1, 2] [] (by rw [hρ]; rfl) ⟨by decide, by simp [Bc], by simp⟩ ?_)
  refine oL_ (fun m st => ∃ (z N : Int) (bn : Nat) (bc : List EV), ((bn = 0 ∧ st = ⟨mkT 92 [(2, .ptr 0 0), (3, .ptr 1 0), (4, .ptr 2 0), (5, .lit (.slice none 0 0)), (8, .lit (.slice none 0 0)), (33, .isl np none pc), (34, .lit (.int .i64 N)), (35, .lit (.int .i64 z))], [.blk [.lit (.string nm), .lit (.bool nul), .lit (.int .i64 k), .lit (.int .i64 w), .lit (.int .i64 i), .lit (.int .i64 ix), .isl kn none kc], .blk [.lit (.int .i64 len), .lit (.int .i64 ofs), .lit (.int .i64 nls), .isl nb none cb, .isl nk none ck, .isl nd none cd], .blk [.lit (.int .i64 0), .lit (.slice none 0 0), .lit (.int .i64 0)]]⟩) ∨
      st = ⟨mkT 92 [(2, .ptr 0 0), (3, .ptr 1 0), (4, .ptr 2 0), (5, .lit (.slice none 0 0)), (8, .sl 1 3 0 bn none), (33, .isl np none pc), (34, .lit (.int .i64 N)), (35, .lit (.int .i64 z))], [.blk [.lit (.string nm), .lit (.bool nul), .lit (.int .i64 k), .lit (.int .i64 w), .lit (.int .i64 i), .lit (.int .i64 ix), .isl kn none kc], .blk [.lit (.int .i64 len), .lit (.int .i64 ofs), .lit (.int .i64 nls), .isl nb none cb, .isl nk none ck, .isl nd none cd], .blk [.lit (.int .i64 0), .lit (.slice none 0 0), .lit (.int .i64 0)], .blk bc]⟩) ∧
      N = np ∧ m = (np - z).toNat ∧ 0 ≤ z ∧ z ≤ np ∧ bn = z.toNat ∧ bc = DH ((WL f d).take z.toNat) ∧ ∀ j < z.toNat, BS (Bz f j) ((Bv d).getD j Bf)) (fun m st hs' ih2 => ?_)
    ⟨0, _, 0, [], .inl ⟨rfl, rfl⟩, by rw [hA]; rfl, rfl, by omega, by omega, rfl, rfl, fun j hj => by simp at hj⟩
  obtain ⟨z, N, bn, bc, hst, hN, hm, hz1, hz2, hbn, hbc, hval⟩ := hs'
  have hbl : bc.length = bn := by rw [hbc, hbn]; unfold DH; rw [List.length_map, lK, C8, hnpd]; omega
  have hbcl : clL bc = true := by rw [hbc]; exact Dj fun x hx => by obtain ⟨l, _, rfl⟩ := List.mem_map.1 hx; rfl
  by_cases hzn : z < np
  case pos =>
    have hL := hpk z.toNat (by omega)
    have hc := ih z.toNat (by omega)
    have hf := hpf z.toNat (by omega)
    have hdz := hdp.out z.toNat (by omega)
    rw [show ((z.toNat : Nat) : Int) = z by omega] at hf
    have hWz : DH ((WL f d).take (z.toNat + 1)) = bc ++ [DA (wts (Bz f z.toNat) ((Bv d).getD z.toNat Bf))] := by
      rw [hbc]
      unfold DH
      rw [List.take_add_one, List.map_append, ← LH f d z.toNat (by omega), lG, lE (by rw [C8]; omega)]
      rfl
    have hvz : BS (Bz f z.toNat) ((Bv d).getD z.toNat Bf) → ∀ j < z.toNat + 1, BS (Bz f j) ((Bv d).getD j Bf) := fun hv j hj => by
      rcases Nat.lt_succ_iff_lt_or_eq.1 hj with h | h
      · exact hval j h
      · rw [h]; exact hv
    have hno : ¬ BS (Bz f z.toNat) ((Bv d).getD z.toNat Bf) → ¬ BS f d := fun h k => h (((hvi.out hz).2 k).2.2.1 z.toNat (by omega))
    unfold CKv at hc
    generalize Bz f z.toNat = g, (Bv d).getD z.toNat Bf = c at *
    obtain ⟨X, hX⟩ : ∃ X, X = Bo g := ⟨_, rfl⟩
    rw [← hX] at hf hc
    rw [BL c] at hL hc
    generalize c.len = clen, c.ofs = cofs, c.nuls = cnls, c.bufs.length = cnb, Bx c.bufs = ccb, c.kids.length = cnk, Bi c.kids = cck, c.dict.length = cnd, Bi c.dict = ccd at *
    rw [show z.toNat * 6 = A.idx 0 z 6 by rw [hA, B3]; omega] at hL
    unfold DA at hc hWz
    generalize BS g c = VG, (wts g c).length = wl, CN (wts g c) = wic, Ct g = dg at *
    rcases hst with ⟨h0, rfl⟩ | rfl
    all_goals
      with_reducible refine Be hA hd hQ 200 ?hk ?_
      case hk => trivial
      conv => arg 9; cbv
      try simp only [OK]
      repeat' first | (with_reducible refine And.intro trivial ?_) | ((with_reducible refine ⟨fun hbr => ?_, fun hbr => ?_⟩) <;> (try simp (disch := omega) only [hA, Ba] at hbr) <;> (try (with_reducible exfalso; omega))) | ((with_reducible refine Bd hA hd hQ 200 ?hk ?_); (case hk => trivial); (conv => arg 9; cbv); (try simp only [OK])) | ((with_reducible refine Bp ?hn ?_); (case hn => ((simp (disch := omega) only [hA, Ba]) <;> omega))) | ((refine ⟨_, _, ?l1, hL, rfl, ?_⟩); (case l1 => exact rfl)) | ((with_reducible refine cO ?hg ?_); (case hg => with_reducible exact Bb F74_ok); refine tM (hf _) ?_; rintro _ _ ⟨rfl, rfl⟩)
      refine cO (Bb F45_ok) (tM (hc _) fun v hh hx => ?_)
      obtain ⟨hx, hh'⟩ := hx
      subst hh'
      rcases hx with ⟨e, a, qc, he, hv, hq, hqc, hnv⟩ | ⟨hv, hvg⟩
      · obtain ⟨qn, hqn⟩ : ∃ n, n = qc.length := ⟨_, rfl⟩
        rw [← hqn] at hv hq
        subst hv
        with_reducible refine Bd hA hd hQ 1 ?hk ?_
        case hk => trivial
        conv => arg 9; cbv
        try simp only [OK]
        repeat' first | ((with_reducible refine ⟨fun hbr => ?_, fun hbr => ?_⟩) <;> (try simp (disch := omega) only [hA, Ba] at hbr) <;> (try (with_reducible exfalso; omega))) | ((with_reducible refine Bd hA hd hQ 200 ?hk ?_); (case hk => trivial); (conv => arg 9; cbv); (try simp only [OK])) | ((with_reducible refine Bp ?hn ?_); (case hn => ((simp (disch := omega) only [hA, Ba]) <;> omega)))
        · refine fI_ rfl (hC2.out e a _ _ _ _ _ (by first | exact .inl ⟨rfl, _, _, _, _, _, rfl⟩ | exact .inr (.inl ⟨rfl, _, _, _, _, _, _, rfl⟩)) he (hno hnv) ?_ ?_ ?_)
          · subst hA; exact (RN rfl hqn hqc).1
          · subst hA; exact Nat.le_trans (Nat.le_of_eq (RN rfl hqn hqc).2.1) (by omega)
          · subst hA; exact (RN rfl hqn hqc).2.2
        · refine fI_ rfl (hC2.out e a _ _ _ _ _ (by first | exact .inr (.inl ⟨rfl, _, _, _, _, _, _, rfl⟩) | exact .inr (.inr ⟨rfl, _, _, _, _, _, _, _, rfl⟩)) he (hno hnv) ?_ ?_ ?_)
          · subst hA; exact (N5 rfl hqn hqc).1
          · subst hA; exact Nat.le_trans (Nat.le_of_eq (N5 rfl hqn hqc).2.1) (by omega)
          · subst hA; exact (N5 rfl hqn hqc).2.2
      subst hv
      with_reducible refine Bd hA hd hQ 1 ?hk ?_
      case hk => trivial
      conv => arg 9; cbv
      try simp only [OK]
      repeat' first | (with_reducible refine OKK.again ?_) | ((with_reducible refine ⟨fun hbr => ?_, fun hbr => ?_⟩) <;> (try simp (disch := omega) only [hA, Ba, reduceCtorEq] at hbr) <;> (try (with_reducible exfalso; omega))) | ((with_reducible refine Bd hA hd hQ 200 ?hk ?_); (case hk => trivial); (conv => arg 9; cbv); (try simp only [OK])) | ((with_reducible refine Bp ?hn ?_); (case hn => ((simp (disch := omega) only [hA, Ba]) <;> omega)))
    · have hz1' : (A.ib .add .i64 z 1).toNat = z.toNat + 1 := by simp (disch := omega) only [hA, Ba]; omega
      have hb0 : bc = [] := List.length_eq_zero_iff.1 (by omega)
      refine oK_ (msk 92 [2, 3, 4, 5, 8, 33, 34, 35]) (OKs.mv [0, 1, 2, 6] [] (by rw [hρ]; rfl) ⟨by decide, by simp [Bc], by simp⟩ (ih2 _ _ ⟨A.ib .add .i64 z 1, N, _, _, .inr rfl, hN, rfl, ?_, ?_, ?_, ?_, ?_⟩ ?_))
      · simp (disch := omega) only [hA, Ba]; omega
      · simp (disch := omega) only [hA, Ba]; omega
      · rw [hz1']; show 1 = _; omega
      · rw [hz1', hWz, hb0, lN, hA]
        exact BR _ _ _ rfl
      · rw [hz1']; exact hvz hvg
      · simp (disch := omega) only [hA, Ba]; omega
    · have hz1' : (A.ib .add .i64 z 1).toNat = z.toNat + 1 := by simp (disch := omega) only [hA, Ba]; omega
      have hpush : A.app (A.tak (A.mul bn 1) (A.drp 0 bc)) (A.tak (A.mul 1 1) (A.drp 0 [.isl wl none wic])) = bc ++ [.isl wl none wic] := by
        rw [hA]
        simp only [DL, C7, CV, CT, List.drop_zero]
        rw [lT (by omega)]
        rfl
      refine oK_ (msk 92 [2, 3, 4, 5, 8, 33, 34, 35]) (OKs.mv [0, 1, 2, 7] [] (by rw [hρ]; rfl) ⟨by decide, by simp [Bc], by simp⟩ (ih2 _ _ ⟨A.ib .add .i64 z 1, N, _, _, .inr rfl, hN, rfl, ?_, ?_, ?_, ?_, ?_⟩ ?_))
      · simp (disch := omega) only [hA, Ba]; omega
      · simp (disch := omega) only [hA, Ba]; omega
      · rw [hz1', hA]; show bn + 1 = _; omega
      · rw [hz1', hWz]
        exact (congrArg _ hpush).trans (BR _ _ _ (by rw [← hWz]; exact Dj fun x hx => by obtain ⟨l, _, rfl⟩ := List.mem_map.1 hx; rfl))
      · rw [hz1']; exact hvz hvg
      · simp (disch := omega) only [hA, Ba]; omega
  case neg =>
    have hall : ∀ j < np, BS (Bz f j) ((Bv d).getD j Bf) := fun j hj => hval j (by omega)
    rw [lT (by rw [C8, hnpd]; omega)] at hbc
    have hbn' : bn = (WL f d).length := by rw [C8, hnpd]; omega
    have hends : Hid (k = 20 → ∀ h : EH, Tri Tryz.prog gs 75 [.agg [.lit (.int .i64 len), .lit (.int .i64 ofs), .lit (.int .i64 nls), .isl nb none cb, .isl nk none ck, .isl nd none cd]] h fun v h' => IsF0 (DG d) v ∧ h' = h) := fun e h => hendc.out hz e (hall 0 (by have := hnp20.out hz e; omega)) h
    have hwt : Hid ((k = 20 → DG d) → ∀ h : EH, Tri Tryz.prog gs 76 [.agg [.lit (.string nm), .lit (.bool nul), .lit (.int .i64 k), .lit (.int .i64 w), .lit (.int .i64 i), .lit (.int .i64 ix), .isl kn none kc], .agg [.lit (.int .i64 len), .lit (.int .i64 ofs), .lit (.int .i64 nls), .isl nb none cb, .isl nk none ck, .isl nd none cd], .isl bn none bc] h fun v h' => v = DA (wts f d) ∧ h' = h) := fun e h => by
      rw [hbn', hbc]
      exact hwtc.out hSz hRw hall e h
    have hvl := hvi.out hz
    have hwl : Hid ((k = 20 → DG d) → ∀ j, (wts f d).getD j 0 ≤ 300000000) := fun e => hwlc.out hSz hRw hall e
    have hll := JX f d
    have hl0 := hz.len
    unfold Cn at hl0
    unfold DA at hwt
    obtain ⟨tl, htl⟩ : ∃ n, n = (wts f d).length := ⟨_, rfl⟩
    obtain ⟨tc, htc⟩ : ∃ n, n = CN (wts f d) := ⟨_, rfl⟩
    have hstp := Lq (wts f d)
    have hC3' : Hid (∀ h, BS f d → CK (.tup [.agg [.lit (.int .i64 0), .lit (.slice none 0 0), .lit (.int .i64 0)], .isl tl none tc]) h) := fun h hv => by rw [htl, htc]; exact hC3.out h hv
    have ltc : ∀ j : Nat, j < tl → List.take 1 (List.drop (0 + j * 1) tc) = [.lit (.int .i64 ((wts f d).getD j 0 : Nat))] := fun j hj => by
      rw [Nat.zero_add, Nat.mul_one, htc]; exact Iu _ j (by omega)
    rw [← htl, ← htc] at hwt
    have hfl := Ds 3 1
    rcases hst with ⟨h0, rfl⟩ | rfl
    · refine OKs.up 8 (.isl bn none bc) (by rw [h0]; exact Up.nil _) ?_
      with_reducible refine Be hA hd hQ 200 ?hk ?_
      case hk => trivial
      conv => arg 9; cbv
      try simp only [OK]
      repeat' first | (with_reducible refine OKK.loop ?_) | ((with_reducible refine ⟨fun hbr => ?_, fun hbr => ?_⟩) <;> (try simp (disch := omega) only [hA, Ba] at hbr) <;> (try (with_reducible exfalso; omega))) | ((with_reducible refine Bd hA hd hQ 200 ?hk ?_); (case hk => trivial); (conv => arg 9; cbv); (try simp only [OK])) | ((with_reducible refine cO ?hg ?_); (case hg => with_reducible exact Bb F75_ok); (refine tM (hends.out (by omega) _) fun v hh hx => ?_); (obtain ⟨⟨ee, ea, hv, hee⟩, hh'⟩ := hx; subst hv; subst hh')) | ((with_reducible refine cO ?hg ?_); (case hg => with_reducible exact Bb F76_ok); refine tM (hwt.out (fun e => absurd e (by omega)) _) ?_; rintro _ _ ⟨rfl, rfl⟩) | ((with_reducible refine cO ?hg ?_); (case hg => with_reducible exact Bb F76_ok); refine tM (hwt.out (fun e => hee.1 (by omega)) _) ?_; rintro _ _ ⟨rfl, rfl⟩)
      all_goals try exact fI_ rfl (hC1.out ee ea _ (by omega) fun hv => absurd (hee.2 ((hvl.2 hv).2.2.2.1 (by omega))) (by omega))
      all_goals
        have he20 : k = 20 → DG d := by
          first
            | exact fun e => hee.1 (by omega)
            | exact fun e => absurd e (by omega)
        have hvS : BA (wts f d) ≤ 4194304 → BS f d := fun h => hvl.1 ⟨hSz, hRw, hall, he20, h⟩
        have hvN : ¬ BA (wts f d) ≤ 4194304 → ¬ BS f d := fun h hv => h (hvl.2 hv).2.2.2.2
        have hwl := hwl.out he20
        clear he20
        refine oK_ (msk 92 [4, 5, 14, 15, 77, 78, 79]) (OKs.mv [0, 1, 2] [] (by rw [hρ]; rfl) ⟨by decide, by simp [Bc], by simp⟩ ?_)
        refine oL_ (fun m st => ∃ (u N s : Int), st = ⟨mkT 92 [(4, .ptr 2 0), (5, .lit (.slice none 0 0)), (14, .isl tl none tc), (15, .lit (.int .i64 s)), (77, .isl tl none tc), (78, .lit (.int .i64 N)), (79, .lit (.int .i64 u))], [.blk [.lit (.string nm), .lit (.bool nul), .lit (.int .i64 k), .lit (.int .i64 w), .lit (.int .i64 i), .lit (.int .i64 ix), .isl kn none kc], .blk [.lit (.int .i64 len), .lit (.int .i64 ofs), .lit (.int .i64 nls), .isl nb none cb, .isl nk none ck, .isl nd none cd], .blk [.lit (.int .i64 0), .lit (.slice none 0 0), .lit (.int .i64 0)]]⟩ ∧
          N = tl ∧ m = (tl - u).toNat ∧ 0 ≤ u ∧ u ≤ tl ∧ s = (BA ((wts f d).take u.toNat) : Nat) ∧ s ≤ 300000000 * u) (fun m st hs' ih3 => ?_) ⟨0, _, 0, rfl, by rw [hA]; rfl, rfl, by omega, by omega, by simp [BA], by omega⟩
        obtain ⟨u, N', s, rfl, hN', hm', hu1, hu2, hs1, hs2⟩ := hs'
        have ltu : Hid (u < tl → List.take 1 (List.drop (A.idx 0 u 1) tc) = [.lit (.int .i64 ((wts f d).getD u.toNat 0 : Nat))]) := fun hu => by rw [hA]; exact ltc u.toNat (by omega)
        have hst3 : Hid (u < tl → BA ((wts f d).take (u.toNat + 1)) = BA ((wts f d).take u.toNat) + (wts f d).getD u.toNat 0) := fun hu => hstp _ (by omega)
        have hgl := hwl u.toNat
        obtain ⟨gu, hgu⟩ : ∃ g : Int, g = ((wts f d).getD u.toNat 0 : Nat) := ⟨_, rfl⟩
        rw [← hgu] at ltu
        with_reducible refine Be hA hd hQ 200 ?hk ?_
        case hk => trivial
        conv => arg 9; cbv
        try simp only [OK]
        repeat' first | (with_reducible refine OKK.again ?_) | ((with_reducible refine ⟨fun hbr => ?_, fun hbr => ?_⟩) <;> (try simp (disch := omega) only [hA, Ba] at hbr) <;> (try (with_reducible exfalso; omega))) | ((with_reducible refine Bd hA hd hQ 200 ?hk ?_); (case hk => trivial); (conv => arg 9; cbv); (try simp only [OK])) | ((with_reducible refine Bp ?hn ?_); (case hn => ((simp (disch := omega) only [hA, Ba]) <;> omega))) | ((refine ⟨_, _, ?l1, (ltu.out (by omega)), rfl, ?_⟩); (case l1 => exact rfl)) | ((with_reducible refine cO ?hg ?_); (case hg => with_reducible exact Bb F44_ok); refine tM (hfl _) ?_; rintro _ _ ⟨rfl, rfl⟩)
        all_goals first
          | (refine oK_ (msk 92 [4, 5, 14, 15, 77, 78, 79]) (ih3 _ _ ⟨A.ib .add .i64 u 1, N', A.ib .add .i64 s gu, rfl, hN', rfl, ?_, ?_, ?_, ?_⟩ ?_)
             · simp (disch := omega) only [hA, Ba]; omega
             · simp (disch := omega) only [hA, Ba]; omega
             · have e1 : (A.ib .add .i64 u 1).toNat = u.toNat + 1 := by simp (disch := omega) only [hA, Ba]; omega
               have b4 := hst3.out (by omega)
               rw [e1, b4]
               simp (disch := omega) only [hA, Ba]; omega
             · simp (disch := omega) only [hA, Ba]; omega
             · simp (disch := omega) only [hA, Ba]; omega)
          | (have e1 : (wts f d).take u.toNat = wts f d := lT (by omega)
             rw [e1] at hs1
             exact fI_ rfl (hC1.out 3 1 _ (by decide) (hvN (by omega))))
          | (have e1 : (wts f d).take u.toNat = wts f d := lT (by omega)
             rw [e1] at hs1
             exact fI_ rfl (hC3'.out _ (hvS (by omega))))
          | trace_state
    · refine OKs.mvE [0, 1, 2, 3] [3] (by rw [hρ]; rfl) ⟨by decide, by simp [Bc], fun id hid => by simp at hid; subst hid; exact ⟨_, rfl, hbcl⟩⟩ rfl ?_
      with_reducible refine Be hA hd hQ 200 ?hk ?_
      case hk => trivial
      conv => arg 9; cbv
      try simp only [OK]
      repeat' first | (with_reducible refine OKK.loop ?_) | ((with_reducible refine ⟨fun hbr => ?_, fun hbr => ?_⟩) <;> (try simp (disch := omega) only [hA, Ba] at hbr) <;> (try (with_reducible exfalso; omega))) | ((with_reducible refine Bd hA hd hQ 200 ?hk ?_); (case hk => trivial); (conv => arg 9; cbv); (try simp only [OK])) | ((with_reducible refine cO ?hg ?_); (case hg => with_reducible exact Bb F75_ok); (refine tM (hends.out (by omega) _) fun v hh hx => ?_); (obtain ⟨⟨ee, ea, hv, hee⟩, hh'⟩ := hx; subst hv; subst hh')) | ((with_reducible refine cO ?hg ?_); (case hg => with_reducible exact Bb F76_ok); refine tM (hwt.out (fun e => absurd e (by omega)) _) ?_; rintro _ _ ⟨rfl, rfl⟩) | ((with_reducible refine cO ?hg ?_); (case hg => with_reducible exact Bb F76_ok); refine tM (hwt.out (fun e => hee.1 (by omega)) _) ?_; rintro _ _ ⟨rfl, rfl⟩)
      all_goals try exact fI_ rfl (hC1.out ee ea _ (by omega) fun hv => absurd (hee.2 ((hvl.2 hv).2.2.2.1 (by omega))) (by omega))
      all_goals
        have he20 : k = 20 → DG d := by
          first
            | exact fun e => hee.1 (by omega)
            | exact fun e => absurd e (by omega)
        have hvS : BA (wts f d) ≤ 4194304 → BS f d := fun h => hvl.1 ⟨hSz, hRw, hall, he20, h⟩
        have hvN : ¬ BA (wts f d) ≤ 4194304 → ¬ BS f d := fun h hv => h (hvl.2 hv).2.2.2.2
        have hwl := hwl.out he20
        clear he20
        refine oK_ (msk 92 [4, 5, 14, 15, 77, 78, 79]) (OKs.mv [0, 1, 2] [] (by rw [hρ]; rfl) ⟨by decide, by simp [Bc], by simp⟩ ?_)
        refine oL_ (fun m st => ∃ (u N s : Int), st = ⟨mkT 92 [(4, .ptr 2 0), (5, .lit (.slice none 0 0)), (14, .isl tl none tc), (15, .lit (.int .i64 s)), (77, .isl tl none tc), (78, .lit (.int .i64 N)), (79, .lit (.int .i64 u))], [.blk [.lit (.string nm), .lit (.bool nul), .lit (.int .i64 k), .lit (.int .i64 w), .lit (.int .i64 i), .lit (.int .i64 ix), .isl kn none kc], .blk [.lit (.int .i64 len), .lit (.int .i64 ofs), .lit (.int .i64 nls), .isl nb none cb, .isl nk none ck, .isl nd none cd], .blk [.lit (.int .i64 0), .lit (.slice none 0 0), .lit (.int .i64 0)]]⟩ ∧
          N = tl ∧ m = (tl - u).toNat ∧ 0 ≤ u ∧ u ≤ tl ∧ s = (BA ((wts f d).take u.toNat) : Nat) ∧ s ≤ 300000000 * u) (fun m st hs' ih3 => ?_) ⟨0, _, 0, rfl, by rw [hA]; rfl, rfl, by omega, by omega, by simp [BA], by omega⟩
        obtain ⟨u, N', s, rfl, hN', hm', hu1, hu2, hs1, hs2⟩ := hs'
        have ltu : Hid (u < tl → List.take 1 (List.drop (A.idx 0 u 1) tc) = [.lit (.int .i64 ((wts f d).getD u.toNat 0 : Nat))]) := fun hu => by rw [hA]; exact ltc u.toNat (by omega)
        have hst3 : Hid (u < tl → BA ((wts f d).take (u.toNat + 1)) = BA ((wts f d).take u.toNat) + (wts f d).getD u.toNat 0) := fun hu => hstp _ (by omega)
        have hgl := hwl u.toNat
        obtain ⟨gu, hgu⟩ : ∃ g : Int, g = ((wts f d).getD u.toNat 0 : Nat) := ⟨_, rfl⟩
        rw [← hgu] at ltu
        with_reducible refine Be hA hd hQ 200 ?hk ?_
        case hk => trivial
        conv => arg 9; cbv
        try simp only [OK]
        repeat' first | (with_reducible refine OKK.again ?_) | ((with_reducible refine ⟨fun hbr => ?_, fun hbr => ?_⟩) <;> (try simp (disch := omega) only [hA, Ba] at hbr) <;> (try (with_reducible exfalso; omega))) | ((with_reducible refine Bd hA hd hQ 200 ?hk ?_); (case hk => trivial); (conv => arg 9; cbv); (try simp only [OK])) | ((with_reducible refine Bp ?hn ?_); (case hn => ((simp (disch := omega) only [hA, Ba]) <;> omega))) | ((refine ⟨_, _, ?l1, (ltu.out (by omega)), rfl, ?_⟩); (case l1 => exact rfl)) | ((with_reducible refine cO ?hg ?_); (case hg => with_reducible exact Bb F44_ok); refine tM (hfl _) ?_; rintro _ _ ⟨rfl, rfl⟩)
        all_goals first
          | (refine oK_ (msk 92 [4, 5, 14, 15, 77, 78, 79]) (ih3 _ _ ⟨A.ib .add .i64 u 1, N', A.ib .add .i64 s gu, rfl, hN', rfl, ?_, ?_, ?_, ?_⟩ ?_)
             · simp (disch := omega) only [hA, Ba]; omega
             · simp (disch := omega) only [hA, Ba]; omega
             · have e1 : (A.ib .add .i64 u 1).toNat = u.toNat + 1 := by simp (disch := omega) only [hA, Ba]; omega
               have b4 := hst3.out (by omega)
               rw [e1, b4]
               simp (disch := omega) only [hA, Ba]; omega
             · simp (disch := omega) only [hA, Ba]; omega
             · simp (disch := omega) only [hA, Ba]; omega)
          | (have e1 : (wts f d).take u.toNat = wts f d := lT (by omega)
             rw [e1] at hs1
             exact fI_ rfl (hC1.out 3 1 _ (by decide) (hvN (by omega))))
          | (have e1 : (wts f d).take u.toNat = wts f d := lT (by omega)
             rw [e1] at hs1
             exact fI_ rfl (hC3'.out _ (hvS (by omega))))
          | trace_state
theorem CKv.cl{f:Fld}{d:Dat}{v:EV}(h:CKv f d v):clE v=true:=by
 rcases h with ⟨e,a,pc,_,rfl,_⟩|⟨rfl,_⟩<;>rfl
theorem Zi:∀(n:Nat) (f:Fld) (d:Dat),Ct f<=n->SubF f->Cu f->okA d->∀h:EH,
  Tri Tryz.prog gs 45 [.agg (Bo f),.agg (Bs d)] h fun v h'=>CKv f d v/\h'=h:=by
 intro n
 induction n with
 |zero=>intro f d h;rw[G0]at h;omega
 |succ n ih=>
  intro f d hn hs hsm hok h
  have t0:=zEp f d hs hsm hok fun hz j hj h=>by
   have e:=Ik hs hz;have hfit1:f.kind=20->f.kids.length=1:=fun e=>by have h:=hs.fits;unfold Cl at h;rw[e]at h;simp at h;omega
   obtain⟨p1,p2,p3, -⟩:=Ks hs hsm j (fun e2=>by rw[if_pos e2]at e;omega) (fun e2=>by rw[if_neg e2]at e;omega) hfit1
   exact ih _ _ (by omega) p1 p2 (IF (f:=f) hok j hj) h
  have t1:=Tri.mv (R':=fun v h'=>∃v',CKv f d v'/\Up v v') t0 fun v h' hr=>by
   rcases hr with ⟨e,a,pe,h1,h2,h3,h4⟩|⟨e,a,pc,n,B,cp,h1,h2,h3,h4,h5,h6,h7⟩|⟨h1,h2⟩
   ·subst h2;subst h3
    exact⟨[],[],rfl,⟨by simp,by simp,by simp⟩,_,.inl ⟨e,a,[],h1,rfl,by simp,rfl,h4⟩,Up.tup2 (Up.refl _) (Up.nil [])⟩
   ·subst h2;subst h4
    rcases h3 with ⟨rfl,a0,a1,a2,a3,a4,rfl⟩|⟨rfl,a0,a1,a2,a3,a4,a5,rfl⟩|⟨rfl,a0,a1,a2,a3,a4,a5,a6,rfl⟩
    ·exact⟨[],[5],rfl,⟨by simp,by simp,fun id hid=>by simp at hid;subst hid;exact⟨_,rfl,h6⟩⟩,_,.inl ⟨e,a,pc,h1,rfl,h5,h6,h7⟩,Up.tup2 (Up.agg3 (Up.refl _) (Up.cap _ _ _) (Up.refl _)) (Up.nil [])⟩
    ·exact⟨[],[6],rfl,⟨by simp,by simp,fun id hid=>by simp at hid;subst hid;exact⟨_,rfl,h6⟩⟩,_,.inl ⟨e,a,pc,h1,rfl,h5,h6,h7⟩,Up.tup2 (Up.agg3 (Up.refl _) (Up.cap _ _ _) (Up.refl _)) (Up.nil [])⟩
    ·exact⟨[],[7],rfl,⟨by simp,by simp,fun id hid=>by simp at hid;subst hid;exact⟨_,rfl,h6⟩⟩,_,.inl ⟨e,a,pc,h1,rfl,h5,h6,h7⟩,Up.tup2 (Up.agg3 (Up.refl _) (Up.cap _ _ _) (Up.refl _)) (Up.nil [])⟩
   ·subst h1
    exact⟨[],[],rfl,⟨by simp,by simp,by simp⟩,_,.inr ⟨rfl,h2⟩,Up.tup2 (Up.agg3 (Up.refl _) (Up.nil []) (Up.refl _)) (Up.refl _)⟩
  exact Tri.litC (φ:=fun v=>CKv f d v) (fun v hv=>hv.cl) (by rw[BF,BL];rfl) (Tri.up t1 fun v h' ⟨v',h1,h2⟩=>⟨v',h1,h2⟩) h
theorem WU(f:Fld)(d:Dat)(hok:okF f)(hokd:okA d)(h:EH) :
  Tri Tryz.prog gs 27 [.agg (Bo f),.agg (Bs d)] h fun v h'=>IsF (B7 f/\BS f d) v/\h'=h:=by
 have hcf:=Kj f hok
 have hck:Hid (B7 f->∀h:EH,Tri Tryz.prog gs 45 [.agg (Bo f),.agg (Bs d)] h fun v h'=>CKv f d v/\h'=h):=fun hm=>
  Zi _ f d (Nat.le_refl _) (SubF.of hok hm) (H0 (Ei hm)) hokd
 have hF:=Ds 5 0
 unfold CKv DA at hck
 generalize B7 f=M,BS f d=V,(wts f d).length=wl,CN (wts f d)=wic,Ct f=dp at *
 rw[BF,BL]at *
 generalize d.len=len,d.ofs=ofs,d.nuls=nls,d.bufs.length=nb,Bx d.bufs=cb,d.kids.length=nk,Bi d.kids=ck,d.dict.length=nd,Bi d.dict=cd at *
 generalize Bl f.kids=kc,f.kids.length=kn,f.nm=nm,f.nul=nul,f.kind=k,f.width=w,f.id=i,f.idx=ix at *
 refine Tri.faultC rfl (Bj F27_ok fun I0 ρ0 w0 Q hρ hQ=>?_) h
 obtain⟨A,hA⟩:∃A,A=stdA:=⟨_,rfl⟩
 with_reducible refine Be hA hd hQ 200 ?hk ?_
 case hk=>trivial
 conv=>arg 9;cbv
 try simp only[OK]
 repeat' first|((with_reducible refine⟨fun hbr=>?_,fun hbr=>?_⟩)<;>(try simp(disch:=omega)only[hA,Ba]at hbr)<;>(try (with_reducible exfalso;omega)))|((with_reducible refine Bd hA hd hQ 200 ?hk ?_);(case hk=>trivial);(conv=>arg 9;cbv);(try simp only[OK]))|((with_reducible refine cO ?hg ?_);(case hg=>with_reducible exact Bb F10_ok);(refine tM (hcf _) fun v hh hx=>?_);(obtain⟨⟨e,a,pn,pc,hv,he⟩,hh'⟩:=hx;subst hv;subst hh'))|((with_reducible refine cO ?hg ?_);(case hg=>with_reducible exact Bb F44_ok);refine tM (hF _) ?_;rintro _ _ ⟨rfl,rfl⟩)
 ·exact FinR.f rfl (Up.refl _) (iff_of_false (by decide) fun hh=>by have:=he.2 hh.1;omega)
 ·refine cO (Bb F45_ok) (tM (hck.out (he.1 (by omega)) _) fun v hh hx=>?_)
  obtain⟨hx,hh'⟩:=hx;subst hh';rcases hx with ⟨e2,a2,qc,he2,hv,hq,hqc,hnv⟩|⟨hv,hvg⟩
  ·obtain⟨qn,hqn⟩:∃n,n=qc.length:=⟨_,rfl⟩
   rw[<-hqn]at hv;subst hv
   with_reducible refine Bd hA hd hQ 1 ?hk ?_
   case hk=>trivial
   conv=>arg 9;cbv
   try simp only[OK]
   repeat' first|((with_reducible refine Bd hA hd hQ 200 ?hk ?_);(case hk=>trivial);(conv=>arg 9;cbv);(try simp only[OK]))
   exact FinR.f rfl (Up.refl _) (iff_of_false he2 fun hh=>hnv hh.2)
  ·subst hv
   with_reducible refine Bd hA hd hQ 1 ?hk ?_
   case hk=>trivial
   conv=>arg 9;cbv
   try simp only[OK]
   repeat' first|((with_reducible refine Bd hA hd hQ 200 ?hk ?_);(case hk=>trivial);(conv=>arg 9;cbv);(try simp only[OK]))
   exact FinR.f rfl (Up.refl _) (iff_of_true rfl ⟨he.1 (by omega),hvg⟩)
def SM(es n:Nat)(c:List EV)(v:EV)(h:EH):Prop:=
 (n=0/\v = .lit (.slice none 0 0))\/(n=0/\v = .sl es 0 0 0 (some 0)/\∃c0,h=[.blk c0]/\clL c0=true)\/(∃m,m=n/\v = .sl es 1 0 m none/\∃o c',c'=c/\h=[o,.blk c'])
theorem YD(n:Nat)(c:List EV)(hn:n<=1000)(hc:c.length=n*1)(hcl:clL c=true) :
  Tri Tryz.prog gs 48 [.isl n none c] [] fun v h'=>SM 1 n c v h':=by
 refine Tri.nilC (fun e=>Bj F48_ok fun I0 ρ0 w0 Q hρ hQ=>?_) fun k hk=>Bj F48_ok fun I0 ρ0 w0 Q hρ hQ=>?_
 ·obtain⟨A,hA⟩:∃A,A=stdA:=⟨_,rfl⟩
  clear hc
  with_reducible refine Be hA hd hQ 200 ?hk ?_
  case hk=>trivial
  conv=>arg 9;cbv
  try simp only[OK]
  all_goals exact fI_ rfl (.inl ⟨e,rfl⟩)
 ·obtain⟨A,hA⟩:∃A,A=stdA:=⟨_,rfl⟩
  with_reducible refine Be hA hd hQ 200 ?hk ?_
  case hk=>trivial
  conv=>arg 9;cbv
  try simp only[OK]
  repeat' first|((with_reducible refine⟨fun hbr=>?_,fun hbr=>?_⟩)<;>(try simp(disch:=omega)only[hA,Ba]at hbr)<;>(try (with_reducible exfalso;omega)))|((with_reducible refine Bd hA hd hQ 200 ?hk ?_);(case hk=>trivial);(conv=>arg 9;cbv);(try simp only[OK]))|((with_reducible refine Bp ?hn ?_);(case hn=>((simp(disch:=omega)only[hA,Ba])<;>omega)))
  ·obtain rfl:n=0:=by omega
   obtain rfl:c=[]:=List.length_eq_zero_iff.1 (by omega)
   subst hA;exact fI_ rfl (.inr (.inl ⟨rfl,rfl,_,rfl,rfl⟩))
  ·have e1:A.app (A.tak (A.mul 0 1) (A.drp 0 [])) (A.tak (A.mul n 1) c)=c:=by
    rw[hA];simp only[DL,C7,CV,CT,List.drop_nil,List.take_nil,lN];exact lT (by omega)
   have e2:A.add 0 n=n:=by rw[hA];show 0+n=n;omega
   exact fI_ rfl (.inr (.inr ⟨_,e2,rfl,_,_,e1,rfl⟩))
theorem zBH(n:Nat)(c:List EV)(hn:n<=1000)(hc:c.length=n*1)(hcl:clL c=true)(h:EH) :
  Tri Tryz.prog gs 48 [.isl n none c] h fun v h'=>v = .isl n none c/\h'=h:=by
 have t0:=YD n c hn hc hcl
 have t1:=Tri.mv (R':=fun v h'=>∃v',v' = .isl n none c/\Up v v') t0 fun v h' hr=>by
  rcases hr with ⟨rfl,rfl⟩|⟨rfl,rfl,c0,rfl,hc0⟩|⟨m,rfl,rfl,o,c',rfl,rfl⟩
  ·exact⟨[],[],rfl,⟨by simp,by simp,by simp⟩,_,rfl,Up.nil _⟩
  ·obtain rfl:c=[]:=List.length_eq_zero_iff.1 (by omega)
   exact⟨[],[0],rfl,⟨by simp,by simp,fun id hid=>by simp at hid;subst hid;exact⟨_,rfl,hc0⟩⟩,_,rfl,(Up.pre 0 _ _ 0).trans (Up.cap _ _ _)⟩
  ·exact⟨[],[1],rfl,⟨by simp,by simp,fun id hid=>by simp at hid;subst hid;exact⟨_,rfl,hcl⟩⟩,_,rfl,Up.cap _ _ _⟩
 exact Tri.valA rfl rfl (Tri.up t1 fun v h' ⟨v',h1,h2⟩=>⟨v',h1,h2⟩) h
theorem Uw(n:Nat)(c:List EV)(hn:n<=1000)(hc:c.length=n*7)(hcl:clL c=true) :
  Tri Tryz.prog gs 47 [.isl n none c] [] fun v h'=>SM 7 n c v h':=by
 refine Tri.nilC (fun e=>Bj F47_ok fun I0 ρ0 w0 Q hρ hQ=>?_) fun k hk=>Bj F47_ok fun I0 ρ0 w0 Q hρ hQ=>?_
 ·obtain⟨A,hA⟩:∃A,A=stdA:=⟨_,rfl⟩
  clear hc
  with_reducible refine Be hA hd hQ 200 ?hk ?_
  case hk=>trivial
  conv=>arg 9;cbv
  try simp only[OK]
  all_goals exact fI_ rfl (.inl ⟨e,rfl⟩)
 ·obtain⟨A,hA⟩:∃A,A=stdA:=⟨_,rfl⟩
  with_reducible refine Be hA hd hQ 200 ?hk ?_
  case hk=>trivial
  conv=>arg 9;cbv
  try simp only[OK]
  repeat' first|((with_reducible refine⟨fun hbr=>?_,fun hbr=>?_⟩)<;>(try simp(disch:=omega)only[hA,Ba]at hbr)<;>(try (with_reducible exfalso;omega)))|((with_reducible refine Bd hA hd hQ 200 ?hk ?_);(case hk=>trivial);(conv=>arg 9;cbv);(try simp only[OK]))|((with_reducible refine Bp ?hn ?_);(case hn=>((simp(disch:=omega)only[hA,Ba])<;>omega)))
  ·obtain rfl:n=0:=by omega
   obtain rfl:c=[]:=List.length_eq_zero_iff.1 (by omega)
   subst hA;exact fI_ rfl (.inr (.inl ⟨rfl,rfl,_,rfl,rfl⟩))
  ·have e1:A.app (A.tak (A.mul 0 7) (A.drp 0 [])) (A.tak (A.mul n 7) c)=c:=by
    rw[hA];simp only[DL,C7,CV,CT,List.drop_nil,List.take_nil,lN];exact lT (by omega)
   have e2:A.add 0 n=n:=by rw[hA];show 0+n=n;omega
   exact fI_ rfl (.inr (.inr ⟨_,e2,rfl,_,_,e1,rfl⟩))
theorem zAY(n:Nat)(c:List EV)(hn:n<=1000)(hc:c.length=n*7)(hcl:clL c=true)(h:EH) :
  Tri Tryz.prog gs 47 [.isl n none c] h fun v h'=>v = .isl n none c/\h'=h:=by
 have t0:=Uw n c hn hc hcl
 have t1:=Tri.mv (R':=fun v h'=>∃v',v' = .isl n none c/\Up v v') t0 fun v h' hr=>by
  rcases hr with ⟨rfl,rfl⟩|⟨rfl,rfl,c0,rfl,hc0⟩|⟨m,rfl,rfl,o,c',rfl,rfl⟩
  ·exact⟨[],[],rfl,⟨by simp,by simp,by simp⟩,_,rfl,Up.nil _⟩
  ·obtain rfl:c=[]:=List.length_eq_zero_iff.1 (by omega)
   exact⟨[],[0],rfl,⟨by simp,by simp,fun id hid=>by simp at hid;subst hid;exact⟨_,rfl,hc0⟩⟩,_,rfl,(Up.pre 0 _ _ 0).trans (Up.cap _ _ _)⟩
  ·exact⟨[],[1],rfl,⟨by simp,by simp,fun id hid=>by simp at hid;subst hid;exact⟨_,rfl,hcl⟩⟩,_,rfl,Up.cap _ _ _⟩
 exact Tri.valA rfl rfl (Tri.up t1 fun v h' ⟨v',h1,h2⟩=>⟨v',h1,h2⟩) h
theorem YE(n:Nat)(c:List EV)(hn1:1<=n)(hn:n<=1000)(hc:c.length=n*7)(hcl:clL c=true)(h:EH) :
  Tri Tryz.prog gs 47 [.isl n none c] h fun v h'=>v = .sl 7 (Bc h) 0 n none/\h'=B0 h (.blk c):=by
 have t:=Tri.mv (R':=fun v h'=>v = .sl 7 0 0 n none/\h'=[.blk c]) (Uw n c hn hc hcl) fun v h' hr=>by
  rcases hr with ⟨e, -⟩|⟨e, -⟩|⟨m,rfl,rfl,o,c',rfl,rfl⟩
  ·omega
  ·omega
  ·refine⟨[1],[],rfl,⟨by simp,by simp[Bc],by simp⟩,rfl,?_⟩
   simp[mvH,Bh,mvO,inL,BR _ _ _ hcl]
 refine(Tri.frame (h:=h) (R:=fun v h'=>v = .sl 7 0 0 n none/\h'=[.blk c]) [] (by simp) t (.inl rfl)).mono fun v h' ⟨v0,h0,⟨e1,e2⟩,e3,e4⟩=>?_
 subst e1;subst e2;subst e3;subst e4
 exact⟨rfl,by simp only[DN,mvO,BR _ _ _ hcl]⟩
mutual
def D9:Dat->Prop
 | .mk _ _ _ bufs kids dict=>bufs.length<=3/\kids.length<=40/\dict.length<=40/\EJ kids/\EJ dict
def EJ:List Dat->Prop
 |[]=>True
 |d::l=>D9 d/\EJ l
end
mutual
theorem clA:∀d:Dat,clL (Bs d)=true
 | .mk a b c e g i=>rfl
theorem L3:∀l:List Dat,clL (Bi l)=true
 |[]=>rfl
 |d::l=>Dj fun x hx=>by
  unfold Bi at hx;rcases List.mem_append.1 hx with hx|hx
  ·exact Et (clA d) x hx
  ·exact Et (L3 l) x hx
end
theorem zDd(l:List (List Nat)):clL (Bx l)=true:=Dj fun x hx=>by
 unfold Bx at hx
 obtain⟨b,_,rfl⟩:=List.mem_map.1 hx;rfl
theorem WF{l:List Dat}{z:Nat}(h:z<l.length):Bi (l.take (z+1))=Bi (l.take z)++Bs (l.getD z Bf):=by
 have app:∀a b:List Dat,Bi (a++b)=Bi a++Bi b:=fun a b=>by
  induction a with
  |nil=>rfl
  |cons x a ih=>simp only[lC,Bi,ih,lA]
 rw[List.take_add_one,app,lE h,lG,lE h]
 simp[Bi]
def zDS(n:Nat)(c:List EV)(v:EV)(h:EH):Prop:=(n=0/\c=[]/\v = .lit (.slice none 0 0))\/(v = .sl 6 0 0 n none/\h=[.blk c])
theorem Zu(L:List Dat)(hll:L.length<=40)(ih0:∀c∈L,∀h:EH,Tri Tryz.prog gs 30 [.agg (Bs c)] h fun v h'=>v = .agg (Bs c)/\h'=h) :
  Tri Tryz.prog gs 49 [.isl L.length none (Bi L)] [] fun v h'=>zDS L.length (Bi L) v h':=by
 have hg:=C5 L
 have hstep:=fun z=>WF (l:=L) (z:=z)
 obtain⟨kn,hkn⟩:∃n,n=L.length:=⟨_,rfl⟩
 obtain⟨kc,hkc⟩:∃n,n=Bi L:=⟨_,rfl⟩
 rw[<-hkn,<-hkc]
 refine Bj F49_ok fun I0 ρ0 w0 Q hρ hQ=>?_
 obtain⟨A,hA⟩:∃A,A=stdA:=⟨_,rfl⟩
 with_reducible refine Be hA hd hQ 200 ?hk ?_
 case hk=>trivial
 conv=>arg 9;cbv
 try simp only[OK]
 repeat' first|(with_reducible refine OKK.loop ?_)
 refine oK_ (msk 19 [3,6,7,8]) ?_
 refine oL_ (fun n st=>∃(z:Int) (bn:Nat) (bc:List EV),((bn=0/\st=⟨mkT 19 [(3,.lit (.slice none 0 0)),(6,.isl kn none kc),(7,.lit (.int .i64 (A.ofn kn))),(8,.lit (.int .i64 z))],[]⟩)\/
   st=⟨mkT 19 [(3,.sl 6 0 0 bn none),(6,.isl kn none kc),(7,.lit (.int .i64 (A.ofn kn))),(8,.lit (.int .i64 z))],[.blk bc]⟩)/\
   n=(kn-z).toNat/\0<=z/\z<=kn/\bn=z.toNat/\bc=Bi (L.take z.toNat)) (fun n st hs' ih=>?_)
  ⟨0,0,[],.inl ⟨rfl,rfl⟩,rfl,by omega,by omega,rfl,rfl⟩
 obtain⟨z,bn,bc,hst,hn,hz1,hz2,hbn,hbc⟩:=hs'
 have hbl:bc.length=6*bn:=by rw[hbc,Vs,lK];omega
 have hL:Hid (z<kn->List.take 6 (List.drop (A.idx 0 z 6) kc)=Bs (L.getD z.toNat Bf)):=fun hz=>by rw[hA,B3,Nat.zero_add,hkc,hg z.toNat (by omega)]
 have hc:Hid (z<kn->∀h:EH,Tri Tryz.prog gs 30 [.agg (Bs (L.getD z.toNat Bf))] h fun v h'=>v = .agg (Bs (L.getD z.toNat Bf))/\h'=h):=fun hz=>ih0 _ (by
  rw[lG,lE (by omega)];exact List.getElem_mem _)
 have hs2:Hid (z<kn->Bi (L.take (z.toNat+1))=bc++Bs (L.getD z.toNat Bf)):=fun hz=>by rw[hbc];exact hstep _ (by omega)
 have hend:Hid (z=kn->bc=kc):=fun hz=>by rw[hbc,hkc,lT (by omega)]
 rw[BL]at hL hs2 hc
 generalize L.getD z.toNat Bf=c at *
 generalize c.len=clen,c.ofs=cofs,c.nuls=cnls,c.bufs.length=cnb,Bx c.bufs=ccb,c.kids.length=cnk,Bi c.kids=cck,c.dict.length=cnd,Bi c.dict=ccd at *
 rcases hst with ⟨h0,rfl⟩|rfl
 all_goals
  with_reducible refine Be hA hd hQ 200 ?hk ?_
  case hk=>trivial
  conv=>arg 9;cbv
  try simp only[OK]
  repeat' first|(with_reducible refine OKK.again ?_)|((with_reducible refine⟨fun hbr=>?_,fun hbr=>?_⟩)<;>(try simp(disch:=omega)only[hA,Ba,reduceCtorEq]at hbr)<;>(try (with_reducible exfalso;omega)))|((with_reducible refine Bd hA hd hQ 200 ?hk ?_);(case hk=>trivial);(conv=>arg 9;cbv);(try simp only[OK]))|((with_reducible refine Bp ?hn ?_);(case hn=>((simp(disch:=omega)only[hA,Ba])<;>omega)))|((refine⟨_,_,?l1,(hL.out (by omega)),rfl,?_⟩);(case l1=>exact rfl))|((with_reducible refine cO ?hg ?_);(case hg=>with_reducible exact Bb F30_ok);refine tM (hc.out (by omega) _) ?_;rintro _ _ ⟨rfl,rfl⟩)
 ·have hz1':(A.ib .add .i64 z 1).toNat=z.toNat+1:=by simp(disch:=omega)only[hA,Ba];omega
  have hb0:bc=[]:=List.length_eq_zero_iff.1 (by omega)
  refine oK_ (msk 19 [3,6,7,8]) (OKs.mv [2] [] (by rw[hρ];rfl) ⟨by decide,by simp[Bc],by simp⟩ (ih _ _ ⟨A.ib .add .i64 z 1,_,_,.inr rfl,rfl,?_,?_,?_,?_⟩ ?_))
  ·simp(disch:=omega)only[hA,Ba];omega
  ·simp(disch:=omega)only[hA,Ba];omega
  ·rw[hz1'];show 1=_;omega
  ·rw[hz1',hs2.out (by omega),hb0,lN,hA]
   exact BR _ _ _ rfl
  ·simp(disch:=omega)only[hA,Ba];omega
 ·exact fI_ rfl (.inl ⟨by omega,by rw[<-hend.out (by omega)];exact List.length_eq_zero_iff.1 (by omega),rfl⟩)
 ·have hz1':(A.ib .add .i64 z 1).toNat=z.toNat+1:=by simp(disch:=omega)only[hA,Ba];omega
  have hpush:A.app (A.tak (A.mul bn 6) (A.drp 0 bc)) (A.tak (A.mul 1 6) (A.drp 0 [.lit (.int .i64 clen),.lit (.int .i64 cofs),.lit (.int .i64 cnls),.isl cnb none ccb,.isl cnk none cck,.isl cnd none ccd]))=bc++[.lit (.int .i64 clen),.lit (.int .i64 cofs),.lit (.int .i64 cnls),.isl cnb none ccb,.isl cnk none cck,.isl cnd none ccd]:=by
   rw[hA];simp only[DL,C7,CV,CT,List.drop_zero];rw[lT (by omega)]
   rfl
  refine oK_ (msk 19 [3,6,7,8]) (OKs.mv [3] [] (by rw[hρ];rfl) ⟨by decide,by simp[Bc],by simp⟩ (ih _ _ ⟨A.ib .add .i64 z 1,_,_,.inr rfl,rfl,?_,?_,?_,?_⟩ ?_))
  ·simp(disch:=omega)only[hA,Ba];omega
  ·simp(disch:=omega)only[hA,Ba];omega
  ·rw[hz1',hA];show bn+1=_;omega
  ·rw[hz1',hs2.out (by omega)]
   exact(congrArg _ hpush).trans (BR _ _ _ (by rw[<-hs2.out (by omega)];exact L3 _))
  ·simp(disch:=omega)only[hA,Ba];omega
 ·refine fI_ rfl (.inr ⟨by rw[show kn=bn by omega];rfl,by rw[<-hend.out (by omega)]⟩)
theorem Uz(L:List Dat)(hll:L.length<=40)(ih0:∀c∈L,∀h:EH,Tri Tryz.prog gs 30 [.agg (Bs c)] h fun v h'=>v = .agg (Bs c)/\h'=h)(h:EH) :
  Tri Tryz.prog gs 49 [.isl L.length none (Bi L)] h fun v h'=>v = .isl L.length none (Bi L)/\h'=h:=by
 have t1:=Tri.mv (R':=fun v h'=>∃v',v' = .isl L.length none (Bi L)/\Up v v') (Zu L hll ih0) fun v h' hr=>by
  rcases hr with ⟨e0,e1,e2⟩|⟨e2,e1⟩<;>subst e2
  ·refine⟨[],[],rfl,⟨by simp,by simp,by simp⟩,.isl L.length none (Bi L),rfl,?_⟩
   rw[e0,e1];exact Up.nil _
  ·subst e1
   exact⟨[],[0],rfl,⟨by simp,by simp,fun id hid=>by simp at hid;subst hid;exact⟨_,rfl,L3 _⟩⟩,_,rfl,Up.cap _ _ _⟩
 exact Tri.valA rfl rfl (Tri.up t1 fun v h' ⟨v',h1,h2⟩=>⟨v',h1,h2⟩) h
theorem ZK(d:Dat)(hsd:D9 d)(hk:∀c∈d.kids,∀h:EH,Tri Tryz.prog gs 30 [.agg (Bs c)] h fun v h'=>v = .agg (Bs c)/\h'=h)
  (hx:∀c∈d.dict,∀h:EH,Tri Tryz.prog gs 30 [.agg (Bs c)] h fun v h'=>v = .agg (Bs c)/\h'=h) (h:EH) :
  Tri Tryz.prog gs 30 [.agg (Bs d)] h fun v h'=>v = .agg (Bs d)/\h'=h:=by
 have hs:d.bufs.length<=3/\d.kids.length<=40/\d.dict.length<=40:=by cases d;unfold D9 at hsd;exact⟨hsd.1,hsd.2.1,hsd.2.2.1⟩
 have c1:=zBH d.bufs.length (Bx d.bufs) (by omega) (by rw[Wp];omega) (zDd _)
 have c2:=Uz d.kids hs.2.1 hk
 have c3:=Uz d.dict hs.2.2 hx
 rw[BL]
 generalize d.len=len,d.ofs=ofs,d.nuls=nls,d.bufs.length=nb,Bx d.bufs=cb,d.kids.length=nk,Bi d.kids=ck,d.dict.length=nd,Bi d.dict=cd at *
 refine Tri.valA rfl rfl (Bj F30_ok fun I0 ρ0 w0 Q hρ hQ=>?_) h
 obtain⟨A,hA⟩:∃A,A=stdA:=⟨_,rfl⟩
 with_reducible refine Be hA hd hQ 200 ?hk ?_
 case hk=>trivial
 conv=>arg 9;cbv
 try simp only[OK]
 repeat' first|((with_reducible refine Bd hA hd hQ 200 ?hk ?_);(case hk=>trivial);(conv=>arg 9;cbv);(try simp only[OK]))|((with_reducible refine cO ?hg ?_);(case hg=>with_reducible exact Bb F48_ok);refine tM (c1 _) ?_;rintro _ _ ⟨rfl,rfl⟩)|((with_reducible refine cO ?hg ?_);(case hg=>with_reducible exact Bb F49_ok);refine tM (c2 _) ?_;rintro _ _ ⟨rfl,rfl⟩)|((with_reducible refine cO ?hg ?_);(case hg=>with_reducible exact Bb F49_ok);refine tM (c3 _) ?_;rintro _ _ ⟨rfl,rfl⟩)
 exact fI_ rfl rfl
mutual
theorem Ux:∀(d:Dat),D9 d->∀h:EH,Tri Tryz.prog gs 30 [.agg (Bs d)] h fun v h'=>v = .agg (Bs d)/\h'=h
 | .mk a b c e g i,hd,h=>ZK (.mk a b c e g i) hd (RL g (by unfold D9 at hd;exact hd.2.2.2.1)) (RL i (by unfold D9 at hd;exact hd.2.2.2.2)) h
theorem RL:∀(l:List Dat),EJ l->∀c∈l,∀h:EH,Tri Tryz.prog gs 30 [.agg (Bs c)] h fun v h'=>v = .agg (Bs c)/\h'=h
 |[],_,c,hc,_=>absurd hc (by simp)
 |d::l,hl,c,hc,h=>by
  unfold EJ at hl;rcases List.mem_cons.1 hc with hc|hc
  ·rw[hc];exact Ux d hl.1 h
  ·exact RL l hl.2 c hc h
end
theorem YH{A:Ar}(hA:A=stdA)(bc x:List EV)(z:Int)(m:Nat)(hx:List.take m (List.drop (z.toNat * m) bc)=x)(hl:x.length=m)(hz:(z.toNat+1)*m<=bc.length):A.setl bc (A.idx 0 z m) x=bc:=by
 subst hA
 show stdA.setl bc (0+z.toNat * m) x=bc
 rw[Nat.zero_add,Gn,hl,<-hx]
 have e:z.toNat * m+m=(z.toNat+1)*m:=by rw[Nat.add_mul,Nat.one_mul]
 conv=>rhs;rw[<-List.take_append_drop (z.toNat * m) bc]
 rw[lA]
 congr 1
 conv=>rhs;rw[<-List.take_append_drop m (List.drop (z.toNat * m) bc),List.drop_drop]
def Vn(f:Fld)(v:EV)(h:EH):Prop:=
 ∃y:EV,v = .agg [.lit (.string f.nm),.lit (.bool f.nul),.lit (.int .i64 f.kind),.lit (.int .i64 f.width),.lit (.int .i64 f.id),.lit (.int .i64 f.idx),y]/\
  (y = .isl f.kids.length none (Bl f.kids)\/(y = .sl 7 2 0 f.kids.length none/\∃a b l,h=a::b :: .blk (Bl f.kids)::l))
theorem Zj(f:Fld)(hsm:Cu f)(ih0:∀c∈f.kids,∀h:EH,Tri Tryz.prog gs 29 [.agg (Bo c)] h fun v h'=>v = .agg (Bo c)/\h'=h) :
  Tri Tryz.prog gs 29 [.agg (Bo f)] [] fun v h'=>Vn f v h':=by
 have hll:=(EY hsm).2
 have hg:=D5 f.kids
 have hcl:=GZ f.kids
 have hcn:=Lx f.kids
 have c0:=zAY f.kids.length (Bl f.kids) (by omega) (by omega) hcl
 have c1:=fun e=>YE f.kids.length (Bl f.kids) e (by omega) (by omega) hcl
 have hmem:∀j,j<f.kids.length->f.kids.getD j BQ∈f.kids:=fun j hj=>Rn hj
 unfold Vn
 rw[BF f]
 generalize hkc:Bl f.kids=kc,hkn:f.kids.length=kn,f.nm=nm,f.nul=nul,f.kind=k,f.width=w,f.id=i,f.idx=ix at *
 refine Bj F29_ok fun I0 ρ0 w0 Q hρ hQ=>?_
 obtain⟨A,hA⟩:∃A,A=stdA:=⟨_,rfl⟩
 by_cases hz:kn=0
 case pos=>
  with_reducible refine Be hA hd hQ 200 ?hk ?_
  case hk=>trivial
  conv=>arg 9;cbv
  try simp only[OK]
  repeat' first|(with_reducible refine OKK.loop ?_)|((with_reducible refine Bd hA hd hQ 200 ?hk ?_);(case hk=>trivial);(conv=>arg 9;cbv);(try simp only[OK]))|((with_reducible refine cO ?hg ?_);(case hg=>with_reducible exact Bb F47_ok);refine tM (c0 _) ?_;rintro _ _ ⟨rfl,rfl⟩)
  refine oK_ (msk 31 [1,2,13,14]) ?_;refine oL_ (fun n st=>∃N:Int,N=0/\st=⟨mkT 31 [(1,.ptr 0 0),(2,.ptr 1 0),(13,.lit (.int .i64 N)),(14,.lit (.int .i64 0))],[.blk [.lit (.string nm),.lit (.bool nul),.lit (.int .i64 k),.lit (.int .i64 w),.lit (.int .i64 i),.lit (.int .i64 ix),.isl kn none kc],.blk [.lit (.string ⟨#[]⟩),.lit (.bool false),.lit (.int .i64 0),.lit (.int .i64 0),.lit (.int .i64 0),.lit (.int .i64 0),.lit (.slice none 0 0)]]⟩) (fun n st hs' ih=>?_) (n:=0) ⟨_,by rw[hA,hz];rfl,rfl⟩
  obtain⟨N,hN,rfl⟩:=hs'
  with_reducible refine Be hA hd hQ 200 ?hk ?_
  case hk=>trivial
  conv=>arg 9;cbv
  try simp only[OK]
  repeat' first|((with_reducible refine⟨fun hbr=>?_,fun hbr=>?_⟩)<;>(try simp(disch:=omega)only[hA,Ba]at hbr)<;>(try (with_reducible exfalso;omega)))|((with_reducible refine Bd hA hd hQ 200 ?hk ?_);(case hk=>trivial);(conv=>arg 9;cbv);(try simp only[OK]))
  exact fI_ rfl ⟨_,rfl,.inl rfl⟩
 case neg=>
  with_reducible refine Be hA hd hQ 200 ?hk ?_
  case hk=>trivial
  conv=>arg 9;cbv
  try simp only[OK]
  repeat' first|(with_reducible refine OKK.loop ?_)|((with_reducible refine Bd hA hd hQ 200 ?hk ?_);(case hk=>trivial);(conv=>arg 9;cbv);(try simp only[OK]))|((with_reducible refine cO ?hg ?_);(case hg=>with_reducible exact Bb F47_ok);refine tM (c1 (by omega) _) ?_;rintro _ _ ⟨rfl,rfl⟩)
  refine oK_ (msk 31 [1,2,13,14]) ?_;refine oL_ (fun n st=>∃(z N:Int) (bc:List EV),st=⟨mkT 31 [(1,.ptr 0 0),(2,.ptr 1 0),(13,.lit (.int .i64 N)),(14,.lit (.int .i64 z))],[.blk [.lit (.string nm),.lit (.bool nul),.lit (.int .i64 k),.lit (.int .i64 w),.lit (.int .i64 i),.lit (.int .i64 ix),.sl 7 2 0 kn none],.blk [.lit (.string ⟨#[]⟩),.lit (.bool false),.lit (.int .i64 0),.lit (.int .i64 0),.lit (.int .i64 0),.lit (.int .i64 0),.lit (.slice none 0 0)],.blk bc]⟩/\N=kn/\bc=kc/\n=(kn-z).toNat/\0<=z/\z<=kn) (fun n st hs' ih=>?_) ⟨0,_,_,rfl,by rw[hA];rfl,rfl,rfl,by omega,by omega⟩
  obtain⟨z,N,bc,rfl,hN,hbc,hn,hz1,hz2⟩:=hs';have hL:Hid (z<kn->List.take 7 (List.drop (A.idx 0 z 7) bc)=Bo (f.kids.getD z.toNat BQ)):=fun hz=>by rw[hA,B3,Nat.zero_add,hbc];exact hg z.toNat (by omega)
  have hc:Hid (z<kn->∀h:EH,Tri Tryz.prog gs 29 [.agg (Bo (f.kids.getD z.toNat BQ))] h fun v h'=>v = .agg (Bo (f.kids.getD z.toNat BQ))/\h'=h):=fun hz=>ih0 _ (hmem _ (by omega))
  have hset:Hid (z<kn->A.setl bc (A.idx 0 z 7) (Bo (f.kids.getD z.toNat BQ))=bc):=fun hz=>YH hA bc _ z 7 (by rw[hbc];exact hg z.toNat (by omega)) (G1 _) (by rw[hbc,hcn];omega)
  rw[BF]at hL hc hset;have hbl:bc.length=7*kn:=by rw[hbc];exact hcn
  generalize f.kids.getD z.toNat BQ=c at *;generalize c.nm=nm',c.nul=nul',c.kind=k',c.width=w',c.id=i',c.idx=x',c.kids.length=kn',Bl c.kids=kc' at *
  with_reducible refine Be hA hd hQ 200 ?hk ?_
  case hk=>trivial
  conv=>arg 9;cbv
  try simp only[OK]
  repeat' first|(with_reducible refine OKK.again ?_)|(with_reducible refine And.intro trivial ?_)|((with_reducible refine⟨fun hbr=>?_,fun hbr=>?_⟩)<;>(try simp(disch:=omega)only[hA,Ba]at hbr)<;>(try (with_reducible exfalso;omega)))|((with_reducible refine Bd hA hd hQ 200 ?hk ?_);(case hk=>trivial);(conv=>arg 9;cbv);(try simp only[OK]))|((with_reducible refine Bp ?hn ?_);(case hn=>((simp(disch:=omega)only[hA,Ba])<;>omega)))|((refine⟨_,_,?l1,(hL.out (by omega)),rfl,?_⟩);(case l1=>exact rfl))|((with_reducible refine cO ?hg ?_);(case hg=>with_reducible exact Bb F29_ok);refine tM (hc.out (by omega) _) ?_;rintro _ _ ⟨rfl,rfl⟩)
  ·refine oK_ (msk 31 [1,2,13,14]) (ih _ _ ⟨A.ib .add .i64 z 1,N,_,rfl,hN,(hset.out (by omega)).trans hbc,rfl,?_,?_⟩ ?_)
   ·simp(disch:=omega)only[hA,Ba];omega
   ·simp(disch:=omega)only[hA,Ba];omega
   ·simp(disch:=omega)only[hA,Ba];omega
  ·exact fI_ rfl ⟨_,rfl,.inr ⟨rfl,_,_,_,by rw[hbc]⟩⟩
theorem W4(f:Fld)(hsm:Cu f)(ih0:∀c∈f.kids,∀h:EH,Tri Tryz.prog gs 29 [.agg (Bo c)] h fun v h'=>v = .agg (Bo c)/\h'=h)(h:EH) :
  Tri Tryz.prog gs 29 [.agg (Bo f)] h fun v h'=>v = .agg (Bo f)/\h'=h:=by
 have t1:=Tri.mv (R':=fun v h'=>∃v',v' = .agg (Bo f)/\Up v v') (Zj f hsm ih0) fun v h' hr=>by
  obtain⟨y,rfl,hy⟩:=hr;rw[BF];rcases hy with rfl|⟨rfl,a,b,l,rfl⟩
  ·exact⟨[],[],rfl,⟨by simp,by simp,by simp⟩,_,rfl,Up.refl _⟩
  ·exact⟨[],[2],rfl,⟨by simp,by simp,fun id hid=>by simp at hid;subst hid;exact⟨_,rfl,GZ _⟩⟩,_,rfl,Up.agg7 (Up.cap _ _ _)⟩
 exact Tri.valA (by rw[BF];rfl) (by rw[BF];rfl) (Tri.up t1 fun v h' ⟨v',h1,h2⟩=>⟨v',h1,h2⟩) h
mutual
theorem Tb:∀(f:Fld),Cu f->∀h:EH,Tri Tryz.prog gs 29 [.agg (Bo f)] h fun v h'=>v = .agg (Bo f)/\h'=h
 | .mk nm nul k w i x kids,hs,h=>W4 (.mk nm nul k w i x kids) hs (T0 kids (EY hs).1) h
theorem T0:∀(l:List Fld),Ey l->∀c∈l,∀h:EH,Tri Tryz.prog gs 29 [.agg (Bo c)] h fun v h'=>v = .agg (Bo c)/\h'=h
 |[],_,c,hc,_=>absurd hc (by simp)
 |f::l,hl,c,hc,h=>by
  unfold Ey at hl;rcases List.mem_cons.1 hc with hc|hc
  ·rw[hc];exact Tb f hl.1 h
  ·exact T0 l hl.2 c hc h
end
def DY(k:Int):TypeId:=
 if k=12\/k=13 then 137 else if k=15\/k=16 then 138 else if k=17 then 139 else if k=18 then 140
 else if k=19 then 141 else if k=20 then 142 else 143
def Io(k:Int):EV:=.iface (DY k) (.agg [])
theorem zBm(k:Int)(h:EH):Tri Tryz.prog gs 46 [.lit (.int .i64 k)] h fun v h'=>v=Io k/\h'=h:=by
 unfold Io DY
 refine Tri.valA rfl rfl (Bj F46_ok fun I0 ρ0 w0 Q hρ hQ=>?_) h
 obtain⟨A,hA⟩:∃A,A=stdA:=⟨_,rfl⟩
 with_reducible refine Be hA hd hQ 200 ?hk ?_
 case hk=>trivial
 conv=>arg 9;cbv
 try simp only[OK]
 repeat' first|((with_reducible refine⟨fun hbr=>?_,fun hbr=>?_⟩)<;>(try simp(disch:=omega)only[hA,Ba]at hbr)<;>(try (with_reducible exfalso;omega)))|((with_reducible refine Bd hA hd hQ 200 ?hk ?_);(case hk=>trivial);(conv=>arg 9;cbv);(try simp only[OK]))
 all_goals
  refine fI_ rfl ?_
  (repeat' split)<;>first|rfl|omega
def B2(f:Fld)(d:Dat)(from' n:Int):List EV:=Bo f++Bs d++[.lit (.int .i64 from'),.lit (.int .i64 n),.lit (.pointer none),Io f.kind]
theorem R9{l m:List EV}(h:clL l=true)(k:clL m=true):clL (l++m)=true:=Dj fun x hx=>by
 rcases List.mem_append.1 hx with hx|hx
 ·exact Et h x hx
 ·exact Et k x hx
theorem Vr(f:Fld)(d:Dat)(a b:Int):clL (B2 f d a b)=true:=R9 (R9 (by rw[BF];rfl) (clA d)) rfl
theorem W8(f:Fld)(d:Dat):Tri Tryz.prog gs 28 [.agg (Bo f),.agg (Bs d),.lit (.pointer none)] [] fun v h'=>v = .ptr 2 0/\∃a b,h'=[a,b,.blk (B2 f d d.ofs d.len)]:=by
 have hf:=zBm f.kind
 unfold B2 Io
 unfold Io at hf
 generalize DY f.kind=fe at *
 rw[BF,BL]
 generalize d.len=len,d.ofs=ofs,d.nuls=nls,d.bufs.length=nb,Bx d.bufs=cb,d.kids.length=nk,Bi d.kids=ck,d.dict.length=nd,Bi d.dict=cd at *
 generalize Bl f.kids=kc,f.kids.length=kn,f.nm=nm,f.nul=nul,f.kind=k,f.width=w,f.id=i,f.idx=ix at *
 refine Bj F28_ok fun I0 ρ0 w0 Q hρ hQ=>?_
 obtain⟨A,hA⟩:∃A,A=stdA:=⟨_,rfl⟩
 with_reducible refine Be hA hd hQ 200 ?hk ?_
 case hk=>trivial
 conv=>arg 9;cbv
 try simp only[OK]
 repeat' first|(with_reducible refine And.intro trivial ?_)|((with_reducible refine Bd hA hd hQ 200 ?hk ?_);(case hk=>trivial);(conv=>arg 9;cbv);(try simp only[OK]))|((with_reducible refine cO ?hg ?_);(case hg=>with_reducible exact Bb F46_ok);refine tM (hf _) ?_;rintro _ _ ⟨rfl,rfl⟩)
 exact fI_ rfl ⟨rfl,_,_,rfl⟩
theorem Ud(f:Fld)(d:Dat)(h:EH):Tri Tryz.prog gs 28 [.agg (Bo f),.agg (Bs d),.lit (.pointer none)] h fun v h'=>v = .iptr (B2 f d d.ofs d.len) 0/\h'=h:=by
 have t1:=Tri.mv (R':=fun v h'=>v = .iptr (B2 f d d.ofs d.len) 0) (W8 f d) fun v h' ⟨hv,a,b,hr⟩=>by
  subst hv;subst hr;exact⟨[],[2],rfl,⟨by simp,by simp,fun id hid=>by simp at hid;subst hid;exact⟨_,rfl,Vr _ _ _ _⟩⟩,rfl⟩
 exact Tri.valA rfl (by rw[BF,BL];rfl) t1 h
def OpV(f:Fld)(d:Dat)(v:EV):Prop:=
 (∃(e a:Int) (pn:Nat) (pc:List EV),e≠0/\v = .tup [.lit (.pointer none),.agg [.lit (.int .i64 e),.isl pn none pc,.lit (.int .i64 a)]]/\¬(B7 f/\BS f d))\/
 (v = .tup [.iptr (B2 f d d.ofs d.len) 0,.agg [.lit (.int .i64 0),.isl 0 none [],.lit (.int .i64 0)]]/\B7 f/\BS f d)
theorem OpV.cl{f:Fld}{d:Dat}{v:EV}(h:OpV f d v):clE v=true:=by
 rcases h with ⟨e,a,pn,pc,_,rfl,_⟩|⟨rfl,_⟩<;>rfl
theorem Zy(f:Fld)(d:Dat)(hok:okF f)(hokd:okA d)(hsd:B7 f/\BS f d->D9 d)(h:EH) :
  Tri Tryz.prog gs 11 [.agg (Bo f),.agg (Bs d)] h fun v h'=>OpV f d v/\h'=h:=by
 have hck:=WU f d hok hokd
 have hcf:Hid (B7 f/\BS f d->∀h:EH,Tri Tryz.prog gs 29 [.agg (Bo f)] h fun v h'=>v = .agg (Bo f)/\h'=h):=fun hm=>Tb f (H0 (Ei hm.1))
 have hcd:Hid (B7 f/\BS f d->∀h:EH,Tri Tryz.prog gs 30 [.agg (Bs d)] h fun v h'=>v = .agg (Bs d)/\h'=h):=fun hm=>Ux d (hsd hm)
 have hop:=Ud f d
 refine Tri.litC (φ:=fun v=>OpV f d v) (fun v hv=>hv.cl) (by rw[BF,BL];rfl) (Tri.up (R:=fun v _=>∃v',OpV f d v'/\Up v v') ?_ fun v h' ⟨v',h1,h2⟩=>⟨v',h1,h2⟩) h
 unfold OpV
 generalize hM:(B7 f/\BS f d)=M at *
 generalize B2 f d d.ofs d.len=AC at *
 rw[BF,BL]at *
 generalize d.len=len,d.ofs=ofs,d.nuls=nls,d.bufs.length=nb,Bx d.bufs=cb,d.kids.length=nk,Bi d.kids=ck,d.dict.length=nd,Bi d.dict=cd at *
 generalize Bl f.kids=kc,f.kids.length=kn,f.nm=nm,f.nul=nul,f.kind=k,f.width=w,f.id=i,f.idx=ix at *
 refine Bj F11_ok fun I0 ρ0 w0 Q hρ hQ=>?_
 obtain⟨A,hA⟩:∃A,A=stdA:=⟨_,rfl⟩
 with_reducible refine Be hA hd hQ 200 ?hk ?_
 case hk=>trivial
 conv=>arg 9;cbv
 try simp only[OK]
 repeat' first|(with_reducible refine And.intro trivial ?_)|((with_reducible refine⟨fun hbr=>?_,fun hbr=>?_⟩)<;>(try simp(disch:=omega)only[hA,Ba]at hbr)<;>(try (with_reducible exfalso;omega)))|((with_reducible refine Bd hA hd hQ 200 ?hk ?_);(case hk=>trivial);(conv=>arg 9;cbv);(try simp only[OK]))|((with_reducible refine cO ?hg ?_);(case hg=>with_reducible exact Bb F27_ok);(refine tM (hck _) fun v hh hx=>?_);(obtain⟨⟨e,a,pn,pc,hv,he⟩,hh'⟩:=hx;subst hv;subst hh'))|((with_reducible refine cO ?hg ?_);(case hg=>with_reducible exact Bb F29_ok);refine tM (hcf.out (he.1 (by omega)) _) ?_;rintro _ _ ⟨rfl,rfl⟩)|((with_reducible refine cO ?hg ?_);(case hg=>with_reducible exact Bb F30_ok);refine tM (hcd.out (he.1 (by omega)) _) ?_;rintro _ _ ⟨rfl,rfl⟩)|((with_reducible refine cO ?hg ?_);(case hg=>with_reducible exact Bb F28_ok);refine tM (hop _) ?_;rintro _ _ ⟨rfl,rfl⟩)
 ·exact fI_ rfl ⟨_,.inl ⟨e,a,pn,pc,by omega,rfl,fun hm=>by have:=he.2 hm;omega⟩,Up.refl _⟩
 ·exact fI_ rfl ⟨_,.inr ⟨rfl,he.1 (by omega)⟩,Up.tup2 (Up.refl _) (Up.agg3 (Up.refl _) (Up.nil []) (Up.refl _))⟩
theorem Ng:∀(l:List Dat),(∀j<l.length,D9 (l.getD j Bf))->EJ l
 |[],_=>by unfold EJ;trivial
 |d::l,h=>by
  unfold EJ;exact⟨h 0 (by simp),Ng l fun j hj=>h (j+1) (by simpa using hj)⟩
theorem zDD:∀(n:Nat) (f:Fld) (d:Dat),Ct f<=n->SubF f->Cu f->okA d->BS f d->D9 d:=by
 intro n
 induction n with
 |zero=>intro f d h;rw[G0]at h;omega
 |succ n ih=>
  intro f d hn hs hsm hok hv;have hz:=Ii hok hv;have e:=Ik hs hz;have hp:=(PM hs hz).2 hv;have hfit1:f.kind=20->f.kids.length=1:=fun e=>by have h:=hs.fits;unfold Cl at h;rw[e]at h;simp at h;omega
  have hall:∀j<(Bv d).length,D9 ((Bv d).getD j Bf):=fun j hj=>by
   obtain⟨p1,p2,p3, -⟩:=Ks hs hsm j (fun e2=>by rw[if_pos e2]at e;omega) (fun e2=>by rw[if_neg e2]at e;omega) hfit1
   exact ih _ _ (by omega) p1 p2 (IF (f:=f) hok j hj) (hp.2.2.1 j hj)
  have hb:=hz.nb;have hk:=hz.nk;have hx:=hz.nd;have hl:=(EY hsm).2;have h3:d.bufs.length<=3:=by unfold Cc at hb;(repeat' split at hb)<;>omega
  unfold Dh at hk;unfold DZ at hx;unfold Bv at hall
  by_cases e19:f.kind=19
  ·rw[if_pos e19]at hk hx
   rw[if_pos (by omega)]at hall
   obtain⟨a1,a2,a3,a4,a5,a6⟩:=d;unfold D9;refine⟨h3,?_,?_,?_,Ng _ hall⟩
   ·show (Dat.kids (.mk a1 a2 a3 a4 a5 a6)).length<=40
    rw[hk];decide
   ·show (Dat.dict (.mk a1 a2 a3 a4 a5 a6)).length<=40
    omega
   ·have:a5=[]:=List.length_eq_zero_iff.1 hk
    rw[this];unfold EJ;trivial
  ·rw[if_neg e19]at hk hx
   rw[if_neg (by omega)]at hall
   obtain⟨a1,a2,a3,a4,a5,a6⟩:=d;have hx1:(Dat.dict (.mk a1 a2 a3 a4 a5 a6)).length=0:=by omega
   have hx0:a6=[]:=List.length_eq_zero_iff.1 hx1;unfold D9;refine⟨h3,?_,by rw[hx0];decide,Ng _ hall,by rw[hx0];unfold EJ;trivial⟩
   show (Dat.kids (.mk a1 a2 a3 a4 a5 a6)).length<=40;rw[hk];split<;>omega
theorem zDl(f:Fld)(d:Dat)(hok:okF f)(hokd:okA d)(h:EH) :
  Tri Tryz.prog gs 11 [.agg (Bo f),.agg (Bs d)] h fun v h'=>OpV f d v/\h'=h:=
 Zy f d hok hokd (fun hm=>zDD _ f d (Nat.le_refl _) (SubF.of hok hm.1) (H0 (Ei hm.1)) hokd hm.2) h
def BT(f:Fld)(d:Dat)(from' n:Int):EV:=.iptr (B2 f d from' n) 0
theorem zBp(f:Fld)(d:Dat)(a b:Int):B2 f d a b=[.lit (.string f.nm),.lit (.bool f.nul),.lit (.int .i64 f.kind),.lit (.int .i64 f.width),.lit (.int .i64 f.id),.lit (.int .i64 f.idx),.isl f.kids.length none (Bl f.kids),
  .lit (.int .i64 d.len),.lit (.int .i64 d.ofs),.lit (.int .i64 d.nuls),.isl d.bufs.length none (Bx d.bufs),.isl d.kids.length none (Bi d.kids),.isl d.dict.length none (Bi d.dict),.lit (.int .i64 a),.lit (.int .i64 b),.lit (.pointer none),.iface (DY f.kind) (.agg [])]:=by
 unfold B2 Io;rw[BF,BL];rfl
structure arrL (f:Fld) (d:Dat) (a b:Int) (c:List EV):Prop where
 kind:∀A,A=stdA->List.take 1 (List.drop (A.add (A.add (A.add 0 0) 2) 0) c)=[.lit (.int .i64 f.kind)]
 width:∀A,A=stdA->List.take 1 (List.drop (A.add (A.add (A.add 0 0) 2) 1) c)=[.lit (.int .i64 f.width)]
 idx:∀A,A=stdA->List.take 1 (List.drop (A.add (A.add (A.add 0 0) 2) 3) c)=[.lit (.int .i64 f.idx)]
 type:∀A,A=stdA->List.take 5 (List.drop (A.add (A.add 0 0) 2) c)=[.lit (.int .i64 f.kind),.lit (.int .i64 f.width),.lit (.int .i64 f.id),.lit (.int .i64 f.idx),.isl f.kids.length none (Bl f.kids)]
 fld:∀A,A=stdA->List.take 7 (List.drop (A.add 0 0) c)=[.lit (.string f.nm),.lit (.bool f.nul),.lit (.int .i64 f.kind),.lit (.int .i64 f.width),.lit (.int .i64 f.id),.lit (.int .i64 f.idx),.isl f.kids.length none (Bl f.kids)]
 dat:∀A,A=stdA->List.take 6 (List.drop (A.add 0 7) c)=[.lit (.int .i64 d.len),.lit (.int .i64 d.ofs),.lit (.int .i64 d.nuls),.isl d.bufs.length none (Bx d.bufs),.isl d.kids.length none (Bi d.kids),.isl d.dict.length none (Bi d.dict)]
 bufs:∀A,A=stdA->List.take 1 (List.drop (A.add (A.add 0 7) 3) c)=[.isl d.bufs.length none (Bx d.bufs)]
 kids:∀A,A=stdA->List.take 1 (List.drop (A.add (A.add 0 7) 4) c)=[.isl d.kids.length none (Bi d.kids)]
 dict:∀A,A=stdA->List.take 1 (List.drop (A.add (A.add 0 7) 5) c)=[.isl d.dict.length none (Bi d.dict)]
 frm:∀A,A=stdA->List.take 1 (List.drop (A.add 0 13) c)=[.lit (.int .i64 a)]
 num:∀A,A=stdA->List.take 1 (List.drop (A.add 0 14) c)=[.lit (.int .i64 b)]
 wtc:∀A,A=stdA->List.take 1 (List.drop (A.add 0 15) c)=[.lit (.pointer none)]
 how:∀A,A=stdA->List.take 1 (List.drop (A.add 0 16) c)=[.iface (DY f.kind) (.agg [])]
theorem C9(f:Fld)(d:Dat)(a b:Int):arrL f d a b (B2 f d a b):=by
 rw[zBp]
 refine⟨?_,?_,?_,?_,?_,?_,?_,?_,?_,?_,?_,?_,?_⟩<;>(intro A hA;subst hA;rfl)
theorem E0(f:Fld)(d:Dat)(a b:Int)(j:Nat)(hj:j<d.bufs.length)(h:EH) :
  Tri Tryz.prog gs 124 [BT f d a b,.lit (.int .i64 j)] h fun v h'=>v=vw (d.buf j)/\h'=h:=by
 have hg:=CA hj
 have h1:=zAE (d.bufs.getD j [])
 have h2:=ZP (d.bufs.getD j [])
 show Tri _ _ _ _ _ fun v h'=>v=vw (d.bufs.getD j [])/\h'=h
 have hl:=C9 f d a b
 have hlb:=hl.bufs
 have hlw:=hl.wtc
 clear hl
 unfold BT vw isB at *
 generalize B2 f d a b=AC at *
 generalize (d.bufs.getD j []).length=bn,Br (d.bufs.getD j [])=bc at *
 obtain⟨j',hj'⟩:∃q:Int,q=j:=⟨_,rfl⟩
 rw[<-hj']
 generalize d.len=len,d.ofs=ofs,d.nuls=nls,d.bufs.length=nb,Bx d.bufs=cb,d.kids.length=nk,Bi d.kids=ck,d.dict.length=nd,Bi d.dict=cd at *
 generalize Bl f.kids=kc,f.kids.length=kn,f.nm=nm,f.nul=nul,f.kind=k,f.width=w,f.id=i,f.idx=ix at *
 refine Tri.litC (φ:=fun v=>v = .agg [.isl bn none bc,.lit (.int .i64 0),.lit (.pointer none)]) (fun v hv=>by rw[hv];rfl) rfl (Bj F124_ok fun I0 ρ0 w0 Q hρ hQ=>?_) h
 obtain⟨A,hA⟩:∃A,A=stdA:=⟨_,rfl⟩
 replace hlb:=hlb A hA
 replace hlw:=hlw A hA
 have l1:List.take 1 (List.drop (A.idx 0 j' 1) cb)=[.isl bn none bc]:=by rw[hA,B3,Nat.zero_add,Nat.mul_one,show j'.toNat=j by omega];exact hg
 with_reducible refine Be hA hd hQ 200 ?hk ?_
 case hk=>trivial
 conv=>arg 9;cbv
 try simp only[OK]
 repeat' first|((with_reducible refine Bd hA hd hQ 200 ?hk ?_);(case hk=>trivial);(conv=>arg 9;cbv);(try simp only[OK]))|((with_reducible refine Bp ?hn ?_);(case hn=>((simp(disch:=omega)only[hA,Ba])<;>omega)))|((refine⟨_,_,?l1,l1,rfl,?_⟩);(case l1=>exact rfl))|((refine⟨_,_,?l1,hlb,rfl,?_⟩);(case l1=>exact rfl))|((refine⟨_,_,?l1,hlw,rfl,?_⟩);(case l1=>exact rfl))|((with_reducible refine cO ?hg ?_);(case hg=>with_reducible exact Bb F132_ok);refine tM (h1 _) ?_;rintro _ _ ⟨rfl,rfl⟩)|((with_reducible refine cO ?hg ?_);(case hg=>with_reducible exact Bb F133_ok);refine tM (h2 _) ?_;rintro _ _ ⟨rfl,rfl⟩)
 exact fI_ rfl rfl
theorem zBK (f : Fld) (d : Dat) (a b : Int) (r : Nat) (hp : Dc f.kind d r) (hrm : (r : Int) ≤ 9223372036854775807) (h : EH) :
    Tri Tryz.prog gs 102 [BT f d a b, .lit (.int .i64 r)] h fun v h' => IsP (BJ f.kind d r = true) v ∧ h' = h := by
  have hv := TR f.kind
  have hcv : Hid (f.kind ≠ 1 → ¬ Cr f.kind → ¬ BJ f.kind d r = true) := fun h1 h2 => by unfold BJ; rw [if_neg h1, if_neg (fun h => h2 h.1)]; simp
  have hc0 : Hid (f.kind ≠ 1 → (d.buf 0).length = 0 → ¬ BJ f.kind d r = true) := fun h1 h2 => by unfold BJ; rw [if_neg h1, if_neg (fun h => h.2 h2)]; simp
  have hc1 : Hid (f.kind = 1 → BJ f.kind d r = true) := fun h1 => by unfold BJ; rw [if_pos h1]
  have hcb : Hid (f.kind ≠ 1 → Cr f.kind → (d.buf 0).length ≠ 0 → (BJ f.kind d r = true ↔ Ch (d.buf 0) r = 0)) := fun h1 h2 h3 => by
    unfold BJ; rw [if_neg h1, if_pos ⟨h2, h3⟩, beq_iff_eq]
  have hn0 : Hid (Cr f.kind → 0 < d.bufs.length) := fun h1 => List.length_pos_iff.2 (hp h1).1
  have hby : Hid (Cr f.kind → ∀ h : EH, Tri Tryz.prog gs 124 [BT f d a b, .lit (.int .i64 (0 : Nat))] h fun v h' => v = vw (d.buf 0) ∧ h' = h) := fun h1 => E0 f d a b 0 (hn0.out h1)
  have hbt : Hid (Cr f.kind → (d.buf 0).length ≠ 0 → ∀ h : EH, Tri Tryz.prog gs 125 [vw (d.buf 0), .lit (.int .i64 (r / 8 : Nat))] h fun v h' => v = .tup [.lit (.int .u8 ((d.buf 0).getD (r / 8) 0 : Nat)), .lit (.int .i64 0)] ∧ h' = h) := fun h1 h2 h => by
    have e := (hp h1).2.2.2 h2
    exact Pb _ _ (hp h1).2.2.1 (by omega) h
  have hlk : Hid (Cr f.kind → ∀ A, A = stdA → List.take 1 (List.drop (A.idx 0 0 1) (Bx d.bufs)) = [isB (d.buf 0)]) := fun h1 A hA => by
    rw [hA]; exact CA (l := d.bufs) (j := 0) (hn0.out h1)
  have hx : Hid (Cr f.kind → (d.buf 0).getD (r / 8) 0 < 256) := fun h1 => (hp h1).2.1.2.get _
  have hbit : Ch (d.buf 0) r = (d.buf 0).getD (r / 8) 0 / 2 ^ (r % 8) % 2 := rfl
  generalize (d.buf 0).getD (r / 8) 0 = x at *
  unfold vw isB at *
  clear hp
  generalize BJ f.kind d r = NN at *
  generalize Cr f.kind = VM at *
  generalize Ch (d.buf 0) r = B1 at *
  generalize (d.buf 0).length = bn, Br (d.buf 0) = bc at *
  have hl := C9 f d a b
  have hlb := hl.bufs
  have hlk1 := hl.kind
  clear hl
  unfold BT at *
  generalize B2 f d a b = AC at *
  generalize d.len = len, d.ofs = ofs, d.nuls = nls, d.bufs.length = nb, Bx d.bufs = cb, d.kids.length = nk, Bi d.kids = ck, d.dict.length = nd, Bi d.dict = cd at *
  generalize Bl f.kids = kc, f.kids.length = kn, f.nm = nm, f.nul = nul, f.kind = k, f.width = w, f.id = i, f.idx = ix at *
  obtain ⟨r', hr'⟩ : ∃ q : Int, q = r := ⟨_, rfl⟩
  obtain ⟨x', hx'⟩ : ∃ q : Int, q = x := ⟨_, rfl⟩
  rw [← hx'] at hbt
  rw [← hr']
  refine Tri.boolC rfl (Bj F102_ok fun I0 ρ0 w0 Q hρ hQ => ?_) h
  obtain ⟨A, hA⟩ : ∃ A, A = stdA := ⟨_, rfl⟩
  replace hlb := hlb A hA
  replace hlk1 := hlk1 A hA
  have hrb : r' ≤ 9223372036854775807 := by omega
  have l0 : Hid (VM → List.take 1 (List.drop (A.idx 0 0 1) cb) = [.isl bn none bc]) := fun h => hlk.out h A hA
  have hbt' : Hid (VM → bn ≠ 0 → ∀ h : EH, Tri Tryz.prog gs 125 [.agg [.isl bn none bc, .lit (.int .i64 0), .lit (.pointer none)], .lit (.int .i64 (A.ib .quo .i64 r' 8))] h fun v h' => v = .tup [.lit (.int .u8 x'), .lit (.int .i64 0)] ∧ h' = h) := fun h1 h2 h => by
    rw [hA, Db r' (by omega) hrb, show r' / 8 = ((r / 8 : Nat) : Int) by omega]
    exact hbt.out h1 h2 h
  have hfin : Hid (VM → stdA.ib .and .u8 (stdA.sh .shr .u8 x' (r' % 8)) 1 = (B1 : Int)) := fun h1 => by
    rw [hbit, hx', show r' % 8 = ((r % 8 : Nat) : Int) by omega]
    exact Ph x (r % 8) (hx.out h1) (by omega)
  with_reducible refine Be hA hd hQ 200 ?hk ?_
  case hk => trivial
  conv => arg 9; cbv
  try simp only [OK]
  repeat' first | ((with_reducible refine ⟨fun hbr => ?_, fun hbr => ?_⟩) <;> (try simp (disch := omega) only [hA, Ba, reduceCtorEq] at hbr) <;> (try (with_reducible exfalso; omega))) | ((with_reducible refine Bd hA hd hQ 200 ?hk ?_); (case hk => trivial); (conv => arg 9; cbv); (try simp only [OK])) | ((with_reducible refine Bp ?hn ?_); (case hn => ((simp (disch := omega) only [hA, Ba, DT]) <;> omega))) | ((refine ⟨_, _, ?l1, (l0.out (by assumption)), rfl, ?_⟩); (case l1 => exact rfl)) | ((refine ⟨_, _, ?l1, hlb, rfl, ?_⟩); (case l1 => exact rfl)) | ((refine ⟨_, _, ?l1, hlk1, rfl, ?_⟩); (case l1 => exact rfl)) | ((with_reducible refine Bp ?hn ?_); (case hn => (have hneed := (hn0.out (by assumption)); (simp (disch := omega) only [hA, Ba]) <;> omega))) | ((with_reducible refine cO ?hg ?_); (case hg => with_reducible exact Bb F121_ok); (refine tM (hv _) fun v hh hx => ?_); (obtain ⟨⟨b, hv, hb⟩, he⟩ := hx; subst hv; subst he; cases b <;> simp (disch := omega) only [bF, true_iff, false_iff, eq_self] at hb) <;> (try (with_reducible exfalso; omega))) | ((with_reducible refine cO ?hg ?_); (case hg => with_reducible exact Bb F124_ok); refine tM (hby.out (by assumption) _) ?_; rintro _ _ ⟨rfl, rfl⟩) | ((with_reducible refine cO ?hg ?_); (case hg => with_reducible exact Bb F125_ok); refine tM (hbt'.out (by assumption) (by omega) _) ?_; rintro _ _ ⟨rfl, rfl⟩)
  all_goals (try (with_reducible refine FinR.self ?_; first | refine FinR.bl rfl ?_ | refine FinR.bs rfl ?_ | refine FinR.blh rfl ?_ rfl | refine FinR.bsh rfl ?_ rfl))
  all_goals (try simp (disch := omega) only [hA, Ba, DT, bF, true_iff, false_iff, eq_self])
  all_goals first
    | exact hc1.out (by assumption)
    | exact hcv.out (by assumption) (by assumption)
    | exact hc0.out (by assumption) (by omega)
    | (have e := hcb.out (by assumption) (by assumption) (by omega)
       have e2 := hfin.out (by assumption)
       refine ⟨fun hh => e.2 ?_, fun hh => ?_⟩
       · have e3 := e2.symm.trans hh
         omega
       · have e3 := e.1 hh
         exact e2.trans (by omega))
    | trace_state
theorem zBV(L n:Int)(h0:0<=n)(h1:n<=L)(h2:L<=9223372036854775807) :
  Tri Tryz.prog gs 103 [.ptr 0 0,.lit (.int .i64 n)] [.blk [.lit (.int .i64 L)]] fun v h'=>∃c',(v = .tup []/\c'=[.lit (.int .i64 (L-n))])/\h'=[.blk c']:=by
 refine Bj F103_ok fun I0 ρ0 w0 Q hρ hQ=>?_
 obtain⟨A,hA⟩:∃A,A=stdA:=⟨_,rfl⟩
 have e:A.ib .sub .i64 L n=L-n:=by simp(disch:=omega)only[hA,Ba]<;>omega
 with_reducible refine Be hA hd hQ 200 ?hk ?_
 case hk=>trivial
 conv=>arg 9;cbv
 try simp only[OK]
 repeat' first|((with_reducible refine⟨fun hbr=>?_,fun hbr=>?_⟩)<;>(try simp(disch:=omega)only[hA,Ba]at hbr)<;>(try (with_reducible exfalso;omega)))|((with_reducible refine Bd hA hd hQ 200 ?hk ?_);(case hk=>trivial);(conv=>arg 9;cbv);(try simp only[OK]))
 all_goals exact fI_ rfl ⟨_,⟨rfl,congrArg (fun x=>[EV.lit (.int .i64 x)]) e⟩,rfl⟩
theorem TP(f:Fld)(d:Dat)(a b:Int)(r:Nat)(most:Int)(hb2:2<=d.bufs.length)(hl:4*r+8<=(d.buf 1).length)(hm:(d.buf 1).length<=65536)(ha:AllB (d.buf 1))
  (h0:0<=Bt d r) (h1:Bt d r<=Bt d (r+1)) (h2:Bt d (r+1)<=most) (h:EH) :
  Tri Tryz.prog gs 156 [BT f d a b,.lit (.int .i64 r),.lit (.int .i64 most)] h fun v h'=>v = .tup [.lit (.int .i64 (Bt d r)),.lit (.int .i64 (Bt d (r+1)))]/\h'=h:=by
 have hby:=E0 f d a b 1 (by omega)
 have s1:=Kk (d.buf 1) (4*r) 4 hm ha (by omega) (by omega)
 have s2:=Kk (d.buf 1) (4*(r+1)) 4 hm ha (by omega) (by omega)
 change ∀h,Tri _ _ _ _ h fun v h'=>v = .tup [.lit (.int .i64 (Bt d r)),.lit (.int .i64 0)]/\h'=h at s1
 change ∀h,Tri _ _ _ _ h fun v h'=>v = .tup [.lit (.int .i64 (Bt d (r+1))),.lit (.int .i64 0)]/\h'=h at s2
 generalize Bt d r=X1,Bt d (r+1)=X2 at *
 unfold vw isB at *
 generalize (d.buf 1).length=bn,Br (d.buf 1)=bc at *
 unfold BT at *
 generalize B2 f d a b=AC at *
 obtain⟨r',hr'⟩:∃q:Int,q=r:=⟨_,rfl⟩
 rw[<-hr']
 refine Tri.valA rfl rfl (Bj F156_ok fun I0 ρ0 w0 Q hρ hQ=>?_) h
 obtain⟨A,hA⟩:∃A,A=stdA:=⟨_,rfl⟩
 have e1:A.ib .mul .i64 4 r'=((4*r:Nat):Int):=by simp(disch:=omega)only[hA,Ba]<;>omega
 have e2:A.ib .add .i64 (A.ib .mul .i64 4 r') 4=((4*(r+1):Nat):Int):=by rw[e1];simp(disch:=omega)only[hA,Ba]<;>omega
 rw[<-e1]at s1
 rw[<-e2]at s2
 clear e1 e2
 with_reducible refine Be hA hd hQ 200 ?hk ?_
 case hk=>trivial
 conv=>arg 9;cbv
 try simp only[OK]
 repeat' first|((with_reducible refine⟨fun hbr=>?_,fun hbr=>?_⟩)<;>(try simp(disch:=omega)only[hA,Ba]at hbr)<;>(try (with_reducible exfalso;omega)))|((with_reducible refine Bd hA hd hQ 200 ?hk ?_);(case hk=>trivial);(conv=>arg 9;cbv);(try simp only[OK]))|((with_reducible refine cO ?hg ?_);(case hg=>with_reducible exact Bb F124_ok);refine tM (hby _) ?_;rintro _ _ ⟨rfl,rfl⟩)|((with_reducible refine cO ?hg ?_);(case hg=>with_reducible exact Bb F158_ok);refine tM (s1 _) ?_;rintro _ _ ⟨rfl,rfl⟩)|((with_reducible refine cO ?hg ?_);(case hg=>with_reducible exact Bb F158_ok);refine tM (s2 _) ?_;rintro _ _ ⟨rfl,rfl⟩)
 exact fI_ rfl rfl
theorem UP(n:Nat)(h:n<256^8):stdA.wr .i64 (n:Int)=B5 8 n:=by
 show IntKind.i64.wrap (n:Int)=_
 simp only[IntKind.wrap,IntKind.signed,IntKind.bits,B5]at *
 simp at h ⊢
 repeat' split
 all_goals omega
theorem JY(b:List Nat)(ha:AllB b)(p w:Nat):BW b p w<256^w:=by
 unfold BW
 have h1:=Hx ((b.drop p).take w) fun x hx=>ha x (List.mem_of_mem_drop (List.mem_of_mem_take hx))
 have h2:((b.drop p).take w).length<=w:=by rw[lK];omega
 exact Nat.lt_of_lt_of_le h1 (Nat.pow_le_pow_right (by decide) h2)
theorem U9(f:Fld)(d:Dat)(a b k:Int)(r:Nat)(hk:3<=k/\k<=11)(hb2:2<=d.bufs.length)(hl:(r+1)*Bk k<=(d.buf 1).length)(hm:(d.buf 1).length<=65536)(ha:AllB (d.buf 1))(h:EH) :
  Tri Tryz.prog gs 168 [BT f d a b,.lit (.int .i64 k),.lit (.int .i64 r)] h fun v h'=>v = .lit (.int .i64 (CI k (d.buf 1) r))/\h'=h:=by
 have hw:Bk k=1\/Bk k=2\/Bk k=4\/Bk k=8:=by
  unfold Bk
  repeat' split
  all_goals omega
 have hwd:∀h:EH,Tri Tryz.prog gs 123 [.lit (.int .i64 k)] h fun v h'=>v = .lit (.int .i64 (Bk k:Nat))/\h'=h:=fun h=>(S5 k h).mono fun v h' ⟨⟨z,hv,hz⟩,he⟩=>⟨by rw[hv,hz],he⟩
 have hby:=E0 f d a b 1 (by omega)
 have hrl:r*Bk k+Bk k<=(d.buf 1).length:=by rw[Nat.add_mul,Nat.one_mul]at hl;exact hl
 have s1:=Kk (d.buf 1) (r*Bk k) (Bk k) hm ha hw hrl
 have s2:=Tc (d.buf 1) (r*Bk k) (Bk k) hm ha hw hrl
 have hu:=JY (d.buf 1) ha (r*Bk k) (Bk k)
 change ∀h,Tri _ _ _ _ h fun v h'=>v = .tup [.lit (.int .i64 (B5 (Bk k) (BW (d.buf 1) (r*Bk k) (Bk k)))),.lit (.int .i64 0)]/\h'=h at s1
 change ∀h,Tri _ _ _ _ h fun v h'=>v = .tup [.lit (.int .u64 (BW (d.buf 1) (r*Bk k) (Bk k):Nat)),.lit (.int .i64 0)]/\h'=h at s2
 have hn1:Hid (k<=6->CI k (d.buf 1) r=B5 (Bk k) (BW (d.buf 1) (r*Bk k) (Bk k))):=fun e=>by unfold CI;rw[if_pos e]
 have hn2:Hid (¬k<=6->CI k (d.buf 1) r=stdA.wr .i64 ((BW (d.buf 1) (r*Bk k) (Bk k):Nat):Int)):=fun e=>by
  have hu8:BW (d.buf 1) (r*Bk k) (Bk k)<256^8:=Nat.lt_of_lt_of_le hu (Nat.pow_le_pow_right (by decide) (by omega))
  rw[UP _ hu8];unfold CI;rw[if_neg e];split
  ·have e8:Bk k=8:=by rename_i e2;unfold Bk;rcases e2 with e2|e2<;>rw[e2]<;>rfl
   rw[e8]
  ·have e4:Bk k<=4:=by
    unfold Bk
    (repeat' split)<;>omega
   have hu4:BW (d.buf 1) (r*Bk k) (Bk k)<256^4:=Nat.lt_of_lt_of_le hu (Nat.pow_le_pow_right (by decide) e4)
   unfold B5;rw[if_pos (by simp at hu4 ⊢;omega)]
 generalize CI k (d.buf 1) r=NK at *
 have hr65:r*Bk k<=65536:=by omega
 generalize hU:BW (d.buf 1) (r*Bk k) (Bk k)=U at *
 obtain⟨u,hu'⟩:∃u:Int,u=U:=⟨_,rfl⟩
 rw[<-hu']at s2 hn2
 generalize B5 (Bk k) U=SU at *
 clear hU hu hl
 unfold vw isB at *
 generalize (d.buf 1).length=bn,Br (d.buf 1)=bc at *
 unfold BT at *
 generalize B2 f d a b=AC at *
 obtain⟨r',hr'⟩:∃q:Int,q=r:=⟨_,rfl⟩
 rw[<-hr']
 obtain⟨w,hw'⟩:∃q:Int,q=Bk k:=⟨_,rfl⟩
 rw[<-hw']at hwd s1 s2
 refine Tri.valA rfl rfl (Bj F168_ok fun I0 ρ0 w0 Q hρ hQ=>?_) h
 obtain⟨A,hA⟩:∃A,A=stdA:=⟨_,rfl⟩
 have e1:A.ib .mul .i64 r' w=((r*Bk k:Nat):Int):=by
  rw[hr',hw',hA];refine(Dq _ _ ?_ ?_).trans (by push_cast;rfl)
  ·have:(0:Int)<=((r*Bk k:Nat):Int):=by omega
   push_cast at this;omega
  ·have:((r*Bk k:Nat):Int)<=65536:=by omega
   push_cast at this;omega
 rw[<-e1]at s1 s2
 clear e1 hrl hr65
 by_cases h6:k<=6
 case pos=>
  obtain rfl:=hn1.out h6
  with_reducible refine Be hA hd hQ 200 ?hk ?_
  case hk=>trivial
  conv=>arg 9;cbv
  try simp only[OK]
  repeat' first|((with_reducible refine⟨fun hbr=>?_,fun hbr=>?_⟩)<;>(try simp(disch:=omega)only[hA,Ba]at hbr)<;>(try (with_reducible exfalso;omega)))|((with_reducible refine Bd hA hd hQ 200 ?hk ?_);(case hk=>trivial);(conv=>arg 9;cbv);(try simp only[OK]))|((with_reducible refine cO ?hg ?_);(case hg=>with_reducible exact Bb F123_ok);refine tM (hwd _) ?_;rintro _ _ ⟨rfl,rfl⟩)|((with_reducible refine cO ?hg ?_);(case hg=>with_reducible exact Bb F124_ok);refine tM (hby _) ?_;rintro _ _ ⟨rfl,rfl⟩)|((with_reducible refine cO ?hg ?_);(case hg=>with_reducible exact Bb F158_ok);refine tM (s1 _) ?_;rintro _ _ ⟨rfl,rfl⟩)
  exact fI_ rfl rfl
 case neg=>
  have e:=hn2.out h6;rw[<-hA]at e;subst e
  with_reducible refine Be hA hd hQ 200 ?hk ?_
  case hk=>trivial
  conv=>arg 9;cbv
  try simp only[OK]
  repeat' first|((with_reducible refine⟨fun hbr=>?_,fun hbr=>?_⟩)<;>(try simp(disch:=omega)only[hA,Ba]at hbr)<;>(try (with_reducible exfalso;omega)))|((with_reducible refine Bd hA hd hQ 200 ?hk ?_);(case hk=>trivial);(conv=>arg 9;cbv);(try simp only[OK]))|((with_reducible refine cO ?hg ?_);(case hg=>with_reducible exact Bb F123_ok);refine tM (hwd _) ?_;rintro _ _ ⟨rfl,rfl⟩)|((with_reducible refine cO ?hg ?_);(case hg=>with_reducible exact Bb F124_ok);refine tM (hby _) ?_;rintro _ _ ⟨rfl,rfl⟩)|((with_reducible refine cO ?hg ?_);(case hg=>with_reducible exact Bb F159_ok);refine tM (s2 _) ?_;rintro _ _ ⟨rfl,rfl⟩)
  exact fI_ rfl rfl
def Bn(d:Dat)(j:Nat):Dat:=(Bv d).getD j Bf
def Hm(f:Fld)(d:Dat)(j:Nat):EV:=BT (Bz f j) (Bn d j) (Bn d j).ofs (Bn d j).len
theorem I4(f:Fld)(d:Dat)(a b:Int)(j:Nat)(hj:j<(Bv d).length)(h1:f.kind=20->j<=1/\f.kids.length=1)(h2:f.kind≠20->j<f.kids.length)(h:EH) :
  Tri Tryz.prog gs 164 [BT f d a b,.lit (.int .i64 j)] h fun v h'=>v=Hm f d j/\h'=h:=by
 have hpf:=V4 f j h1 h2
 have hpa:=Ug d
 have hop:=Ud (Bz f j) (Bn d j)
 have hpk:=C5 (Bv d) j hj
 change _=Bs (Bn d j)at hpk
 have hl:=C9 f d a b
 have hlf:=hl.fld
 have hld:=hl.dat
 have hlw:=hl.wtc
 clear hl
 unfold Hm BT
 rw[BL (Bn d j)]at hop hpk
 rw[BL d]at hpa
 rw[BF f]at hpf
 generalize hV:B2 (Bz f j) (Bn d j) (Bn d j).ofs (Bn d j).len=V at *
 obtain⟨X,hX⟩:∃X,X=Bo (Bz f j):=⟨_,rfl⟩
 rw[<-hX]at hpf hop
 generalize Bn d j=p at *
 generalize p.len=plen,p.ofs=pofs,p.nuls=pnls,p.bufs.length=pnb,Bx p.bufs=pcb,p.kids.length=pnk,Bi p.kids=pck,p.dict.length=pnd,Bi p.dict=pcd at *
 generalize (Bv d).length=np,Bi (Bv d)=pc at *
 generalize B2 f d a b=AC at *
 generalize d.len=len,d.ofs=ofs,d.nuls=nls,d.bufs.length=nb,Bx d.bufs=cb,d.kids.length=nk,Bi d.kids=ck,d.dict.length=nd,Bi d.dict=cd at *
 generalize Bl f.kids=kc,f.kids.length=kn,f.nm=nm,f.nul=nul,f.kind=k,f.width=w,f.id=i,f.idx=ix at *
 obtain⟨j',hj'⟩:∃q:Int,q=j:=⟨_,rfl⟩
 rw[<-hj']at hpf ⊢
 refine Tri.valA rfl rfl (Bj F164_ok fun I0 ρ0 w0 Q hρ hQ=>?_) h
 obtain⟨A,hA⟩:∃A,A=stdA:=⟨_,rfl⟩
 replace hlf:=hlf A hA
 replace hld:=hld A hA
 replace hlw:=hlw A hA
 have lk:List.take 6 (List.drop (A.idx 0 j' 6) pc)=_:=(show A.idx 0 j' 6=j*6 by rw[hA,B3];omega)▸hpk
 clear h1 h2
 with_reducible refine Be hA hd hQ 200 ?hk ?_
 case hk=>trivial
 conv=>arg 9;cbv
 try simp only[OK]
 repeat' first|((with_reducible refine Bd hA hd hQ 200 ?hk ?_);(case hk=>trivial);(conv=>arg 9;cbv);(try simp only[OK]))|((with_reducible refine Bp ?hn ?_);(case hn=>((simp(disch:=omega)only[hA,Ba])<;>omega)))|((refine⟨_,_,?l1,hlf,rfl,?_⟩);(case l1=>exact rfl))|((refine⟨_,_,?l1,hld,rfl,?_⟩);(case l1=>exact rfl))|((refine⟨_,_,?l1,hlw,rfl,?_⟩);(case l1=>exact rfl))|((refine⟨_,_,?l1,lk,rfl,?_⟩);(case l1=>exact rfl))|((with_reducible refine cO ?hg ?_);(case hg=>with_reducible exact Bb F74_ok);refine tM (hpf _) ?_;rintro _ _ ⟨rfl,rfl⟩)|((with_reducible refine cO ?hg ?_);(case hg=>with_reducible exact Bb F73_ok);refine tM (hpa _) ?_;rintro _ _ ⟨rfl,rfl⟩)|((with_reducible refine cO ?hg ?_);(case hg=>with_reducible exact Bb F28_ok);refine tM (hop _) ?_;rintro _ _ ⟨rfl,rfl⟩)
 exact fI_ rfl rfl
theorem zAm(f:Fld)(d:Dat)(a b:Int)(r:Nat)(hk:f.kind=15)(hk1:d.kids.length=1)(hb2:2<=d.bufs.length)(hl:4*r+8<=(d.buf 1).length)(hm:(d.buf 1).length<=65536)(ha:AllB (d.buf 1))
  (h0:0<=Bt d r) (h1:Bt d r<=Bt d (r+1)) (h2:Bt d (r+1)<=(d.kids.getD 0 Bf).len) (h:EH) :
  Tri Tryz.prog gs 163 [BT f d a b,.lit (.int .i64 r)] h fun v h'=>v = .tup [.lit (.int .i64 (Bt d r)),.lit (.int .i64 (Bt d (r+1)))]/\h'=h:=by
 have hbt:=TP f d a b r _ hb2 hl hm ha h0 h1 h2
 have hpk:=Gx d.kids 0 (by omega)
 have hl:=C9 f d a b
 have hlk:=hl.kind
 have hlc:=hl.kids
 clear hl h0 h1 h2 ha hm
 rw[hk]at hlk
 generalize Bt d r=X1,Bt d (r+1)=X2,(d.kids.getD 0 Bf).len=kl at *
 unfold BT at *
 generalize B2 f d a b=AC at *
 rw[hk1]at hlc
 generalize Bi d.kids=ck,(r:Int)=r' at *
 refine Tri.valA rfl rfl (Bj F163_ok fun I0 ρ0 w0 Q hρ hQ=>?_) h
 obtain⟨A,hA⟩:∃A,A=stdA:=⟨_,rfl⟩
 replace hlk:=hlk A hA
 replace hlc:=hlc A hA
 have lk:List.take 1 (List.drop (A.add (A.idx 0 0 6) 0) ck)=_:=(show A.add (A.idx 0 0 6) 0=0*6 by rw[hA];rfl)▸hpk
 with_reducible refine Be hA hd hQ 200 ?hk ?_
 case hk=>trivial
 conv=>arg 9;cbv
 try simp only[OK]
 repeat' first|((with_reducible refine⟨fun hbr=>?_,fun hbr=>?_⟩)<;>(try simp(disch:=omega)only[hA,Ba]at hbr)<;>(try (with_reducible exfalso;omega)))|((with_reducible refine Bd hA hd hQ 200 ?hk ?_);(case hk=>trivial);(conv=>arg 9;cbv);(try simp only[OK]))|((with_reducible refine Bp ?hn ?_);(case hn=>((simp(disch:=omega)only[hA,Ba])<;>omega)))|((refine⟨_,_,?l1,hlk,rfl,?_⟩);(case l1=>exact rfl))|((refine⟨_,_,?l1,hlc,rfl,?_⟩);(case l1=>exact rfl))|((refine⟨_,_,?l1,lk,rfl,?_⟩);(case l1=>exact rfl))|((with_reducible refine cO ?hg ?_);(case hg=>with_reducible exact Bb F156_ok);refine tM (hbt _) ?_;rintro _ _ ⟨rfl,rfl⟩)
 all_goals exact fI_ rfl rfl
theorem zAw(f:Fld)(d:Dat)(a b:Int)(r:Nat)(hk:f.kind=16)(hw:1<=f.width/\f.width<=64)(hr:r<=4096)(h:EH) :
  Tri Tryz.prog gs 163 [BT f d a b,.lit (.int .i64 r)] h fun v h'=>v = .tup [.lit (.int .i64 (r*f.width.toNat:Nat)),.lit (.int .i64 ((r+1)*f.width.toNat:Nat))]/\h'=h:=by
 have hl:=C9 f d a b
 have hlk:=hl.kind
 have hlw:=hl.width
 clear hl
 rw[hk]at hlk
 obtain⟨w,hw'⟩:∃n:Nat,f.width=n:=⟨f.width.toNat,by omega⟩
 rw[hw']at hlw hw ⊢
 rw[Int.toNat_natCast]
 have m1:(r:Int)*w<=4096*64:=Int.mul_le_mul (by omega) (by omega) (by omega) (by omega)
 have m2:((r:Int)+1)*w<=4097*64:=Int.mul_le_mul (by omega) (by omega) (by omega) (by omega)
 have m3:0<=(r:Int)*w:=Int.mul_nonneg (by omega) (by omega)
 have m4:0<=((r:Int)+1)*w:=Int.mul_nonneg (by omega) (by omega)
 have e1:∀A,A=stdA->A.ib .mul .i64 (r:Int) (w:Int)=((r*w:Nat):Int):=fun A hA=>by rw[hA,Dq _ _ (by omega) (by omega)];push_cast;rfl
 have e2:∀A,A=stdA->A.ib .mul .i64 (A.ib .add .i64 (r:Int) 1) (w:Int)=(((r+1)*w:Nat):Int):=fun A hA=>by rw[hA,K5 _ _ (by omega) (by omega),Dq _ _ (by omega) (by omega)];push_cast;rfl
 unfold BT at *
 generalize B2 f d a b=AC at *
 generalize (w:Int)=w',(r:Int)=r',((r*w:Nat):Int)=M1,(((r+1)*w:Nat):Int)=M2 at *
 refine Tri.valA rfl rfl (Bj F163_ok fun I0 ρ0 w0 Q hρ hQ=>?_) h
 obtain⟨A,hA⟩:∃A,A=stdA:=⟨_,rfl⟩
 replace hlk:=hlk A hA
 replace hlw:=hlw A hA
 have e1:=e1 A hA
 have e2:=e2 A hA
 clear m1 m2 m3 m4
 subst e1
 subst e2
 with_reducible refine Be hA hd hQ 200 ?hk ?_
 case hk=>trivial
 conv=>arg 9;cbv
 try simp only[OK]
 repeat' first|((with_reducible refine⟨fun hbr=>?_,fun hbr=>?_⟩)<;>(try simp(disch:=omega)only[hA,Ba,not_true_eq_false]at hbr)<;>(try (with_reducible exfalso;omega)))|((with_reducible refine Bd hA hd hQ 200 ?hk ?_);(case hk=>trivial);(conv=>arg 9;cbv);(try simp only[OK]))|((refine⟨_,_,?l1,hlk,rfl,?_⟩);(case l1=>exact rfl))|((refine⟨_,_,?l1,hlw,rfl,?_⟩);(case l1=>exact rfl))
 all_goals exact fI_ rfl rfl
theorem Ys(f:Fld)(d:Dat)(a b:Int)(r y:Nat)(hk:f.kind=20)(hk1:f.kids.length=1)(hn:(Bv d).length=2)(he:JN (Bn d 0))
  (hy:(y:Int)<(Bn d 0).len) (h1:(r:Int)<CB (Bn d 0) y) (h2:∀j<y,CB (Bn d 0) j<=r) (h:EH) :
  Tri Tryz.prog gs 170 [BT f d a b,.lit (.int .i64 r)] h fun v h'=>v = .lit (.int .i64 y)/\h'=h:=by
 have hp:=I4 f d a b 0 (by omega) (fun e=>⟨by omega,hk1⟩) (fun e=>absurd hk e)
 unfold Hm at hp
 have ef:Bz f 0=Cz:=by unfold Bz;rw[if_pos hk,if_pos rfl]
 rw[ef]at hp
 obtain⟨g1,g2,g3,g4,g5⟩:=he
 unfold Cn at g1
 have hby:=E0 Cz (Bn d 0) (Bn d 0).ofs (Bn d 0).len 1 (by omega)
 have hsg:Hid (∀j:Nat,(j:Int)<(Bn d 0).len->∀h:EH,Tri Tryz.prog gs 158 [vw ((Bn d 0).buf 1),.lit (.int .i64 (4*((Bn d 0).ofs.toNat+j):Nat)),.lit (.int .i64 4)] h fun v h'=>v = .tup [.lit (.int .i64 (CB (Bn d 0) j)),.lit (.int .i64 0)]/\h'=h):=fun j hj=>
  Kk _ (4*((Bn d 0).ofs.toNat+j)) 4 g3 g4 (by omega) (by omega)
 have hl:=C9 Cz (Bn d 0) (Bn d 0).ofs (Bn d 0).len
 have hlf:=hl.frm
 have hln:=hl.num
 clear hl
 unfold vw isB BT at *
 generalize CB (Bn d 0)=ee at *
 generalize ((Bn d 0).buf 1).length=bn,Br ((Bn d 0).buf 1)=bc at *
 generalize B2 f d a b=AC,B2 Cz (Bn d 0) (Bn d 0).ofs (Bn d 0).len=EC at *
 generalize (Bn d 0).ofs=eofs,(Bn d 0).len=elen at *
 obtain⟨r',hr'⟩:∃q:Int,q=r:=⟨_,rfl⟩
 rw[<-hr']at h1 h2 ⊢
 replace h2:=Hid.mk h2
 refine Tri.valA rfl rfl (Bj F170_ok fun I0 ρ0 w0 Q hρ hQ=>?_) h
 obtain⟨A,hA⟩:∃A,A=stdA:=⟨_,rfl⟩
 replace hlf:=hlf A hA
 replace hln:=hln A hA
 with_reducible refine Be hA hd hQ 200 ?hk ?_
 case hk=>trivial
 conv=>arg 9;cbv
 try simp only[OK]
 repeat' first|(with_reducible refine OKK.loop ?_)|((with_reducible refine Bd hA hd hQ 200 ?hk ?_);(case hk=>trivial);(conv=>arg 9;cbv);(try simp only[OK]))|((refine⟨_,_,?l1,hln,rfl,?_⟩);(case l1=>exact rfl))|((with_reducible refine cO ?hg ?_);(case hg=>with_reducible exact Bb F164_ok);refine tM (hp _) ?_;rintro _ _ ⟨rfl,rfl⟩)
 refine oK_ (msk 38 [1,5,14,15]) ?_
 refine oL_ (fun m st=>∃z:Int,st=⟨mkT 38 [(1,.lit (.int .i64 r')),(5,.iptr EC 0),(14,.lit (.int .i64 elen)),(15,.lit (.int .i64 z))],[]⟩/\m=(y-z).toNat/\0<=z/\z<=y) (fun m st hs' ih=>?_) ⟨0,rfl,rfl,by omega,by omega⟩
 obtain⟨z,rfl,hm,hz1,hz2⟩:=hs'
 have hs:∀h:EH,Tri Tryz.prog gs 158 [.agg [.isl bn none bc,.lit (.int .i64 0),.lit (.pointer none)],.lit (.int .i64 (A.ib .mul .i64 4 (A.ib .add .i64 eofs z))),.lit (.int .i64 4)] h fun v h'=>v = .tup [.lit (.int .i64 (ee z.toNat)),.lit (.int .i64 0)]/\h'=h:=fun h=>by
  rw[show A.ib .mul .i64 4 (A.ib .add .i64 eofs z)=((4*(eofs.toNat+z.toNat):Nat):Int) by simp(disch:=omega)only[hA,Ba]<;>omega]
  exact hsg.out z.toNat (by omega) h
 have hlt:Hid (z<y->ee z.toNat<=r'):=fun hz=>h2.out z.toNat (by omega)
 have heq:Hid (z=y->r'<ee z.toNat):=fun hz=>by rw[show z.toNat=y by omega];exact h1
 generalize ee z.toNat=EZ at *
 by_cases hzy:z<y
 case pos=>
  have e:=hlt.out hzy
  with_reducible refine Be hA hd hQ 200 ?hk ?_
  case hk=>trivial
  conv=>arg 9;cbv
  try simp only[OK]
  repeat' first|(with_reducible refine OKK.again ?_)|((with_reducible refine⟨fun hbr=>?_,fun hbr=>?_⟩)<;>(try simp(disch:=omega)only[hA,Ba]at hbr)<;>(try (with_reducible exfalso;omega)))|((with_reducible refine Bd hA hd hQ 200 ?hk ?_);(case hk=>trivial);(conv=>arg 9;cbv);(try simp only[OK]))|((refine⟨_,_,?l1,hlf,rfl,?_⟩);(case l1=>exact rfl))|((with_reducible refine cO ?hg ?_);(case hg=>with_reducible exact Bb F124_ok);refine tM (hby _) ?_;rintro _ _ ⟨rfl,rfl⟩)|((with_reducible refine cO ?hg ?_);(case hg=>with_reducible exact Bb F158_ok);refine tM (hs _) ?_;rintro _ _ ⟨rfl,rfl⟩)
  refine oK_ (msk 38 [1,5,14,15]) (ih _ _ ⟨A.ib .add .i64 z 1,rfl,rfl,?_,?_⟩ ?_)
  ·simp(disch:=omega)only[hA,Ba];omega
  ·simp(disch:=omega)only[hA,Ba];omega
  ·simp(disch:=omega)only[hA,Ba];omega
 case neg=>
  have e:=heq.out (by omega)
  with_reducible refine Be hA hd hQ 200 ?hk ?_
  case hk=>trivial
  conv=>arg 9;cbv
  try simp only[OK]
  repeat' first|((with_reducible refine⟨fun hbr=>?_,fun hbr=>?_⟩)<;>(try simp(disch:=omega)only[hA,Ba]at hbr)<;>(try (with_reducible exfalso;omega)))|((with_reducible refine Bd hA hd hQ 200 ?hk ?_);(case hk=>trivial);(conv=>arg 9;cbv);(try simp only[OK]))|((refine⟨_,_,?l1,hlf,rfl,?_⟩);(case l1=>exact rfl))|((with_reducible refine cO ?hg ?_);(case hg=>with_reducible exact Bb F124_ok);refine tM (hby _) ?_;rintro _ _ ⟨rfl,rfl⟩)|((with_reducible refine cO ?hg ?_);(case hg=>with_reducible exact Bb F158_ok);refine tM (hs _) ?_;rintro _ _ ⟨rfl,rfl⟩)
  exact fI_ rfl (by rw[show (y:Int)=z by omega];rfl)
section
def ReadR(x:Val×Nat)(L:Int)(v:EV)(h':EH):Prop:=∃c',(v = .agg (BK x.1)/\c'=[.lit (.int .i64 (L-(x.2:Nat)))])/\h'=[.blk c']
theorem Gd(L n:Int)(h0:0<=n)(h1:n<=L)(h2:L<=9223372036854775807){id:Nat}{h:EH}(hg:Bh h id = .blk [.lit (.int .i64 L)]) :
  Tri Tryz.prog gs 103 [.ptr id 0,.lit (.int .i64 n)] h fun v h'=>∃z,(v = .tup []/\z=L-n)/\h'=BG h id (.blk [.lit (.int .i64 z)]):=by
 refine(Tri.step (R:=fun V c'=>V = .tup []/\c'=[.lit (.int .i64 (L-n))]) (fun V c' ⟨h1,h2⟩=>by subst h1;subst h2;exact⟨rfl,rfl⟩) (zBV L n h0 h1 h2) rfl rfl hg).mono fun v h' ⟨c',⟨h1,h2⟩,h3⟩=>?_
 subst h2
 exact⟨_,⟨h1,rfl⟩,h3⟩
section
variable {P:Program} {G:List (List EV)}
theorem Tri.drop1{f:FuncId}{args c:List EV}{R:EV->List EV->Prop}(hR:∀V c',R V c'->clE V=true/\clL c'=true)
  (t:Tri P G f args [.blk c] fun v h'=>∃c' tl,R v c'/\h' = .blk c'::tl):Tri P G f args [.blk c] fun v h'=>∃c',R v c'/\h'=[.blk c']:=by
 refine Tri.mv t fun v h' ⟨c',tl,e1,e2⟩=>?_
 obtain⟨k1,k2⟩:=hR _ _ e1
 subst e2
 refine⟨[0],[],rfl,⟨by simp,by simp[Bc],by simp⟩,?_⟩
 rw[Gq _ _ _ k1]
 exact⟨c',e1,by simp[mvH,Bh,mvO,inL,BR _ _ _ k2]⟩
theorem Up.vcell{a b c d d':EV}(h:Up d d'):Up (.agg [a,b,c,d]) (.agg [a,b,c,d']):=fun w I ρ cv hr=>by
 cases hr with
 |agg _ cc vs hl hc=>
  refine .agg _ _ _ (by simpa using hl) fun j x v he hv=>?_
  match j,he with
  |0,he=>simp at he;subst he;exact hc 0 _ v rfl hv
  |1,he=>simp at he;subst he;exact hc 1 _ v rfl hv
  |2,he=>simp at he;subst he;exact hc 2 _ v rfl hv
  |3,he=>simp at he;subst he;exact h w I ρ v (hc 3 _ v rfl hv)
theorem ReadR.of{f:FuncId}{args:List EV}{L n:Int}{s:ByteArray}{w:Nat}
  (t:Tri P G f args [.blk [.lit (.int .i64 L)]] fun v h'=>∃z tl,(v = .agg [.lit (.bool false),.lit (.int .i64 n),.lit (.string s),.lit (.slice none 0 0)]/\z=L-(w:Nat))/\h' = .blk [.lit (.int .i64 z)]::tl) :
  Tri P G f args [.blk [.lit (.int .i64 L)]] (ReadR (.mk false n s [],w) L):=by
 refine Tri.drop1 (R:=fun V c'=>V = .agg (BK (.mk false n s []))/\c'=[.lit (.int .i64 (L-(w:Nat)))]) (fun V c' ⟨h1,h2⟩=>by subst h1;subst h2;exact⟨rfl,rfl⟩) ?_
 refine Tri.up t fun v h' ⟨z,tl,⟨e1,e2⟩,e3⟩=>⟨_,⟨_,tl,⟨rfl,rfl⟩,by rw[e3,e2]⟩,?_⟩
 rw[e1]
 exact Up.vcell (Up.nil _)
end
theorem YB(f:Fld)(d:Dat)(a b:Int)(r:Nat)(L:Int)(hk:3<=f.kind/\f.kind<=11)(hb2:2<=d.bufs.length)(hl:(r+1)*Bk f.kind<=(d.buf 1).length)(hm:(d.buf 1).length<=65536)(ha:AllB (d.buf 1))
  (hL1:16<=L) (hL2:L<=4194304) :
  Tri Tryz.prog gs 171 [.agg [],BT f d a b,.lit (.int .i64 r),.ptr 0 0] [.blk [.lit (.int .i64 L)]] (ReadR (Iz (CI f.kind (d.buf 1) r),16) L):=by
 have hby:=E0 f d a b 1 (by omega)
 have hnm:=U9 f d a b f.kind r hk hb2 hl hm ha
 have hlk:=C9 f d a b
 have hlt:=hlk.type
 have hlk1:=hlk.kind
 clear hlk
 refine ReadR.of ?_
 generalize CI f.kind (d.buf 1) r=NK at *
 unfold vw isB BT at *
 generalize (d.buf 1).length=bn,Br (d.buf 1)=bc at *
 generalize B2 f d a b=AC at *
 generalize Bl f.kids=kc,f.kids.length=kn,f.nm=nm,f.nul=nul,f.kind=k,f.width=w,f.id=i,f.idx=ix at *
 obtain⟨r',hr'⟩:∃q:Int,q=r:=⟨_,rfl⟩
 rw[<-hr']at hnm ⊢
 refine Bj F171_ok fun I0 ρ0 w0 Q hρ hQ=>?_
 obtain⟨A,hA⟩:∃A,A=stdA:=⟨_,rfl⟩
 replace hlt:=hlt A hA
 replace hlk1:=hlk1 A hA
 with_reducible refine Be hA hd hQ 200 ?hk ?_
 case hk=>trivial
 conv=>arg 9;cbv
 try simp only[OK]
 repeat' first|((with_reducible refine⟨fun hbr=>?_,fun hbr=>?_⟩)<;>(try simp(disch:=omega)only[hA,Ba]at hbr)<;>(try (with_reducible exfalso;omega)))|((with_reducible refine Bd hA hd hQ 200 ?hk ?_);(case hk=>trivial);(conv=>arg 9;cbv);(try simp only[OK]))|((refine⟨_,_,?l1,hlt,rfl,?_⟩);(case l1=>exact rfl))|((with_reducible refine cO ?hg ?_);(case hg=>with_reducible exact Bb F124_ok);refine tM (hby _) ?_;rintro _ _ ⟨rfl,rfl⟩)|((with_reducible refine cO ?hg ?_);(case hg=>with_reducible exact Bb F168_ok);refine tM (hnm _) ?_;rintro _ _ ⟨rfl,rfl⟩)|((with_reducible refine cO ?hg ?_);(case hg=>with_reducible exact Bb F103_ok);(refine tM (Gd L 16 (by omega) (by omega) (by omega) rfl) fun v hh hx=>?_);(obtain⟨z,⟨hv,hz⟩,hh⟩:=hx;subst hv;subst hh))
 exact fI_ rfl ⟨_,_,⟨rfl,hz⟩,rfl⟩
theorem zDa(f:Fld)(d:Dat)(a b:Int)(r:Nat)(L:Int)(hk:f.kind=2)(hb2:2<=d.bufs.length)(hl:r/8<(d.buf 1).length)(hm:(d.buf 1).length<=65536)(ha:AllB (d.buf 1))(hL1:16<=L)(hL2:L<=4194304) :
  Tri Tryz.prog gs 171 [.agg [],BT f d a b,.lit (.int .i64 r),.ptr 0 0] [.blk [.lit (.int .i64 L)]] (ReadR (Iz (Ch (d.buf 1) r),16) L):=by
 have hby:=E0 f d a b 1 (by omega)
 have hbt:=fun h=>Pb (d.buf 1) (r/8) hm (by omega) h
 have hx:(d.buf 1).getD (r/8) 0<256:=ha.get _
 have hbit:Ch (d.buf 1) r=(d.buf 1).getD (r/8) 0/2^(r%8)%2:=rfl
 generalize (d.buf 1).getD (r/8) 0=x at *
 generalize Ch (d.buf 1) r=B1 at *
 have hlk:=C9 f d a b
 have hlt:=hlk.type
 have hlk1:=hlk.kind
 clear hlk
 refine ReadR.of ?_
 unfold vw isB BT at *
 generalize hbn:(d.buf 1).length=bn,Br (d.buf 1)=bc at *
 generalize B2 f d a b=AC at *
 generalize Bl f.kids=kc,f.kids.length=kn,f.nm=nm,f.nul=nul,f.kind=k,f.width=w,f.id=i,f.idx=ix at *
 obtain⟨r',hr'⟩:∃q:Int,q=r:=⟨_,rfl⟩
 obtain⟨x',hx'⟩:∃q:Int,q=x:=⟨_,rfl⟩
 rw[<-hx']at hbt
 rw[<-hr']
 refine Bj F171_ok fun I0 ρ0 w0 Q hρ hQ=>?_
 obtain⟨A,hA⟩:∃A,A=stdA:=⟨_,rfl⟩
 replace hlt:=hlt A hA
 replace hlk1:=hlk1 A hA
 have hrb:r'<=9223372036854775807:=by omega
 have hbt':∀h:EH,Tri Tryz.prog gs 125 [.agg [.isl bn none bc,.lit (.int .i64 0),.lit (.pointer none)],.lit (.int .i64 (A.ib .quo .i64 r' 8))] h fun v h'=>v = .tup [.lit (.int .u8 x'),.lit (.int .i64 0)]/\h'=h:=fun h=>by
  rw[hA,Db r' (by omega) hrb,show r'/8=((r/8:Nat):Int) by omega]
  exact hbt h
 have hfin:stdA.ib .and .u8 (stdA.sh .shr .u8 x' (r'%8)) 1=(B1:Int):=by
  rw[hbit,hx',show r'%8=((r%8:Nat):Int) by omega]
  exact Ph x (r%8) hx (by omega)
 with_reducible refine Be hA hd hQ 200 ?hk ?_
 case hk=>trivial
 conv=>arg 9;cbv
 try simp only[OK]
 repeat' first|((with_reducible refine⟨fun hbr=>?_,fun hbr=>?_⟩)<;>(try simp(disch:=omega)only[hA,Ba]at hbr)<;>(try (with_reducible exfalso;omega)))|((with_reducible refine Bd hA hd hQ 200 ?hk ?_);(case hk=>trivial);(conv=>arg 9;cbv);(try simp only[OK]))|((with_reducible refine Bp ?hn ?_);(case hn=>((simp(disch:=omega)only[hA,Ba,DT])<;>omega)))|((refine⟨_,_,?l1,hlt,rfl,?_⟩);(case l1=>exact rfl))|((with_reducible refine cO ?hg ?_);(case hg=>with_reducible exact Bb F124_ok);refine tM (hby _) ?_;rintro _ _ ⟨rfl,rfl⟩)|((with_reducible refine cO ?hg ?_);(case hg=>with_reducible exact Bb F125_ok);refine tM (hbt' _) ?_;rintro _ _ ⟨rfl,rfl⟩)|((with_reducible refine cO ?hg ?_);(case hg=>with_reducible exact Bb F103_ok);(refine tM (Gd L 16 (by omega) (by omega) (by omega) rfl) fun v hh hx=>?_);(obtain⟨z,⟨hv,hz⟩,hh⟩:=hx;subst hv;subst hh))
 have e:A.wr .i64 (A.ib .and .u8 (A.sh .shr .u8 x' (A.ib .rem .i64 r' 8)) 1)=(B1:Int):=by
  rw[hA,DT r' (by omega) hrb,hfin,hbit]
  simp(disch:=omega)only[Ba]<;>omega
 exact fI_ rfl ⟨_,_,⟨congrArg (fun q=>EV.agg [.lit (.bool false),.lit (.int .i64 q),.lit (.string ⟨#[]⟩),.lit (.slice none 0 0)]) e,hz⟩,rfl⟩
theorem WG(f:Fld)(d:Dat)(a b:Int)(r w:Nat)(L:Int)(hk:f.kind=14)(hwf:f.width=w)(hb2:2<=d.bufs.length)(hl:(r+1)*w<=(d.buf 1).length)(hm:(d.buf 1).length<=65536)(ha:AllB (d.buf 1))
  (hw1:w<=65536) (hL1:16+w<=L) (hL2:L<=4194304) :
  Tri Tryz.prog gs 171 [.agg [],BT f d a b,.lit (.int .i64 r),.ptr 0 0] [.blk [.lit (.int .i64 L)]] (ReadR (Gy (txt (d.buf 1) (r*w) ((r+1)*w)),16+w) L):=by
 have hby:=E0 f d a b 1 (by omega)
 have hrl:r*w+w<=(d.buf 1).length:=by rw[Nat.add_mul,Nat.one_mul]at hl;exact hl
 have htx:=Wu (d.buf 1) (r*w) w hm ha hrl
 have hst:txt (d.buf 1) (r*w) ((r+1)*w)=CH (((d.buf 1).drop (r*w)).take w):=by
  unfold txt;rw[show (r+1)*w-r*w=w by rw[Nat.add_mul,Nat.one_mul];omega]
 rw[hst]
 generalize CH (((d.buf 1).drop (r*w)).take w)=S at *
 have hlk:=C9 f d a b
 have hlt:=hlk.type
 have hlk1:=hlk.kind
 clear hlk
 refine ReadR.of ?_
 have hrw:r*w<=65536:=by omega
 unfold vw isB BT at *
 generalize hbn:(d.buf 1).length=bn,Br (d.buf 1)=bc at *
 generalize B2 f d a b=AC at *
 obtain⟨w',hw'⟩:∃q:Int,q=w:=⟨_,rfl⟩
 rw[<-hw']at hwf htx
 generalize Bl f.kids=kc,f.kids.length=kn,f.nm=nm,f.nul=nul,f.kind=k,f.id=i,f.idx=ix at *
 rw[hwf]at hlt
 obtain⟨r',hr'⟩:∃q:Int,q=r:=⟨_,rfl⟩
 rw[<-hr']
 refine Bj F171_ok fun I0 ρ0 w0 Q hρ hQ=>?_
 obtain⟨A,hA⟩:∃A,A=stdA:=⟨_,rfl⟩
 replace hlt:=hlt A hA
 replace hlk1:=hlk1 A hA
 have e1:A.ib .mul .i64 r' w'=((r*w:Nat):Int):=by
  rw[hr',hw',hA];refine(Dq _ _ ?_ ?_).trans (by push_cast;rfl)
  ·have:(0:Int)<=((r*w:Nat):Int):=by omega
   push_cast at this;omega
  ·have:((r*w:Nat):Int)<=65536:=by omega
   push_cast at this;omega
 rw[<-e1]at htx
 clear e1 hrl hl hrw
 with_reducible refine Be hA hd hQ 200 ?hk ?_
 case hk=>trivial
 conv=>arg 9;cbv
 try simp only[OK]
 repeat' first|((with_reducible refine⟨fun hbr=>?_,fun hbr=>?_⟩)<;>(try simp(disch:=omega)only[hA,Ba]at hbr)<;>(try (with_reducible exfalso;omega)))|((with_reducible refine Bd hA hd hQ 200 ?hk ?_);(case hk=>trivial);(conv=>arg 9;cbv);(try simp only[OK]))|((refine⟨_,_,?l1,hlt,rfl,?_⟩);(case l1=>exact rfl))|((with_reducible refine cO ?hg ?_);(case hg=>with_reducible exact Bb F124_ok);refine tM (hby _) ?_;rintro _ _ ⟨rfl,rfl⟩)|((with_reducible refine cO ?hg ?_);(case hg=>with_reducible exact Bb F157_ok);refine tM (htx _) ?_;rintro _ _ ⟨rfl,rfl⟩)|((with_reducible refine cO ?hg ?_);(case hg=>with_reducible exact Bb F103_ok);(refine tM (Gd L 16 (by omega) (by omega) (by omega) rfl) fun v hh hx=>?_);(obtain⟨z,⟨hv,hz⟩,hh⟩:=hx;subst hv;subst hh))|((with_reducible refine cO ?hg ?_);(case hg=>with_reducible exact Bb F103_ok);(refine tM (Gd z w' (by omega) (by omega) (by omega) rfl) fun v hh hx=>?_);(obtain⟨z2,⟨hv,hz2⟩,hh⟩:=hx;subst hv;subst hh))
 all_goals exact fI_ rfl ⟨_,_,⟨rfl,by push_cast;omega⟩,rfl⟩
end
theorem zB1(f:Fld)(d:Dat)(a b:Int)(r:Nat)(L:Int)(hk:f.kind=12\/f.kind=13)(hb3:d.bufs.length=3)(hl:4*r+8<=(d.buf 1).length)(hm:(d.buf 1).length<=65536)(ha:AllB (d.buf 1))
  (hm2:(d.buf 2).length<=65536) (ha2:AllB (d.buf 2)) (h0:0<=Bt d r) (h1:Bt d r<=Bt d (r+1)) (h2:Bt d (r+1)<=(d.buf 2).length)
  (hu:f.kind=12->Utf (Es (d.buf 2) (Bt d r).toNat (Bt d (r+1)).toNat)) (hL1:16+(Bt d (r+1)-Bt d r)<=L) (hL2:L<=4194304) :
  Tri Tryz.prog gs 155 [.agg [],BT f d a b,.lit (.int .i64 r),.ptr 0 0] [.blk [.lit (.int .i64 L)]] (ReadR (Gy (txt (d.buf 2) (Bt d r).toNat (Bt d (r+1)).toNat),16+((Bt d (r+1)).toNat-(Bt d r).toNat)) L):=by
 have hby:=E0 f d a b 2 (by omega)
 have hbe:=fun h=>TP f d a b r (d.buf 2).length (by omega) hl hm ha h0 h1 h2 h
 generalize Bt d r=O1,Bt d (r+1)=O2 at *
 obtain⟨p,hp⟩:∃p:Nat,O1=p:=⟨O1.toNat,by omega⟩
 obtain⟨q,hq⟩:∃q:Nat,O2=q:=⟨O2.toNat,by omega⟩
 subst hp;subst hq
 rw[Int.toNat_natCast,Int.toNat_natCast]at *
 have htx:=Wu (d.buf 2) p (q-p) hm2 ha2 (by omega)
 unfold txt
 have hus:Hid (f.kind=12->∀h:EH,Tri Tryz.prog gs 106 [.lit (.string (CH (((d.buf 2).drop p).take (q-p))))] h fun v h'=>IsP True v/\h'=h):=Hid.mk fun e h=>(zCA _ (by rw[<-GG,Li ((ha2.drop p).take (q-p)),lK,lD];omega) h).mono fun v h' ⟨h1,h2⟩=>by
  rw[Li ((ha2.drop p).take (q-p))]at h1;have e2:Utf (((d.buf 2).drop p).take (q-p))=True:=eq_true (hu e);rw[e2]at h1;exact⟨h1,h2⟩
 generalize CH (((d.buf 2).drop p).take (q-p))=S at *
 have hlk:=C9 f d a b
 have hlt:=hlk.type
 have hlk1:=hlk.kind
 have hlb:=hlk.bufs
 clear hlk
 have hg:=fun A (hA:A=stdA)=>show List.take 1 (List.drop (A.idx 0 2 1) (Bx d.bufs))=[isB (d.buf 2)] by rw[hA];exact CA (l:=d.bufs) (j:=2) (by omega)
 refine ReadR.of ?_
 unfold vw isB BT at *
 generalize hbn:(d.buf 2).length=bn,Br (d.buf 2)=bc at *
 generalize B2 f d a b=AC at *
 generalize Bl f.kids=kc,f.kids.length=kn,f.nm=nm,f.nul=nul,f.kind=k,f.width=w,f.id=i,f.idx=ix at *
 generalize d.bufs.length=nb,Bx d.bufs=cb at *
 obtain⟨r',hr'⟩:∃q:Int,q=r:=⟨_,rfl⟩
 rw[<-hr']at hbe ⊢
 obtain⟨p',hp'⟩:∃q:Int,q=p:=⟨_,rfl⟩
 obtain⟨q',hq'⟩:∃x:Int,x=q:=⟨_,rfl⟩
 rw[<-hp']at hbe htx
 rw[<-hq']at hbe
 refine Bj F155_ok fun I0 ρ0 w0 Q hρ hQ=>?_
 obtain⟨A,hA⟩:∃A,A=stdA:=⟨_,rfl⟩
 replace hlt:=hlt A hA
 replace hlk1:=hlk1 A hA
 replace hlb:=hlb A hA
 replace hg:=hg A hA
 rw[show (bn:Int)=A.ofn bn by rw[hA];rfl]at hbe
 have e1:A.ib .sub .i64 q' p'=((q-p:Nat):Int):=by simp(disch:=omega)only[hA,Ba]<;>omega
 have e2:A.ib .sub .i64 (A.ib .add .i64 16 q') p'=((16+(q-p):Nat):Int):=by simp(disch:=omega)only[hA,Ba]<;>omega
 rw[<-e1]at htx
 have hwg:=fun(h:EH) (hg:Bh h 0 = .blk [.lit (.int .i64 L)])=>Gd L ((16+(q-p):Nat):Int) (by omega) (by omega) (by omega) hg
 rw[<-e2]at hwg
 clear e1
 with_reducible refine Be hA hd hQ 200 ?hk ?_
 case hk=>trivial
 conv=>arg 9;cbv
 try simp only[OK]
 repeat' first|((with_reducible refine⟨fun hbr=>?_,fun hbr=>?_⟩)<;>(try simp(disch:=omega)only[hA,Ba,reduceCtorEq]at hbr)<;>(try (with_reducible exfalso;omega)))|((with_reducible refine Bd hA hd hQ 200 ?hk ?_);(case hk=>trivial);(conv=>arg 9;cbv);(try simp only[OK]))|((with_reducible refine Bp ?hn ?_);(case hn=>((simp(disch:=omega)only[hA,Ba])<;>omega)))|((refine⟨_,_,?l1,hlk1,rfl,?_⟩);(case l1=>exact rfl))|((refine⟨_,_,?l1,hlb,rfl,?_⟩);(case l1=>exact rfl))|((refine⟨_,_,?l1,hg,rfl,?_⟩);(case l1=>exact rfl))|((with_reducible refine cO ?hg ?_);(case hg=>with_reducible exact Bb F156_ok);refine tM (hbe _) ?_;rintro _ _ ⟨rfl,rfl⟩)|((with_reducible refine cO ?hg ?_);(case hg=>with_reducible exact Bb F124_ok);refine tM (hby _) ?_;rintro _ _ ⟨rfl,rfl⟩)|((with_reducible refine cO ?hg ?_);(case hg=>with_reducible exact Bb F157_ok);refine tM (htx _) ?_;rintro _ _ ⟨rfl,rfl⟩)|((with_reducible refine cO ?hg ?_);(case hg=>with_reducible exact Bb F106_ok);(refine tM (hus.out (by omega) _) fun v hh hx=>?_);(obtain⟨⟨b,hv,hb⟩,he⟩:=hx;subst hv;subst he;cases b<;>simp(disch:=omega)only[bF,false_iff,eq_self]at hb)<;>(try (with_reducible exfalso;omega)))|((with_reducible refine cO ?hg ?_);(case hg=>with_reducible exact Bb F103_ok);(refine tM (hwg _ rfl) fun v hh hx=>?_);(obtain⟨z,⟨hv,hz⟩,hh⟩:=hx;subst hv;subst hh))
 all_goals first
  |exact absurd trivial (show ¬True by assumption)
  |(refine fI_ rfl ?_;exact⟨_,_,⟨rfl,hz.trans (congrArg (L - ·) e2)⟩,rfl⟩)
theorem Wv(v:Val):clE (.agg (BK v))=true:=by cases v;rfl
theorem ReadR.at{P:Program}{G:List (List EV)}{f:FuncId}{pre:List EV}{L:Int}{x:Val×Nat}(t:Tri P G f (pre++[.ptr 0 0]) [.blk [.lit (.int .i64 L)]] (ReadR x L))(hq:clL pre=true)
  {id:Nat} {h:EH} (hg:Bh h id = .blk [.lit (.int .i64 L)]) :
  Tri P G f (pre++[.ptr id 0]) h fun v h'=>∃z,(v = .agg (BK x.1)/\z=L-(x.2:Nat))/\h'=BG h id (.blk [.lit (.int .i64 z)]):=by
 refine(Tri.stepA (R:=fun V c'=>V = .agg (BK x.1)/\c'=[.lit (.int .i64 (L-(x.2:Nat)))]) (fun V c' ⟨h1,h2⟩=>by subst h1;subst h2;exact⟨Wv _,rfl⟩) t hq rfl rfl hg).mono fun v h' ⟨c',⟨h1,h2⟩,h3⟩=>?_
 subst h2
 exact⟨_,⟨h1,rfl⟩,h3⟩
def OwnR(f:Fld)(d:Dat):Prop:=∀(i:Nat) (L:Int),(i:Int)<d.len->((BB f d (d.ofs.toNat+i)).2:Int)<=L->L<=4194304->
 Tri Tryz.prog gs 51 [BT f d d.ofs d.len,.lit (.int .i64 i),.ptr 0 0] [.blk [.lit (.int .i64 L)]] (ReadR (BB f d (d.ofs.toNat+i)) L)
theorem OwnR.at{f:Fld}{d:Dat}(h:OwnR f d){i:Nat}{L:Int}(hi:(i:Int)<d.len)(h1:((BB f d (d.ofs.toNat+i)).2:Int)<=L)(h2:L<=4194304){id:Nat}{hp:EH}(hg:Bh hp id = .blk [.lit (.int .i64 L)]) :
  Tri Tryz.prog gs 51 [BT f d d.ofs d.len,.lit (.int .i64 i),.ptr id 0] hp fun v h'=>∃z,(v = .agg (BK (BB f d (d.ofs.toNat+i)).1)/\z=L-((BB f d (d.ofs.toNat+i)).2:Nat))/\h'=BG hp id (.blk [.lit (.int .i64 z)]):=
 ReadR.at (pre:=[BT f d d.ofs d.len,.lit (.int .i64 i)]) (h i L hi h1 h2) rfl hg
theorem ReadR.own{P:Program}{G:List (List EV)}{f:FuncId}{args:List EV}{L:Int}{x:Val×Nat}
  (t:Tri P G f args [.blk [.lit (.int .i64 L)]] fun v h'=>∃z tl,(v = .agg (BK x.1)/\z=L-(x.2:Nat))/\h' = .blk [.lit (.int .i64 z)]::tl):Tri P G f args [.blk [.lit (.int .i64 L)]] (ReadR x L):=
 Tri.drop1 (R:=fun V c'=>V = .agg (BK x.1)/\c'=[.lit (.int .i64 (L-(x.2:Nat)))]) (fun V c' ⟨h1,h2⟩=>by subst h1;subst h2;exact⟨Wv _,rfl⟩)
  (t.mono fun v h' ⟨z,tl,⟨e1,e2⟩,e3⟩=>⟨_,tl,⟨e1,rfl⟩,by rw[e3,e2]⟩)
theorem zBA(f:Fld)(d:Dat)(a b:Int)(r y:Nat)(L:Int)(hk:f.kind=20)(hk1:f.kids.length=1)(hn:(Bv d).length=2)
  (hrun:∀h:EH,Tri Tryz.prog gs 170 [BT f d a b,.lit (.int .i64 r)] h fun v h'=>v = .lit (.int .i64 y)/\h'=h)
  (how:OwnR (Bz f 1) (Bn d 1)) (hy:(y:Int)<(Bn d 1).len) (hL1:((BB (Bz f 1) (Bn d 1) ((Bn d 1).ofs.toNat+y)).2:Int)<=L) (hL2:L<=4194304) :
  Tri Tryz.prog gs 169 [.agg [],BT f d a b,.lit (.int .i64 r),.ptr 0 0] [.blk [.lit (.int .i64 L)]] (ReadR (BB (Bz f 1) (Bn d 1) ((Bn d 1).ofs.toNat+y)) L):=by
 have hp:=I4 f d a b 1 (by omega) (fun e=>⟨by omega,hk1⟩) (fun e=>absurd hk e)
 unfold Hm at hp
 have ho:=fun(h:EH) (hg:Bh h 0 = .blk [.lit (.int .i64 L)])=>how.at hy hL1 hL2 hg
 refine ReadR.own ?_
 unfold BT at *
 generalize BB (Bz f 1) (Bn d 1) ((Bn d 1).ofs.toNat+y)=X at *
 obtain⟨⟨vb,vn,vt,vl⟩,W⟩:=X
 simp only[BK]at ho hL1 ⊢
 clear how
 generalize vl.length=ln,BE vl=lc at *
 generalize B2 f d a b=AC,B2 (Bz f 1) (Bn d 1) (Bn d 1).ofs (Bn d 1).len=PC at *
 obtain⟨r',hr'⟩:∃q:Int,q=r:=⟨_,rfl⟩
 obtain⟨y',hy'⟩:∃q:Int,q=y:=⟨_,rfl⟩
 rw[<-hr']at hrun ⊢
 rw[<-hy']at hrun ho
 refine Bj F169_ok fun I0 ρ0 w0 Q hρ hQ=>?_
 obtain⟨A,hA⟩:∃A,A=stdA:=⟨_,rfl⟩
 with_reducible refine Be hA hd hQ 200 ?hk ?_
 case hk=>trivial
 conv=>arg 9;cbv
 try simp only[OK]
 repeat' first|((with_reducible refine Bd hA hd hQ 200 ?hk ?_);(case hk=>trivial);(conv=>arg 9;cbv);(try simp only[OK]))|((with_reducible refine cO ?hg ?_);(case hg=>with_reducible exact Bb F164_ok);refine tM (hp _) ?_;rintro _ _ ⟨rfl,rfl⟩)|((with_reducible refine cO ?hg ?_);(case hg=>with_reducible exact Bb F170_ok);refine tM (hrun _) ?_;rintro _ _ ⟨rfl,rfl⟩)|((with_reducible refine cO ?hg ?_);(case hg=>with_reducible exact Bb F51_ok);(refine tM (ho _ rfl) fun v hh hx=>?_);(obtain⟨z,⟨hv,hz⟩,hh⟩:=hx;subst hv;subst hh))
 refine fI_ rfl ?_
 exact⟨_,_,⟨rfl,hz⟩,rfl⟩
theorem zAU(f:Fld)(d:Dat)(a b:Int)(r y:Nat)(L:Int)(hk:f.kind=19)(hk1:0<f.kids.length)(hn:0<d.dict.length)
  (hnm:∀h:EH,Tri Tryz.prog gs 168 [BT f d a b,.lit (.int .i64 f.idx),.lit (.int .i64 r)] h fun v h'=>v = .lit (.int .i64 y)/\h'=h)
  (hpl:0<=(Bn d 0).len/\(Bn d 0).len<=4096) (hpd:Bn d 0=d.dict.getD 0 Bf)
  (how:OwnR (Bz f 0) (Bn d 0)) (hy:(y:Int)<(Bn d 0).len) (hL1:((BB (Bz f 0) (Bn d 0) ((Bn d 0).ofs.toNat+y)).2:Int)<=L) (hL2:L<=4194304) :
  Tri Tryz.prog gs 167 [.agg [],BT f d a b,.lit (.int .i64 r),.ptr 0 0] [.blk [.lit (.int .i64 L)]] (ReadR (BB (Bz f 0) (Bn d 0) ((Bn d 0).ofs.toNat+y)) L):=by
 have hp:=I4 f d a b 0 (by unfold Bv;rw[if_pos (by omega)];exact hn) (fun e=>absurd e (by omega)) (fun _=>hk1)
 unfold Hm at hp
 have ho:=fun(h:EH) (hg:Bh h 0 = .blk [.lit (.int .i64 L)])=>how.at hy hL1 hL2 hg
 have hlen:=Gx d.dict 0 hn
 rw[<-hpd]at hlen
 have hlk:=C9 f d a b
 have hli:=hlk.idx
 have hld:=hlk.dict
 clear hlk
 refine ReadR.own ?_
 unfold BT at *
 generalize BB (Bz f 0) (Bn d 0) ((Bn d 0).ofs.toNat+y)=X at *
 obtain⟨⟨vb,vn,vt,vl⟩,W⟩:=X
 simp only[BK]at ho hL1 ⊢
 clear how hpd
 generalize vl.length=ln,BE vl=lc at *
 generalize B2 f d a b=AC,B2 (Bz f 0) (Bn d 0) (Bn d 0).ofs (Bn d 0).len=PC at *
 generalize (Bn d 0).len=PL at *
 generalize f.idx=ix,f.kind=k at *
 generalize d.dict.length=nd,Bi d.dict=cd at *
 obtain⟨r',hr'⟩:∃q:Int,q=r:=⟨_,rfl⟩
 obtain⟨y',hy'⟩:∃q:Int,q=y:=⟨_,rfl⟩
 rw[<-hr']at hnm ⊢
 rw[<-hy']at hnm ho hy
 refine Bj F167_ok fun I0 ρ0 w0 Q hρ hQ=>?_
 obtain⟨A,hA⟩:∃A,A=stdA:=⟨_,rfl⟩
 replace hli:=hli A hA
 replace hld:=hld A hA
 have hlen':List.take 1 (List.drop (A.add (A.idx 0 0 6) 0) cd)=[.lit (.int .i64 PL)]:=by rw[hA];exact hlen
 have hu:∀x:Int,0<=x->x<=4096->stdA.wr .u64 x=x:=fun x h1 h2=>by
  show IntKind.u64.wrap x=_;simp only[IntKind.wrap,IntKind.signed,IntKind.bits];simp;omega
 have eu1:=hu y' (by omega) (by omega)
 have eu2:=hu PL (by omega) (by omega)
 clear hu
 have e1:A.wr .i64 (A.wr .u64 y')=y':=by
  rw[hA,eu1];show IntKind.i64.wrap y'=_;simp only[IntKind.wrap,IntKind.signed,IntKind.bits];simp;omega
 have ho':=ho
 rw[<-e1]at ho'
 with_reducible refine Be hA hd hQ 200 ?hk ?_
 case hk=>trivial
 conv=>arg 9;cbv
 try simp only[OK]
 repeat' first|((with_reducible refine⟨fun hbr=>?_,fun hbr=>?_⟩)<;>(try simp(disch:=omega)only[hA,Ba,eu1,eu2]at hbr)<;>(try (with_reducible exfalso;omega)))|((with_reducible refine Bd hA hd hQ 200 ?hk ?_);(case hk=>trivial);(conv=>arg 9;cbv);(try simp only[OK]))|((with_reducible refine Bp ?hn ?_);(case hn=>((simp(disch:=omega)only[hA,Ba])<;>omega)))|((refine⟨_,_,?l1,hli,rfl,?_⟩);(case l1=>exact rfl))|((refine⟨_,_,?l1,hld,rfl,?_⟩);(case l1=>exact rfl))|((refine⟨_,_,?l1,hlen',rfl,?_⟩);(case l1=>exact rfl))|((with_reducible refine cO ?hg ?_);(case hg=>with_reducible exact Bb F164_ok);refine tM (hp _) ?_;rintro _ _ ⟨rfl,rfl⟩)|((with_reducible refine cO ?hg ?_);(case hg=>with_reducible exact Bb F168_ok);refine tM (hnm _) ?_;rintro _ _ ⟨rfl,rfl⟩)|((with_reducible refine cO ?hg ?_);(case hg=>with_reducible exact Bb F51_ok);(refine tM (ho' _ rfl) fun v hh hx=>?_);(obtain⟨z,⟨hv,hz⟩,hh⟩:=hx;subst hv;subst hh))
 all_goals (refine fI_ rfl ?_;exact⟨_,_,⟨rfl,hz⟩,rfl⟩)
theorem ReadR.lst{P:Program}{G:List (List EV)}{f:FuncId}{args:List EV}{L n:Int}{l:List Val}{w:Nat}
  (t:Tri P G f args [.blk [.lit (.int .i64 L)]] fun v h'=>∃z tl id cap Z,(v = .agg [.lit (.bool false),.lit (.int .i64 n),.lit (.string ⟨#[]⟩),.sl 4 id 0 l.length cap]/\z=L-(w:Nat))/\h' = .blk [.lit (.int .i64 z)]::tl/\
   Bh h' id = .blk Z/\id≠0/\Z.take (4*l.length)=BE l/\clL Z=true) :
  Tri P G f args [.blk [.lit (.int .i64 L)]] (ReadR (.mk false n ⟨#[]⟩ l,w) L):=by
 refine Tri.up (R:=fun v h'=>∃cap Z,(v = .agg [.lit (.bool false),.lit (.int .i64 n),.lit (.string ⟨#[]⟩),.isl l.length cap Z]/\Z.take (4*l.length)=BE l)/\h'=[.blk [.lit (.int .i64 (L-(w:Nat)))]]) (Tri.mv t fun v h' hx=>?_) (fun v h' ⟨cap,Z,⟨h1,h2⟩,h3⟩=>?_)
 ·obtain⟨z,tl,id,cap,Z,⟨rfl,rfl⟩,rfl,hg,hid,hz,hc⟩:=hx
  refine⟨[0],[id],rfl,⟨by simp,by simp[Bc],fun i hi=>?_⟩,cap,Z,⟨?_,hz⟩,?_⟩
  ·simp at hi;subst hi;exact⟨_,hg,hc⟩
  ·simp[mvE,mvL,mvG,mvZ,inL,hg]
  ·simp[mvH,Bh,mvO,inL,hid,mvL,mvE]
 ·subst h1
  refine⟨_,⟨_,⟨rfl,rfl⟩,h3⟩,?_⟩;show Up _ (.agg [.lit (.bool false),.lit (.int .i64 n),.lit (.string ⟨#[]⟩),.isl l.length none (BE l)]);rw[<-h2];exact Up.vcell (Up.trans (Up.cap _ _ _) (Up.pre _ _ _ _))
theorem zCX(f:Fld)(d:Dat)(a b:Int)(r c y:Nat)(L:Int)(hk:f.kind=18)(hk1:c<f.kids.length)(hn:c<d.kids.length)(hpa:Bv d=d.kids)(hb2:d.bufs.length=2)
  (h0:r<(d.buf 0).length) (hm0:(d.buf 0).length<=65536) (hc:c=(d.buf 0).getD r 0) (hl:4*r+4<=(d.buf 1).length) (hm:(d.buf 1).length<=65536) (ha:AllB (d.buf 1)) (hy0:Bt d r=y) (hnk:d.kids.length<=128)
  (how:OwnR (Bz f c) (Bn d c)) (hy:(y:Int)<(Bn d c).len) (hL1:16+((BB (Bz f c) (Bn d c) ((Bn d c).ofs.toNat+y)).2:Int)<=L) (hL2:L<=4194304) :
  Tri Tryz.prog gs 166 [.agg [],BT f d a b,.lit (.int .i64 r),.ptr 0 0] [.blk [.lit (.int .i64 L)]] (ReadR (EG c [(BB (Bz f c) (Bn d c) ((Bn d c).ofs.toNat+y)).1],16+(BB (Bz f c) (Bn d c) ((Bn d c).ofs.toNat+y)).2) L):=by
 have hp:=I4 f d a b c (by rw[hpa];exact hn) (fun e=>absurd e (by omega)) (fun _=>hk1)
 unfold Hm at hp
 have ho:=fun(z:Int) (hz:z=L-16) (h:EH) (hg:Bh h 0 = .blk [.lit (.int .i64 z)])=>how.at (L:=z) hy (by omega) (by omega) hg
 have hlen:=Gx d.kids c hn
 rw[show d.kids.getD c Bf=Bn d c by unfold Bn;rw[hpa]]at hlen
 have hby0:=E0 f d a b 0 (by omega)
 have hby1:=E0 f d a b 1 (by omega)
 have hbt:=fun h=>Pb (d.buf 0) r hm0 (by omega) h
 rw[<-hc]at hbt
 have s1:=Kk (d.buf 1) (4*r) 4 hm ha (by omega) (by omega)
 change ∀h,Tri _ _ _ _ h fun v h'=>v = .tup [.lit (.int .i64 (Bt d r)),.lit (.int .i64 0)]/\h'=h at s1
 rw[hy0]at s1
 have hlk:=C9 f d a b
 have hld:=hlk.kids
 clear hlk
 refine ReadR.lst ?_
 unfold vw isB BT at *
 generalize BB (Bz f c) (Bn d c) ((Bn d c).ofs.toNat+y)=X at *
 obtain⟨⟨vb,vn,vt,vl⟩,W⟩:=X
 simp only[BK,BE,List.append_nil]at ho hL1 ⊢
 clear how hpa
 generalize vl.length=ln,BE vl=lc at *
 generalize B2 f d a b=AC,B2 (Bz f c) (Bn d c) (Bn d c).ofs (Bn d c).len=PC at *
 generalize (Bn d c).len=PL at *
 generalize d.kids.length=nk,Bi d.kids=ck at *
 generalize (d.buf 0).length=b0n,Br (d.buf 0)=b0c,(d.buf 1).length=bn,Br (d.buf 1)=bc at *
 obtain⟨r',hr'⟩:∃q:Int,q=r:=⟨_,rfl⟩
 obtain⟨y',hy'⟩:∃q:Int,q=y:=⟨_,rfl⟩
 obtain⟨c',hc'⟩:∃q:Int,q=c:=⟨_,rfl⟩
 rw[<-hr']at hbt ⊢
 rw[<-hy']at s1 ho hy
 rw[<-hc']at hbt hp ⊢
 refine Bj F166_ok fun I0 ρ0 w0 Q hρ hQ=>?_
 obtain⟨A,hA⟩:∃A,A=stdA:=⟨_,rfl⟩
 replace hld:=hld A hA
 have e1:A.ib .mul .i64 4 r'=((4*r:Nat):Int):=by simp(disch:=omega)only[hA,Ba]<;>omega
 rw[<-e1]at s1
 have ec:A.wr .i64 c'=c':=by
  rw[hA];show IntKind.i64.wrap c'=_;simp only[IntKind.wrap,IntKind.signed,IntKind.bits];simp;omega
 have hlen':List.take 1 (List.drop (A.add (A.idx 0 c' 6) 0) ck)=[.lit (.int .i64 PL)]:=by
  rw[hA,hc',B3,show (stdA.add (0+((c:Nat):Int).toNat * 6) 0)=c*6 by show (0+((c:Nat):Int).toNat * 6)+0=c*6;rw[Int.toNat_natCast];omega]
  exact hlen
 have hp':=hp
 rw[<-ec]at hp'
 with_reducible refine Be hA hd hQ 200 ?hk ?_
 case hk=>trivial
 conv=>arg 9;cbv
 try simp only[OK]
 repeat' first|((with_reducible refine⟨fun hbr=>?_,fun hbr=>?_⟩)<;>(try simp(disch:=omega)only[hA,Ba]at hbr)<;>(try (with_reducible exfalso;omega)))|((with_reducible refine Bd hA hd hQ 200 ?hk ?_);(case hk=>trivial);(conv=>arg 9;cbv);(try simp only[OK]))|((with_reducible refine Bp ?hn ?_);(case hn=>((simp(disch:=omega)only[hA,Ba])<;>omega)))|((refine⟨_,_,?l1,hld,rfl,?_⟩);(case l1=>exact rfl))|((refine⟨_,_,?l1,hlen',rfl,?_⟩);(case l1=>exact rfl))|((with_reducible refine cO ?hg ?_);(case hg=>with_reducible exact Bb F164_ok);refine tM (hp' _) ?_;rintro _ _ ⟨rfl,rfl⟩)|((with_reducible refine cO ?hg ?_);(case hg=>with_reducible exact Bb F103_ok);(refine tM (Gd L 16 (by omega) (by omega) (by omega) rfl) fun v hh hx=>?_);(obtain⟨z,⟨hv,hz⟩,hh⟩:=hx;subst hv;subst hh))|((with_reducible refine cO ?hg ?_);(case hg=>with_reducible exact Bb F51_ok);(refine tM (ho _ (by assumption) _ rfl) fun v hh hx=>?_);(obtain⟨z2,⟨hv,hz2⟩,hh⟩:=hx;subst hv;subst hh))|((with_reducible refine cO ?hg ?_);(case hg=>with_reducible exact Bb F124_ok);refine tM (hby0 _) ?_;rintro _ _ ⟨rfl,rfl⟩)|((with_reducible refine cO ?hg ?_);(case hg=>with_reducible exact Bb F124_ok);refine tM (hby1 _) ?_;rintro _ _ ⟨rfl,rfl⟩)|((with_reducible refine cO ?hg ?_);(case hg=>with_reducible exact Bb F125_ok);refine tM (hbt _) ?_;rintro _ _ ⟨rfl,rfl⟩)|((with_reducible refine cO ?hg ?_);(case hg=>with_reducible exact Bb F158_ok);refine tM (s1 _) ?_;rintro _ _ ⟨rfl,rfl⟩)
 refine fI_ rfl ?_
 exact⟨_,_,3,some 1,_,⟨congrArg (fun q=>EV.agg [.lit (.bool false),.lit (.int .i64 q),.lit (.string ⟨#[]⟩),.sl 4 3 0 1 (some 1)]) ec,by rw[hz2,hz];push_cast;omega⟩,rfl,rfl,by decide,rfl,rfl⟩
end Go.Proofs.YtehgpabfgjofhaaGreatDoor.Stats
