/- No conditions. -/
import Derived.Test.YtkjhfefbklcciaaGreatDoorMc
import Derived.Test.YtkjhfefbklcciaaGreatDoorX37
set_option linter.unusedVariables false
set_option linter.unusedSimpArgs false
set_option maxRecDepth 100000
set_option maxHeartbeats 16000000
namespace Go.Proofs.YtkjhfefbklcciaaGreatDoor.Stats
open Go Go.Proofs.YtkjhfefbklcciaaGreatDoor Go.Proofs.YtkjhfefbklcciaaGreatDoor.Em
section
section
variable {P:Program} {G:List (List EV)} {ro:Option Nat} {I0:Imm} {ρ0:Ren} {w0:World} {Q:Exit->Act->World->Prop}
theorem OKs.mvE{k:List KI}{s:St}(σ fr:List Nat){hn:EH}(hσ:σ.take ρ0.length=List.range ρ0.length)(ok:Dh σ fr s.h)(e:mvH σ fr s.h σ=hn)(h:OKs P G ro I0 ρ0 w0 Q k ⟨mvL (mvG σ fr) (mvZ fr s.h) s.t,hn⟩):OKs P G ro I0 ρ0 w0 Q k s:=
 OKs.mv σ fr hσ ok (by show OKs P G ro I0 ρ0 w0 Q k ⟨_,mvH σ fr s.h σ⟩;rw[e];exact h)
end
theorem TW(x:EV)(h:EH)(R:EH->Prop)(hR:R h):Ha Tryz.prog gs 223 [x] h R:=by
 refine H3 J7 fun I0 ρ0 w0 Q hρ hQ=>?_
 obtain⟨A,hA⟩:∃A,A=stdA:=⟨_,rfl⟩
 with_reducible refine Be hA hd hQ 200 ?hk ?_
 case hk=>trivial
 conv=>arg 9;cbv
 try simp only[OK]
 exact⟨⟨_,rfl⟩,hR⟩
theorem TN(r y:Int)(b:List Nat)(N:Int)(hr:0<=r/\r<=4096)(hp:∀h:EH,Tri Tryz.prog gs 442 [.iptr (aC N b.length (Bj b)) 0,.lit (.int .i64 11),.lit (.int .i64 r)] h fun v h'=>v = .lit (.int .i64 y)/\h'=h) :
  Tri Tryz.prog gs 151 [.iptr (aC N b.length (Bj b)) 0,.lit (.int .i64 r)] [] fun v h'=>v = .tup [.agg (nC y),.lit (.int .i64 16),.lit (.int .i64 0)]:=by
 have k2:=fun(id:Nat) (h:EH) (hg:Bh h id = .blk [.lit (.int .i64 4194304)])=>Tri.stepA (pre:=[.iptr (aC N b.length (Bj b)) 0,.lit (.int .i64 r)]) (post:=[]) (fun V c' h=>RdR.cl h) (Yc r y 4194304 b N hr (by omega) hp) rfl rfl rfl hg
 simp only[lC,lN]at k2
 unfold RdR nC at *
 generalize aC N b.length (Bj b)=AC at *
 refine Iy (F1:=fun s=>s=⟨BK [.iptr AC 0,.lit (.int .i64 r),.lit undef,.lit undef,.ptr 0 0,.lit (.int .i64 0),.ptr 1 0] 14,[.blk [.lit (.bool false),.lit (.int .i64 0),.lit (.string ⟨#[]⟩),.lit (.slice none 0 0)],.blk [.lit (.int .i64 0)]]⟩)
  (F2:=fun s=>s=⟨BK [.iptr AC 0,.lit (.int .i64 r),.lit undef,.lit undef,.ptr 0 0,.lit (.int .i64 0),.ptr 1 0] 14,[.blk [.lit (.bool false),.lit (.int .i64 0),.lit (.string ⟨#[]⟩),.lit (.slice none 0 0)],.blk [.lit (.int .i64 0)]]⟩)
  Ic (fun I0 ρ0 w0 Q hρ hF=>?_) (fun s hs I0 ρ0 w0 Q hF=>?_) (fun s hs=>⟨223,[],[],by subst hs;rfl,IG J7,fun I0 ρ0 w0 Q hρ hQ=>?_⟩)
 ·have hQ:=EndsQ.no (P:=Tryz.prog) (G:=gs) (I0:=I0) (ρ0:=ρ0) (w0:=w0) (Q:=Q)
  obtain⟨A,hA⟩:∃A,A=stdA:=⟨_,rfl⟩
  with_reducible refine Bf hA hd hQ 1 ?hk ?_
  case hk=>trivial
  conv=>arg 9;cbv
  try simp only[OK]
  repeat' first|(with_reducible refine OKK.nilS ?_)|((with_reducible refine Be hA hd hQ 1 ?hk ?_);(case hk=>trivial);(conv=>arg 9;cbv);(try simp only[OK]))
  exact OKs.nil (hF _ rfl)
 ·subst hs
  have hQ:=EndsQ.no (P:=Tryz.prog) (G:=gs) (I0:=I0) (ρ0:=ρ0) (w0:=w0) (Q:=Q);obtain⟨A,hA⟩:∃A,A=stdA:=⟨_,rfl⟩
  repeat' first|(with_reducible refine OKK.nilS ?_)|((with_reducible refine Be hA hd hQ 1 ?hk ?_);(case hk=>trivial);(conv=>arg 9;cbv);(try simp only[OK]))
  exact OKs.nil (hF _ rfl)
 ·subst hs
  obtain⟨A,hA⟩:∃A,A=stdA:=⟨_,rfl⟩
  with_reducible refine Bf hA hd hQ 200 ?hk ?_
  case hk=>trivial
  conv=>arg 9;cbv
  try simp only[OK]
  repeat' first|((with_reducible refine Be hA hd hQ 200 ?hk ?_);(case hk=>trivial);(conv=>arg 9;cbv);(try simp only[OK]))|((with_reducible refine cO ?hg ?_);(case hg=>with_reducible exact Bi F224_ok);(refine tM (k2 _ _ rfl) fun v hh hx=>?_);(obtain⟨z2,⟨hv,hz2⟩,hh⟩:=hx;subst hv;subst hz2;subst hh))
  refine⟨trivial,TW (.ptr 1 0) _ _ ⟨_,rfl,?_⟩⟩;have e:A.ib .sub .i64 4194304 (4194304-16)=16:=by rw[hA];rfl
  exact congrArg (fun q=>EV.tup [_,.lit (.int .i64 q),_]) e
theorem VM(r y:Int)(b:List Nat)(N:Int)(hr:0<=r/\r<=4096)(hp:∀h:EH,Tri Tryz.prog gs 442 [.iptr (aC N b.length (Bj b)) 0,.lit (.int .i64 11),.lit (.int .i64 r)] h fun v h'=>v = .lit (.int .i64 y)/\h'=h)(h:EH) :
  Tri Tryz.prog gs 151 [.iptr (aC N b.length (Bj b)) 0,.lit (.int .i64 r)] h fun v h'=>v = .tup [.agg (nC y),.lit (.int .i64 16),.lit (.int .i64 0)]/\h'=h:=
 Tri.valA rfl rfl (TN r y b N hr hp) h
theorem VY(AC:List EV)(h:EH):Tri Tryz.prog gs 95 [.iptr AC 0] h fun v h'=>v = .fn (.func 150) [] [.iptr [.iptr AC 0] 0]/\h'=h:=by
 refine Tri.valA rfl rfl (Tri.mv (R:=fun v h'=>v = .fn (.func 150) [] [.ptr 0 0]/\h'=[.blk [.iptr AC 0]]) (Bk F95_ok fun I0 ρ0 w0 Q hρ hQ=>?_) fun v h' ⟨hv,hr⟩=>?_) h
 ·obtain⟨A,hA⟩:∃A,A=stdA:=⟨_,rfl⟩
  with_reducible refine Bf hA hd hQ 200 ?hk ?_
  case hk=>trivial
  conv=>arg 9;cbv
  try simp only[OK]
  all_goals exact fI_ rfl ⟨rfl,rfl⟩
 ·subst hv;subst hr
  exact⟨[],[0],rfl,⟨by simp,by simp,fun id hid=>by simp at hid;subst hid;exact⟨_,rfl,rfl⟩⟩,rfl⟩
def NQ:EC->EC
 | .seq _ b=>b
 |_=>.skip
def Re:EC->EC
 | .block _ c=>c
 |_=>.skip
def rfA:EC->EC
 | .rf _ _ a _=>a
 |_=>.skip
def rfB:EC->EC
 | .rf _ _ _ b=>b
 |_=>.skip
def LVa:EC:=rfA (Re (NQ (I4 (Du F55.body 2))))
def LVb:EC:=rfB (Re (NQ (I4 (Du F55.body 2))))
def LVt(AC:List EV):List EV:=mkT 17 [(3,.ptr 0 0),(7,.fn (.func 150) [] [.iptr [.iptr AC 0] 0])]
def HV(y:EV)(AC:List EV)(st:Nat):EH:=[.blk [y],.lp (LVt AC) [8,9] LVa LVb st none]
theorem IE(AC:List EV)(g z)(h:g 0=some 0):mvL g z (LVt AC)=LVt AC:=by
 show mkT 17 [(3,mvE g z (.ptr 0 0)),(7,mvE g z (.fn (.func 150) [] [.iptr [.iptr AC 0] 0]))]=_
 simp only[mvE,mvL,h]
 rfl
theorem SL(AC:List EV)(y:Int)(W:List EV)(b3 b4:EO)(hW:W=nC y):mvH [0,1,2,5] [] (HV (.sl 4 5 0 1 none) AC 1++[.blk (nC y),b3,b4,.blk W]) [0,1,2,5]=HV (.sl 4 3 0 1 none) AC 1++[.blk (nC y),.blk (nC y)]:=by
 subst hW
 show ([.blk [.sl 4 3 0 1 none],.lp (mvL _ _ (LVt AC)) [8,9] LVa LVb 1 none,.blk (nC y),.blk (nC y)]:EH)=_
 rw[IE AC _ _ (by rfl)];rfl
theorem S7(AC:List EV)(y:Int)(Z:Nat)(c W:List EV)(b3 b4:EO)(hc:clL c=true)(hW:W=c++nC y):mvH [0,1,2,3,6] [] (HV (.sl 4 6 0 Z none) AC 1++[.dead,.blk (nC y),b3,b4,.blk W]) [0,1,2,3,6]=HV (.sl 4 4 0 Z none) AC 1++[.dead,.blk (nC y),.blk (c++nC y)]:=by
 subst hW
 show ([.blk [.sl 4 4 0 Z none],.lp (mvL _ _ (LVt AC)) [8,9] LVa LVb 1 none,.dead,.blk (nC y),.blk (mvL _ _ (c++nC y))]:EH)=_
 rw[IE AC _ _ (by rfl),BA _ _ _ (CU hc (JR y))];rfl
theorem Ua{A:Ar}(hA:A=stdA){Z:Nat}{c x u:List EV}(hc:c.length=Z*4)(hx:x.length=4)(hu:u.length=4) :
  A.setl (A.app (A.tak (A.mul Z 4) (A.drp 0 c)) (A.tak (A.mul 1 4) (A.drp 0 u))) (A.idx 0 (A.ofn Z) 4) x=c++x:=by
 rw[Dl hA hc (by omega),hA,B0,EB]
 have e:0+(stdA.ofn Z).toNat * 4=c.length:=by
  show 0+((Z:Int)).toNat * 4=_;rw[Int.toNat_natCast];omega
 rw[e,List.take_left',List.drop_of_length_le (by simp;omega),List.append_nil]
 rfl
section
variable {ro:Option Nat} {I0:Imm} {ρ0:Ren} {w0:World} {Q:Exit->Act->World->Prop}
theorem Yv(AC:List EV)(z y:Int)(e:EV)(hpost:∀a w',SimX Tryz.prog gs I0 ρ0 w0 ⟨mkT 17 [(3,.ptr 0 0),(5,.ptr 3 0)],HV e AC 0++[.blk (nC y),.blk (nC y)]⟩ a w'->Q .normal a w') :
  OKs Tryz.prog gs ro I0 ρ0 w0 Q [.c LVa] ⟨Cw (LVt AC) [8,9] [.lit (.int .i64 z),.agg (nC y)],HV e AC 0++[.blk (nC y)]⟩:=by
 obtain⟨A,hA⟩:∃A,A=stdA:=⟨_,rfl⟩
 have hQ:EndsQ Tryz.prog gs I0 ρ0 w0 Q (fun _=>False):=EndsQ.no
 unfold nC at *
 with_reducible refine Bf hA hd hQ 1 ?hk ?_
 case hk=>trivial
 conv=>arg 9;cbv
 try simp only[OK]
 repeat' first|(with_reducible refine OKK.nilS ?_)|((with_reducible refine Be hA hd hQ 1 ?hk ?_);(case hk=>trivial);(conv=>arg 9;cbv);(try simp only[OK]))
 refine oK_ (msk 17 [3,5]) ?_
 exact OKs.nil hpost
theorem Sp(AC:List EV)(z y:Int)(e:EV)(c:List EV)(hpost:∀a w',SimX Tryz.prog gs I0 ρ0 w0 ⟨mkT 17 [(3,.ptr 0 0),(5,.ptr 4 0)],HV e AC 0++[.blk c,.blk (nC y),.blk (nC y)]⟩ a w'->Q .normal a w') :
  OKs Tryz.prog gs ro I0 ρ0 w0 Q [.c LVa] ⟨Cw (LVt AC) [8,9] [.lit (.int .i64 z),.agg (nC y)],HV e AC 0++[.blk c,.blk (nC y)]⟩:=by
 obtain⟨A,hA⟩:∃A,A=stdA:=⟨_,rfl⟩
 have hQ:EndsQ Tryz.prog gs I0 ρ0 w0 Q (fun _=>False):=EndsQ.no
 unfold nC at *
 with_reducible refine Bf hA hd hQ 1 ?hk ?_
 case hk=>trivial
 conv=>arg 9;cbv
 try simp only[OK]
 repeat' first|(with_reducible refine OKK.nilS ?_)|((with_reducible refine Be hA hd hQ 1 ?hk ?_);(case hk=>trivial);(conv=>arg 9;cbv);(try simp only[OK]))
 refine oK_ (msk 17 [3,5]) ?_
 exact OKs.nil hpost
theorem WU(AC:List EV)(y:Int)(hpost:∀a w',SimX Tryz.prog gs I0 ρ0 w0 ⟨mkT 17 [(3,.ptr 0 0)],HV (.sl 4 3 0 1 none) AC 1++[.blk (nC y),.blk (nC y)]⟩ a w'->Q .normal a w')(ρl:ρ0.length=3) :
  OKs Tryz.prog gs ro I0 ρ0 w0 Q [.c LVb] ⟨mkT 17 [(3,.ptr 0 0),(5,.ptr 3 0)],HV (.lit (.slice none 0 0)) AC 1++[.blk (nC y),.blk (nC y)]⟩:=by
 obtain⟨A,hA⟩:∃A,A=stdA:=⟨_,rfl⟩
 have hQ:EndsQ Tryz.prog gs I0 ρ0 w0 Q (fun _=>False):=EndsQ.no
 with_reducible refine Bf hA hd hQ 1 ?hk ?_
 case hk=>trivial
 conv=>arg 9;cbv
 try simp only[OK]
 repeat' first|(with_reducible refine OKK.nilS ?_)|(with_reducible refine And.intro trivial ?_)|((with_reducible refine⟨fun hbr=>?_,fun hbr=>?_⟩)<;>(try simp(disch:=omega)only[hA,Ba,not_false_eq_true,reduceCtorEq]at hbr)<;>(try (with_reducible exfalso;omega)))|((with_reducible refine Be hA hd hQ 1 ?hk ?_);(case hk=>trivial);(conv=>arg 9;cbv);(try simp only[OK]))|((with_reducible refine Bn ?hn ?_);(case hn=>((simp(disch:=omega)only[hA,Ba,Int.reduceToNat])<;>omega)))
 refine oK_ (msk 17 [3]) (OKs.mvE [0,1,2,5] [] (by rw[ρl];rfl) ⟨by decide,by simp[Bd],by simp⟩ (SL AC y _ _ _ (by rw[hA];rfl)) (OKs.nil hpost))
theorem Tb(AC:List EV)(y:Int)(Z:Nat)(hZ:1<=Z/\Z<=4096)(c:List EV)(hcl:c.length=Z*4)(hcc:clL c=true)(hpost:∀a w',SimX Tryz.prog gs I0 ρ0 w0 ⟨mkT 17 [(3,.ptr 0 0)],HV (.sl 4 4 0 (Z+1) none) AC 1++[.dead,.blk (nC y),.blk (c++nC y)]⟩ a w'->Q .normal a w')(ρl:ρ0.length=4) :
  OKs Tryz.prog gs ro I0 ρ0 w0 Q [.c LVb] ⟨mkT 17 [(3,.ptr 0 0),(5,.ptr 4 0)],HV (.sl 4 2 0 Z none) AC 1++[.blk c,.blk (nC y),.blk (nC y)]⟩:=by
 obtain⟨A,hA⟩:∃A,A=stdA:=⟨_,rfl⟩
 have hQ:EndsQ Tryz.prog gs I0 ρ0 w0 Q (fun _=>False):=EndsQ.no
 have e1:A.add Z 1=Z+1:=by rw[hA];rfl
 rw[<-e1]at hpost
 with_reducible refine Bf hA hd hQ 1 ?hk ?_
 case hk=>trivial
 conv=>arg 9;cbv
 try simp only[OK]
 repeat' first|(with_reducible refine OKK.nilS ?_)|(with_reducible refine And.intro trivial ?_)|((with_reducible refine Be hA hd hQ 1 ?hk ?_);(case hk=>trivial);(conv=>arg 9;cbv);(try simp only[OK]))|((with_reducible refine Bn ?hn ?_);(case hn=>((simp(disch:=omega)only[hA,Ba])<;>omega)))
 refine oK_ (msk 17 [3]) (OKs.mvE [0,1,2,3,6] [] (by rw[ρl];rfl) ⟨by decide,by simp[Bd],by simp⟩ (S7 AC y _ c _ _ _ hcc (Ua hA hcl (x:=nC y) (u:=nC 0) rfl rfl)) (OKs.nil hpost))
end
theorem WS(AC:List EV)(z y:Int):TriY Tryz.prog gs 1 [.lit (.int .i64 z),.agg (nC y)] (HV (.lit (.slice none 0 0)) AC 0++[.blk (nC y)]) fun v h'=>v = .lit (.bool true)/\h'=HV (.sl 4 3 0 1 none) AC 0++[.blk (nC y),.blk (nC y)]:=by
 refine TriY.mono (Nd (how:=none) (t0:=LVt AC) (t1:=LVt AC) (ps:=[8,9]) (ps1:=[8,9]) (asg:=LVa) (a1:=LVa) (body:=LVb) (b1:=LVb) (pd:=none) (pd1:=none) (s1:=⟨mkT 17 [(3,.ptr 0 0),(5,.ptr 3 0)],HV (.lit (.slice none 0 0)) AC 0++[.blk (nC y),.blk (nC y)]⟩)
  (S2:=fun s=>s=⟨mkT 17 [(3,.ptr 0 0)],HV (.sl 4 3 0 1 none) AC 1++[.blk (nC y),.blk (nC y)]⟩) rfl rfl
  (fun ro I0 ρ0 w0 Q hρ _ hpost=>Yv AC z y _ hpost) rfl
  (fun ro I0 ρ0 w0 Q hρ _ hpost=>WU AC y (hpost _ rfl) hρ)
  (fun s2 h=>by subst h;exact⟨_,_,_,_,_,_,rfl⟩)) fun v h' hx=>?_
 obtain⟨hv,s2,t2,ps2,a2,b2,st2,pd2,h2,hg,hh⟩:=hx
 subst h2
 cases hg
 exact⟨hv,hh⟩
theorem UZ(AC:List EV)(z y:Int)(Z:Nat)(hZ:1<=Z/\Z<=4096)(c:List EV)(hcl:c.length=Z*4)(hcc:clL c=true):TriY Tryz.prog gs 1 [.lit (.int .i64 z),.agg (nC y)] (HV (.sl 4 2 0 Z none) AC 0++[.blk c,.blk (nC y)]) fun v h'=>v = .lit (.bool true)/\h'=HV (.sl 4 4 0 (Z+1) none) AC 0++[.dead,.blk (nC y),.blk (c++nC y)]:=by
 refine TriY.mono (Nd (how:=none) (t0:=LVt AC) (t1:=LVt AC) (ps:=[8,9]) (ps1:=[8,9]) (asg:=LVa) (a1:=LVa) (body:=LVb) (b1:=LVb) (pd:=none) (pd1:=none) (s1:=⟨mkT 17 [(3,.ptr 0 0),(5,.ptr 4 0)],HV (.sl 4 2 0 Z none) AC 0++[.blk c,.blk (nC y),.blk (nC y)]⟩)
  (S2:=fun s=>s=⟨mkT 17 [(3,.ptr 0 0)],HV (.sl 4 4 0 (Z+1) none) AC 1++[.dead,.blk (nC y),.blk (c++nC y)]⟩) rfl rfl
  (fun ro I0 ρ0 w0 Q hρ _ hpost=>Sp AC z y _ c hpost) rfl
  (fun ro I0 ρ0 w0 Q hρ _ hpost=>Tb AC y Z hZ c hcl hcc (hpost _ rfl) hρ)
  (fun s2 h=>by subst h;exact⟨_,_,_,_,_,_,rfl⟩)) fun v h' hx=>?_
 obtain⟨hv,s2,t2,ps2,a2,b2,st2,pd2,h2,hg,hh⟩:=hx
 subst h2
 cases hg
 exact⟨hv,hh⟩
end
def HVs(AC:List EV)(ns:List Int)(Z:Nat):EH:=match Z with
 |0=>HV (.lit (.slice none 0 0)) AC 0
 |Z+1=>HV (.sl 4 2 0 (Z+1) none) AC 0++[.blk (Bu (ns.take (Z+1)))]
theorem Y1(AC:List EV)(y:Int)(t:EH):mvH [0,1,3] [] (HV (.sl 4 3 0 1 none) AC 0++([.blk (nC y),.blk (nC y)]++t)) [0,1,3]=HV (.sl 4 2 0 1 none) AC 0++[.blk (nC y)]:=by
 show ([.blk [.sl 4 2 0 1 none],.lp (mvL _ _ (LVt AC)) [8,9] LVa LVb 0 none,.blk (nC y)]:EH)=_
 rw[IE AC _ _ (by rfl)];rfl
theorem TC(AC:List EV)(y:Int)(Z:Nat)(c:List EV)(hc:clL c=true)(t:EH):mvH [0,1,4] [] (HV (.sl 4 4 0 Z none) AC 0++([.dead,.blk (nC y),.blk c]++t)) [0,1,4]=HV (.sl 4 2 0 Z none) AC 0++[.blk c]:=by
 show ([.blk [.sl 4 2 0 Z none],.lp (mvL _ _ (LVt AC)) [8,9] LVa LVb 0 none,.blk (mvL _ _ c)]:EH)=_
 rw[IE AC _ _ (by rfl),BA _ _ _ hc];rfl
theorem Vu(AC:List EV)(ns:List Int)(n:Nat)(hn:n=ns.length)(hl:ns.length<=4096)
  (hnum:∀A,A=stdA->List.take 1 (List.drop (A.add 0 14) AC)=[.lit (.int .i64 n)])
  (hget:∀j,j<ns.length->∀h:EH,Tri Tryz.prog gs 151 [.iptr AC 0,.lit (.int .i64 j)] h fun v h'=>v = .tup [.agg (nC (ns.getD j 0)),.lit (.int .i64 16),.lit (.int .i64 0)]/\h'=h) :
  Tri Tryz.prog gs 150 [.yl 1,.iptr [.iptr AC 0] 0] (HVs AC ns 0) fun v h'=>h'=HVs AC ns n:=by
 have hmore:=Hid.mk (HQ ns)
 obtain⟨n',hn'⟩:∃q:Int,q=n:=⟨_,rfl⟩
 rw[<-hn']at hnum
 replace hget:=Hid.mk hget
 refine Bk F150_ok fun I0 ρ0 w0 Q hρ hQ=>?_
 obtain⟨A,hA⟩:∃A,A=stdA:=⟨_,rfl⟩
 have hnum:=hnum A hA
 have hbx:List.take 1 (List.drop 0 [EV.iptr AC 0])=[EV.iptr AC 0]:=rfl
 unfold HVs HV
 with_reducible refine Bf hA hd hQ 200 ?hk ?_
 case hk=>trivial
 conv=>arg 9;cbv
 try simp only[OK]
 repeat' first|(with_reducible refine OKK.loop ?_)|((with_reducible refine Be hA hd hQ 200 ?hk ?_);(case hk=>trivial);(conv=>arg 9;cbv);(try simp only[OK]))|((refine⟨_,_,?l1,hbx,rfl,?_⟩);(case l1=>exact rfl))|((refine⟨_,_,?l1,hnum,rfl,?_⟩);(case l1=>exact rfl))
 refine oK_ (msk 39 [0,1,3,11,12]) ?_
 refine oL_ (fun m st=>∃(z LZ:Int),st=⟨mkT 39 [(0,.yl 1),(1,.iptr [.iptr AC 0] 0),(3,.lit (.int .i64 LZ)),(11,.lit (.int .i64 n')),(12,.lit (.int .i64 z))],HVs AC ns z.toNat⟩/\
  m=(n'-z).toNat/\0<=z/\z<=n'/\LZ=4194304-16*z) (fun m st hs' ih=>?_)
  ⟨0,4194304,rfl,rfl,by omega,by omega,by omega⟩
 obtain⟨z,LZ,rfl,hm,hz1,hz2,hLZ⟩:=hs'
 by_cases hzn:z<n'
 ·have hg:=hget.out z.toNat (by omega)
  rw[Int.toNat_of_nonneg hz1]at hg;have hmr:=hmore.out z.toNat (by omega)
  generalize ns.getD z.toNat 0=y at *;rcases Nat.eq_zero_or_pos z.toNat with hz0|hz0
  ·have hr:=WS AC z y
   rw[hz0]at hmr ⊢
   have hH:HV (.sl 4 2 0 1 none) AC 0++[.blk (nC y)]=HVs AC ns 1:=by
    show _=HV (.sl 4 2 0 1 none) AC 0++[.blk (Bu (ns.take (0+1)))];rw[hmr];rfl
   clear hget hmore;unfold HVs HV nC at *
   with_reducible refine Bf hA hd hQ 1 ?hk ?_
   case hk=>trivial
   conv=>arg 9;cbv
   try simp only[OK]
   repeat' first|((with_reducible refine⟨fun hbr=>?_,fun hbr=>?_⟩)<;>(try simp(disch:=omega)only[hA,Ba]at hbr)<;>(try (with_reducible exfalso;omega)))|((with_reducible refine Be hA hd hQ 1 ?hk ?_);(case hk=>trivial);(conv=>arg 9;cbv);(try simp only[OK]))|((refine⟨_,_,?l1,hbx,rfl,?_⟩);(case l1=>exact rfl))
   all_goals try
    refine cO (Hj Ic) (tM (hg _) fun v hh hx=>?_)
    obtain⟨hv,hh'⟩:=hx;subst hv;subst hh'
    with_reducible refine Be hA hd hQ 1 ?hk ?_
    case hk=>trivial
    conv=>arg 9;cbv
    try simp only[OK]
    repeat' first|((with_reducible refine⟨fun hbr=>?_,fun hbr=>?_⟩)<;>(try simp(disch:=omega)only[hA,Ba]at hbr)<;>(try (with_reducible exfalso;omega)))|((with_reducible refine Be hA hd hQ 1 ?hk ?_);(case hk=>trivial);(conv=>arg 9;cbv);(try simp only[OK]))
   refine .inr ⟨1,_,rfl,rfl,TriY.mono hr fun v hh hx=>?_⟩
   obtain⟨hv,hh'⟩:=hx;subst hv;subst hh'
   with_reducible refine Be hA hd hQ 1 ?hk ?_
   case hk=>trivial
   conv=>arg 9;cbv
   try simp only[OK]
   repeat' first|(with_reducible refine OKK.again ?_)|((with_reducible refine Be hA hd hQ 1 ?hk ?_);(case hk=>trivial);(conv=>arg 9;cbv);(try simp only[OK]))
   refine oK_ (msk 39 [0,1,3,11,12]) (OKs.mvE [0,1,3] [] (by rw[hρ];rfl) ⟨by decide,by simp[Bd],by simp⟩ (Y1 AC y []) ?_)
   refine ih _ _ ⟨A.ib .add .i64 z 1,A.ib .sub .i64 LZ 16,?_,rfl,?_,?_,?_⟩ ?_
   ·rw[show (A.ib .add .i64 z 1).toNat=1 by simp(disch:=omega)only[hA,Ba]<;>omega,<-hH];rfl
   ·simp(disch:=omega)only[hA,Ba]<;>omega
   ·simp(disch:=omega)only[hA,Ba]<;>omega
   ·simp(disch:=omega)only[hA,Ba]<;>omega
   ·simp(disch:=omega)only[hA,Ba]<;>omega
  ·have hHs:∀Z,0<Z->HVs AC ns Z=HV (.sl 4 2 0 Z none) AC 0++[.blk (Bu (ns.take Z))]:=fun Z h=>by
    cases Z with
    |zero=>omega
    |succ k=>rfl
   have hHn:=hHs (z.toNat+1) (by omega)
   rw[hHs _ hz0];clear hHs;obtain⟨Z,hZ⟩:∃Z,Z=z.toNat:=⟨_,rfl⟩;have hcl:(Bu (ns.take z.toNat)).length=Z*4:=by rw[Dw,lK];omega
   have hcc:=CO (ns.take z.toNat);rw[hmr]at hHn;generalize Bu (ns.take z.toNat)=c at *;rw[<-hZ]at hHn hmr ⊢;have hr:=UZ AC z y Z (by omega) c hcl hcc
   have hcc2:=CU hcc (JR y);obtain⟨c2,hc2⟩:∃q,q=c++nC y:=⟨_,rfl⟩;obtain⟨Z2,hZ2⟩:∃q,q=Z+1:=⟨_,rfl⟩;rw[<-hc2,<-hZ2]at hr hHn;rw[<-hc2]at hcc2;replace hHn:=Hid.mk hHn;clear hget hmore hc2;unfold HV nC at *
   with_reducible refine Bf hA hd hQ 1 ?hk ?_
   case hk=>trivial
   conv=>arg 9;cbv
   try simp only[OK]
   repeat' first|((with_reducible refine⟨fun hbr=>?_,fun hbr=>?_⟩)<;>(try simp(disch:=omega)only[hA,Ba]at hbr)<;>(try (with_reducible exfalso;omega)))|((with_reducible refine Be hA hd hQ 1 ?hk ?_);(case hk=>trivial);(conv=>arg 9;cbv);(try simp only[OK]))|((refine⟨_,_,?l1,hbx,rfl,?_⟩);(case l1=>exact rfl))
   all_goals try
    refine cO (Hj Ic) (tM (hg _) fun v hh hx=>?_)
    obtain⟨hv,hh'⟩:=hx;subst hv;subst hh'
    with_reducible refine Be hA hd hQ 1 ?hk ?_
    case hk=>trivial
    conv=>arg 9;cbv
    try simp only[OK]
    repeat' first|((with_reducible refine⟨fun hbr=>?_,fun hbr=>?_⟩)<;>(try simp(disch:=omega)only[hA,Ba]at hbr)<;>(try (with_reducible exfalso;omega)))|((with_reducible refine Be hA hd hQ 1 ?hk ?_);(case hk=>trivial);(conv=>arg 9;cbv);(try simp only[OK]))
   refine .inr ⟨1,_,rfl,rfl,TriY.mono hr fun v hh hx=>?_⟩
   obtain⟨hv,hh'⟩:=hx;subst hv;subst hh'
   with_reducible refine Be hA hd hQ 1 ?hk ?_
   case hk=>trivial
   conv=>arg 9;cbv
   try simp only[OK]
   repeat' first|(with_reducible refine OKK.again ?_)|((with_reducible refine Be hA hd hQ 1 ?hk ?_);(case hk=>trivial);(conv=>arg 9;cbv);(try simp only[OK]))
   refine oK_ (msk 39 [0,1,3,11,12]) (OKs.mvE [0,1,4] [] (by rw[hρ];rfl) ⟨by decide,by simp[Bd],by simp⟩ (TC AC y Z2 c2 hcc2 []) ?_)
   refine ih _ _ ⟨A.ib .add .i64 z 1,A.ib .sub .i64 LZ 16,?_,rfl,?_,?_,?_⟩ ?_
   ·rw[show (A.ib .add .i64 z 1).toNat=Z2 by simp(disch:=omega)only[hA,Ba]<;>omega,hHn.out];rfl
   ·simp(disch:=omega)only[hA,Ba]<;>omega
   ·simp(disch:=omega)only[hA,Ba]<;>omega
   ·simp(disch:=omega)only[hA,Ba]<;>omega
   ·simp(disch:=omega)only[hA,Ba]<;>omega
 ·rw[show z.toNat=n by omega]
  generalize hHH:HVs AC ns n=HH at *
  with_reducible refine Bf hA hd hQ 200 ?hk ?_
  case hk=>trivial
  conv=>arg 9;cbv
  try simp only[OK]
  repeat' first|((with_reducible refine⟨fun hbr=>?_,fun hbr=>?_⟩)<;>(try simp(disch:=omega)only[hA,Ba]at hbr)<;>(try (with_reducible exfalso;omega)))|((with_reducible refine Be hA hd hQ 200 ?hk ?_);(case hk=>trivial);(conv=>arg 9;cbv);(try simp only[OK]))
  all_goals exact fI_ rfl rfl
theorem Tri.fz1n{P:Program}{G:List (List EV)}{f:FuncId}{args:List EV}{n:Nat}{B:List EV}(hB:clL B=true)(ha:clL args=true)
  (t:Tri P G f args [] fun v h'=>(n=0/\v = .lit (.slice none 0 0))\/∃(i es:Nat) (c:Option Nat),v = .sl es i 0 n c/\Bh h' i = .blk B) (h:EH) :
  Tri P G f args h fun v h'=>v = .isl n none B/\h'=h:=by
 have t1:Tri P G f args [] fun v h'=>(n=0/\v = .lit (.slice none 0 0))\/∃(c:Option Nat),v = .isl n c B:=
  Tri.mv t fun v h' hx=>by
   rcases hx with ⟨h0,hv⟩|⟨i,es,c,hv,hg⟩
   ·exact⟨[],[],rfl,⟨by simp,by simp,by simp⟩,.inl ⟨h0,by rw[hv];rfl⟩⟩
   ·refine⟨[],[i],rfl,⟨by simp,by simp,fun id hid=>?_⟩,.inr ⟨c,?_⟩⟩
    ·simp at hid;subst hid
     exact⟨_,hg,hB⟩
    ·rw[hv]
     simp[mvE,mvG,mvZ,inL,hg]
 have t2:Tri P G f args [] fun v _=>v = .isl n none B:=Tri.up (R:=fun v _=>Up v (.isl n none B)) (t1.mono fun v h' hx=>by
  rcases hx with ⟨rfl,hv⟩|⟨c,hv⟩
  ·rw[hv];exact Up.nil _
  ·rw[hv];exact Up.cap _ _ _) fun v h' hu=>⟨_,rfl,hu⟩
 exact Tri.valA rfl ha t2 h
theorem UL(ns:List Int)(hn:ns.length<=4096)(hr:∀n∈ns,BJ n) :
  Tri Tryz.prog gs 55 [.iptr (aC ns.length (Bq ns).length (Bj (Bq ns))) 0] [] fun v h'=>(ns.length=0/\v = .lit (.slice none 0 0))\/∃(i es:Nat) (c:Option Nat),v = .sl es i 0 ns.length c/\Bh h' i = .blk (Bu ns):=by
 have k1:=Vu (aC ns.length (Bq ns).length (Bj (Bq ns))) ns ns.length rfl hn (fun A hA=>Zo hA _ _ _)
  (fun j hj h=>VM j _ _ _ (by omega) (fun h=>TQ ns hn hr j (by omega) (by omega) _ h) h)
 generalize aC ns.length (Bq ns).length (Bj (Bq ns))=AC at *
 have k2:=VY AC
 have hH0:ns.length=0->HVs AC ns ns.length=HV (.lit (.slice none 0 0)) AC 0:=fun h=>by rw[h];rfl
 have hH1:ns.length≠0->HVs AC ns ns.length=HV (.sl 4 2 0 ns.length none) AC 0++[.blk (Bu ns)]:=fun h=>by
  obtain⟨k,hk⟩:∃k,ns.length=k+1:=⟨ns.length-1,by omega⟩
  have e:ns.take (k+1)=ns:=lT (by omega)
  rw[hk];show HV _ AC 0++[.blk (Bu (ns.take (k+1)))]=_;rw[e]
 replace k1:=Hid.mk k1
 have hcc:=CO ns
 generalize Bu ns=C at *
 generalize HVs AC ns ns.length=HN at *
 generalize ns.length=n at *
 refine Bk F55_ok fun I0 ρ0 w0 Q hρ hQ=>?_
 obtain⟨A,hA⟩:∃A,A=stdA:=⟨_,rfl⟩
 with_reducible refine Bf hA hd hQ 1 ?hk ?_
 case hk=>trivial
 conv=>arg 9;cbv
 try simp only[OK]
 repeat' first|(with_reducible refine OKK.rfS ?_)|((with_reducible refine Be hA hd hQ 1 ?hk ?_);(case hk=>trivial);(conv=>arg 9;cbv);(try simp only[OK]))|((with_reducible refine cO ?hg ?_);(case hg=>with_reducible exact Bi F95_ok);refine tM (k2 _) ?_;rintro _ _ ⟨rfl,rfl⟩)
 refine oK_ (msk 17 [3,7]) ?_
 refine OKs.rf (av:=[]) (bv:=[.iptr [.iptr AC 0] 0]) (gf:=150) rfl (Bi F150_ok) k1.out fun v h' hx=>?_
 by_cases h0:n=0
 ·rw[hH0 h0]at hx
  subst hx;refine⟨LVt AC,[8,9],LVa,LVb,0,none,rfl,by decide,?_⟩
  refine oK_ (msk 17 [3]) (OKs.mv [0] [] (by rw[hρ];rfl) ⟨by decide,by simp[Bd,HV,Br],by simp⟩ ?_)
  with_reducible refine Bf hA hd hQ 200 ?hk ?_
  case hk=>trivial
  conv=>arg 9;cbv
  try simp only[OK]
  exact fI_ rfl (.inl ⟨h0,rfl⟩)
 ·rw[hH1 h0]at hx
  subst hx;refine⟨LVt AC,[8,9],LVa,LVb,0,none,rfl,by decide,?_⟩
  refine oK_ (msk 17 [3]) ?_
  with_reducible refine Bf hA hd hQ 200 ?hk ?_
  case hk=>trivial
  conv=>arg 9;cbv
  try simp only[OK]
  exact fI_ rfl (.inr ⟨2,4,none,rfl,rfl⟩)
theorem N6(ns:List Int)(hn:ns.length<=4096)(hr:∀n∈ns,BJ n)(N:Int)(hN:N=ns.length)(M:Nat)(B:List EV)(hM:M=8*ns.length)(hB:B=Bj (Bq ns))(h:EH) :
  Tri Tryz.prog gs 55 [.iptr (aC N M B) 0] h fun v h'=>v = .isl ns.length none (Bu ns)/\h'=h:=by
 subst hN;subst hB;rw[hM,<-C3]
 exact Tri.fz1n (CO _) rfl (UL ns hn hr) h
section
section
variable {A:Ar} (hA:A=stdA) (a0 a1 a2 a3 b0 b1 b2 b3:EV)
include hA
theorem Vg:List.take 1 (List.drop (A.add (A.idx 0 0 4) 0) [a0,a1,a2,a3,b0,b1,b2,b3])=[a0]:=by rw[hA];rfl
theorem Wp:List.take 1 (List.drop (A.add (A.idx 0 0 4) 1) [a0,a1,a2,a3,b0,b1,b2,b3])=[a1]:=by rw[hA];rfl
theorem Ys:List.take 1 (List.drop (A.add (A.idx 0 1 4) 0) [a0,a1,a2,a3,b0,b1,b2,b3])=[b0]:=by rw[hA];rfl
theorem Wd:List.take 1 (List.drop (A.add (A.idx 0 1 4) 1) [a0,a1,a2,a3,b0,b1,b2,b3])=[b1]:=by rw[hA];rfl
end
theorem K3{A:Ar}(hA:A=stdA):List.take 7 (List.drop (A.idx 0 0 7) (fC++fC))=fC:=by rw[hA];rfl
theorem Po{A:Ar}(hA:A=stdA):List.take 7 (List.drop (A.idx 0 1 7) (fC++fC))=fC:=by rw[hA];rfl
theorem LI{A:Ar}(hA:A=stdA)(N N':Int)(M M':Nat)(B B':List EV):List.take 6 (List.drop (A.idx 0 0 6) (dX N M B++dX N' M' B'))=dX N M B:=by rw[hA];rfl
theorem PB{A:Ar}(hA:A=stdA)(N N':Int)(M M':Nat)(B B':List EV):List.take 6 (List.drop (A.idx 0 1 6) (dX N M B++dX N' M' B'))=dX N' M' B':=by rw[hA];rfl
theorem R8(op:Int)(hop:1<=op/\op<=4)(h:EH):Tri Tryz.prog gs 16 [.lit (.int .i64 op),fL] h fun v h'=>v = .tup [.agg fD,.lit (.int .i64 0)]/\h'=h:=by
 have:op=1\/op=2\/op=3\/op=4:=by omega
 rcases this with rfl|rfl|rfl|rfl
 ·exact closedA (by kernel_rfl) rfl rfl h
 ·exact closedA (by kernel_rfl) rfl rfl h
 ·exact closedA (by kernel_rfl) rfl rfl h
 ·exact closedA (by kernel_rfl) rfl rfl h
theorem Vv(h:EH):Tri Tryz.prog gs 60 [.agg fC] h fun v h'=>v = .agg fC/\h'=h:=closedA (by kernel_rfl) rfl rfl h
theorem R9(op a b:Int)(hop:1<=op/\op<=4)(c:Option Nat)(h:EH):Tri Tryz.prog gs 69 [.lit (.int .i64 op),.agg fC,.isl 2 c (nC a++nC b)] h fun v h'=>v = .tup [.agg (nC (fI op a b)),.lit (.int .i64 0)]/\h'=h:=by
 have k1:=WL op a b hop
 generalize fI op a b=y at *
 refine Tri.valA rfl rfl (Bk F69_ok fun I0 ρ0 w0 Q hρ hQ=>?_) h
 obtain⟨A,hA⟩:∃A,A=stdA:=⟨_,rfl⟩
 unfold fC nC at *
 with_reducible refine Bf hA hd hQ 200 ?hk ?_
 case hk=>trivial
 conv=>arg 9;cbv
 try simp only[OK]
 repeat' first|((with_reducible refine⟨fun hbr=>?_,fun hbr=>?_⟩)<;>(try simp(disch:=omega)only[hA,Ba,not_true_eq_false]at hbr)<;>(try (with_reducible exfalso;omega)))|((with_reducible refine Be hA hd hQ 200 ?hk ?_);(case hk=>trivial);(conv=>arg 9;cbv);(try simp only[OK]))|((with_reducible refine Bn ?hn ?_);(case hn=>((simp(disch:=omega)only[hA,Ba])<;>omega)))|((refine⟨_,_,?l1,(Wp hA _ _ _ _ _ _ _ _),rfl,?_⟩);(case l1=>exact rfl))|((refine⟨_,_,?l1,(Wd hA _ _ _ _ _ _ _ _),rfl,?_⟩);(case l1=>exact rfl))|((with_reducible refine cO ?hg ?_);(case hg=>with_reducible exact Bi F115_ok);refine tM (k1 _) ?_;rintro _ _ ⟨rfl,rfl⟩)
 all_goals exact fI_ rfl rfl
theorem UR(op a b:Int)(hop:1<=op/\op<=4)(c:Option Nat)(h:EH):Tri Tryz.prog gs 19 [.lit (.int .i64 op),fL,.isl 2 c (nC a++nC b)] h fun v h'=>v = .tup [.agg (nC (fI op a b)),.lit (.int .i64 0)]/\h'=h:=by
 have k1:=R9 op a b hop c
 have k2:=Vv
 generalize fI op a b=y at *
 refine Tri.valA rfl rfl (Bk F19_ok fun I0 ρ0 w0 Q hρ hQ=>?_) h
 obtain⟨A,hA⟩:∃A,A=stdA:=⟨_,rfl⟩
 have kF:=K3 hA
 unfold fL fC nC at *
 with_reducible refine Bf hA hd hQ 200 ?hk ?_
 case hk=>trivial
 conv=>arg 9;cbv
 try simp only[OK]
 repeat' first|(with_reducible refine OKK.loop ?_)|((with_reducible refine Be hA hd hQ 200 ?hk ?_);(case hk=>trivial);(conv=>arg 9;cbv);(try simp only[OK]))|((with_reducible refine Bn ?hn ?_);(case hn=>((simp(disch:=omega)only[hA,Ba])<;>omega)))|((refine⟨_,_,?l1,kF,rfl,?_⟩);(case l1=>exact rfl))|((with_reducible refine cO ?hg ?_);(case hg=>with_reducible exact Bi F60_ok);refine tM (k2 _) ?_;rintro _ _ ⟨rfl,rfl⟩)
 refine oK_ (msk 120 [0,2,6,7,8,9,10]) (OKs.mv [0,1] [] (by rw[hρ];rfl) ⟨by decide,by simp[Bd],by simp⟩ ?_)
 refine oL_ (fun m st=>∃z:Int,m=((2:Int)-z).toNat/\0<=z/\z<=2/\st=⟨mkT 120 [(0,.lit (.int .i64 op)),(2,.isl 2 c (nC a++nC b)),(6,.ptr 0 0),(7,.lit (.int .i64 0)),(8,.ptr 1 0),(9,.lit (.bool false)),(10,.lit (.int .i64 z))],[.blk [.lit (.bool false),.lit (.int .i64 0),.lit (.string ⟨#[]⟩),.lit (.slice none 0 0)],.blk fC]⟩) (fun m st hs' ih=>?_) ⟨0,rfl,by omega,by omega,rfl⟩
 obtain⟨z,hm,hz0,hz1,rfl⟩:=hs'
 have hz:z=0\/z=1\/z=2:=by omega
 unfold fC nC at *
 rcases hz with rfl|rfl|rfl
 ·skip
  with_reducible refine Bf hA hd hQ 200 ?hk ?_
  case hk=>trivial
  conv=>arg 9;cbv
  try simp only[OK]
  repeat' first|(with_reducible refine OKK.again ?_)|((with_reducible refine⟨fun hbr=>?_,fun hbr=>?_⟩)<;>(try simp(disch:=omega)only[hA,Ba]at hbr)<;>(try (with_reducible exfalso;omega)))|((with_reducible refine Be hA hd hQ 200 ?hk ?_);(case hk=>trivial);(conv=>arg 9;cbv);(try simp only[OK]))|((with_reducible refine Bn ?hn ?_);(case hn=>((simp(disch:=omega)only[hA,Ba])<;>omega)))|((refine⟨_,_,?l1,(Vg hA _ _ _ _ _ _ _ _),rfl,?_⟩);(case l1=>exact rfl))
  refine oK_ (msk 120 [0,2,6,7,8,9,10]) (OKs.mv [0,1] [] (by rw[hρ];rfl) ⟨by decide,by simp[Bd],by simp⟩ (ih _ _ ⟨A.ib .add .i64 0 1,rfl,by simp(disch:=omega)only[hA,Ba]<;>omega,by simp(disch:=omega)only[hA,Ba]<;>omega,rfl⟩ (by simp(disch:=omega)only[hA,Ba]<;>omega)))
 ·skip
  with_reducible refine Bf hA hd hQ 200 ?hk ?_
  case hk=>trivial
  conv=>arg 9;cbv
  try simp only[OK]
  repeat' first|(with_reducible refine OKK.again ?_)|((with_reducible refine⟨fun hbr=>?_,fun hbr=>?_⟩)<;>(try simp(disch:=omega)only[hA,Ba]at hbr)<;>(try (with_reducible exfalso;omega)))|((with_reducible refine Be hA hd hQ 200 ?hk ?_);(case hk=>trivial);(conv=>arg 9;cbv);(try simp only[OK]))|((with_reducible refine Bn ?hn ?_);(case hn=>((simp(disch:=omega)only[hA,Ba])<;>omega)))|((refine⟨_,_,?l1,(Ys hA _ _ _ _ _ _ _ _),rfl,?_⟩);(case l1=>exact rfl))
  refine oK_ (msk 120 [0,2,6,7,8,9,10]) (OKs.mv [0,1] [] (by rw[hρ];rfl) ⟨by decide,by simp[Bd],by simp⟩ (ih _ _ ⟨A.ib .add .i64 1 1,rfl,by simp(disch:=omega)only[hA,Ba]<;>omega,by simp(disch:=omega)only[hA,Ba]<;>omega,rfl⟩ (by simp(disch:=omega)only[hA,Ba]<;>omega)))
 clear ih
 with_reducible refine Bf hA hd hQ 200 ?hk ?_
 case hk=>trivial
 conv=>arg 9;cbv
 try simp only[OK]
 repeat' first|((with_reducible refine⟨fun hbr=>?_,fun hbr=>?_⟩)<;>(try simp(disch:=omega)only[hA,Ba]at hbr)<;>(try (with_reducible exfalso;omega)))|((with_reducible refine Be hA hd hQ 200 ?hk ?_);(case hk=>trivial);(conv=>arg 9;cbv);(try simp only[OK]))|((with_reducible refine cO ?hg ?_);(case hg=>with_reducible exact Bi F69_ok);refine tM (k1 _) ?_;rintro _ _ ⟨rfl,rfl⟩)
 all_goals exact fI_ rfl rfl
end
def B8(op:Int):List Int->List Int->List Int
 |a::l,b::m=>fI op a b::B8 op l m
 |_,_=>[]
theorem IQ{op:Int}:∀{l m:List Int},l.length=m.length->(B8 op l m).length=l.length
 |[],m,_=>rfl
 |a::l,[],h=>by simp at h
 |a::l,b::m,h=>by simp[B8,IQ (op:=op) (show l.length=m.length by simpa using h)]
theorem KN{op:Int}:∀{l m:List Int} (i:Nat),l.length=m.length->i<l.length->(B8 op l m).getD i 0=fI op (l.getD i 0) (m.getD i 0)
 |[],m,i,_,h=>by simp at h
 |a::l,[],i,h,_=>by simp at h
 |a::l,b::m,0,h,_=>rfl
 |a::l,b::m,i+1,h,h2=>by
  have:=KN (op:=op) i (show l.length=m.length by simpa using h) (by simpa using h2)
  simpa[B8]using this
theorem SO(op:Int)(hop:1<=op/\op<=4)(xs ys:List Int)(hxy:xs.length=ys.length)(hn:xs.length<=4096)(hx:∀n∈xs,BJ n)(hy:∀n∈ys,BJ n)(h:EH) :
  Tri Tryz.prog gs 7 [.lit (.int .i64 op),fL,.isl 2 none (dC xs.length (Bj (Bq xs))++dC ys.length (Bj (Bq ys)))] h fun v h'=>v = .tup [.agg (dC xs.length (Bj (Bq (B8 op xs ys)))),.lit (.int .i64 0),.lit (.int .i64 0)]/\h'=h:=by
 have hzl:=IQ (op:=op) hxy
 have k0':=R8 op hop
 unfold fL at k0'
 obtain⟨N,hN⟩:∃N:Int,N=xs.length:=⟨_,rfl⟩
 obtain⟨M,hM⟩:∃M,M=8*xs.length:=⟨_,rfl⟩
 obtain⟨B1,hB1⟩:∃B,B=Bj (Bq xs):=⟨_,rfl⟩
 obtain⟨B2,hB2⟩:∃B,B=Bj (Bq ys):=⟨_,rfl⟩
 have kC1:=Lf N M B1 (by omega) (by omega)
 have kC2:=Lf N M B2 (by omega) (by omega)
 have kV1:=Ns xs hn hx N hN M B1 hM hB1
 have kV2:=Ns ys (by omega) hy N (by omega) M B2 (by omega) hB2
 have kO:=RH (.inr rfl) (B8 op xs ys) (by omega)
 have hmore:=Hid.mk (HQ (B8 op xs ys))
 have hg1:=Hid.mk (E3 xs)
 have hg2:=Hid.mk (E3 ys)
 have hzg:=Hid.mk (fun i=>KN (op:=op) (l:=xs) (m:=ys) i hxy)
 have hD1:dC xs.length (Bj (Bq xs))=dX N M B1:=by rw[hN,hM,hB1];rfl
 have hD2:dC ys.length (Bj (Bq ys))=dX N M B2:=by rw[hN,hM,hB2,<-hxy];rfl
 rw[hD1,hD2]
 rw[hzl]at kO
 rw[<-hxy]at kV2
 obtain⟨len,hlen⟩:∃q,q=xs.length:=⟨_,rfl⟩
 obtain⟨C1,hC1⟩:∃q,q=Bu xs:=⟨_,rfl⟩
 obtain⟨C2,hC2⟩:∃q,q=Bu ys:=⟨_,rfl⟩
 obtain⟨zs,hzs⟩:∃q,q=B8 op xs ys:=⟨_,rfl⟩
 rw[<-hzs]at kO hmore hzg hzl ⊢
 rw[<-hlen]at kO kV1 kV2 hzl hn hN ⊢
 rw[<-hC1]at kV1
 rw[<-hC2]at kV2
 obtain⟨RB,hRB⟩:∃R,R=Bj (Bq zs):=⟨_,rfl⟩
 have hDR:dC len RB=dX N M RB:=by rw[hN,hM,hlen];rfl
 rw[<-hRB,hDR]at kO ⊢
 refine Tri.valA rfl rfl (Bk F7_ok fun I0 ρ0 w0 Q hρ hQ=>?_) h
 obtain⟨A,hA⟩:∃A,A=stdA:=⟨_,rfl⟩
 have kF0:=K3 hA
 have kF1:=Po hA
 have kD0:=LI hA N N M M B1 B2
 have kD1:=PB hA N N M M B1 B2
 unfold fL
 obtain⟨FL,hFL⟩:∃q,q=fC++fC:=⟨_,rfl⟩
 obtain⟨DL,hDL⟩:∃q,q=dX N M B1++dX N M B2:=⟨_,rfl⟩
 have kRR:=fun a b=>UR op a b hop
 unfold fL at kRR
 rw[<-hFL]at kF0 kF1 k0' kRR ⊢
 replace kRR:=Hid.mk kRR
 rw[<-hDL]at kD0 kD1 ⊢
 obtain⟨FD,hFD⟩:∃q,q=fD:=⟨_,rfl⟩
 unfold fD Cp at *
 with_reducible refine Bf hA hd hQ 200 ?hk ?_
 case hk=>trivial
 conv=>arg 9;cbv
 try simp only[OK]
 repeat' first|(with_reducible refine OKK.loop ?_)|((with_reducible refine⟨fun hbr=>?_,fun hbr=>?_⟩)<;>(try simp(disch:=omega)only[hA,Ba]at hbr)<;>(try (with_reducible exfalso;omega)))|((with_reducible refine Be hA hd hQ 200 ?hk ?_);(case hk=>trivial);(conv=>arg 9;cbv);(try simp only[OK]))|((with_reducible refine cO ?hg ?_);(case hg=>with_reducible exact Bi F16_ok);refine tM (k0' _) ?_;rintro _ _ ⟨rfl,rfl⟩)
 refine oK_ (msk 146 [0,1,2,6,7,8,9,11,12]) (OKs.mv [0,1,2] [] (by rw[hρ];rfl) ⟨by decide,by simp[Bd],by simp⟩ ?_)
 refine oL_ (fun m st=>∃(z:Int) (Z:Nat) (cp:Option Nat) (c:List EV),m=((2:Int)-z).toNat/\0<=z/\z<=2/\Z=z.toNat/\c=[EV.isl len none C1,.isl len none C2].take Z/\((z=0/\cp=some 0)\/(1<=z/\cp=none))/\
   st=⟨mkT 146 [(0,.lit (.int .i64 op)),(1,.isl 2 none FL),(2,.isl 2 none DL),(6,.ptr 0 0),(7,.lit (.int .i64 0)),(8,.lit (.int .i64 0)),(9,.ptr 1 0),(11,.sl 1 2 0 Z cp),(12,.lit (.int .i64 z))],[.blk [.lit (.int .i64 0),.lit (.int .i64 0),.lit (.int .i64 0),.lit (.slice none 0 0),.lit (.slice none 0 0),.lit (.slice none 0 0)],.blk FD,.blk c]⟩)
  (fun m st hs' ih=>?_) ⟨0,0,some 0,[],rfl,by omega,by omega,rfl,rfl,.inl ⟨rfl,rfl⟩,by rw[hFD];rfl⟩
 obtain⟨z,Z,cp,c,hm,hz0,hz1,hZ,hc,hcp,rfl⟩:=hs'
 have hz:z=0\/z=1\/z=2:=by omega
 have hcl:c.length=Z:=by rw[hc,lK];simp;omega
 subst hFD
 unfold fC dX at *
 rcases hz with rfl|rfl|rfl
 ·obtain rfl:Z=0:=by omega
  obtain rfl:cp=some 0:=by rcases hcp with ⟨_,h⟩|⟨h,_⟩<;>first|exact h|omega
  with_reducible refine Bf hA hd hQ 200 ?hk ?_
  case hk=>trivial
  conv=>arg 9;cbv
  try simp only[OK]
  repeat' first|(with_reducible refine OKK.again ?_)|((with_reducible refine⟨fun hbr=>?_,fun hbr=>?_⟩)<;>(try simp(disch:=omega)only[hA,Ba]at hbr)<;>(try (with_reducible exfalso;omega)))|((with_reducible refine Be hA hd hQ 200 ?hk ?_);(case hk=>trivial);(conv=>arg 9;cbv);(try simp only[OK]))|((with_reducible refine Bn ?hn ?_);(case hn=>((simp(disch:=omega)only[hA,Ba])<;>omega)))|((refine⟨_,_,?l1,kF0,rfl,?_⟩);(case l1=>exact rfl))|((refine⟨_,_,?l1,kD0,rfl,?_⟩);(case l1=>exact rfl))|((with_reducible refine cO ?hg ?_);(case hg=>with_reducible exact Bi F17_ok);refine tM (kC1 _) ?_;rintro _ _ ⟨rfl,rfl⟩)|((with_reducible refine cO ?hg ?_);(case hg=>with_reducible exact Bi F18_ok);refine tM (kV1 _) ?_;rintro _ _ ⟨rfl,rfl⟩)
  refine oK_ (msk 146 [0,1,2,6,7,8,9,11,12]) (OKs.mv [0,1,5] [] (by rw[hρ];rfl) ⟨by decide,by simp[Bd],by simp⟩ (ih _ _ ⟨A.ib .add .i64 0 1,_,_,_,rfl,by simp(disch:=omega)only[hA,Ba]<;>omega,by simp(disch:=omega)only[hA,Ba]<;>omega,?_,?_,.inr ⟨by simp(disch:=omega)only[hA,Ba]<;>omega,rfl⟩,rfl⟩ (by simp(disch:=omega)only[hA,Ba]<;>omega)))
  ·simp(disch:=omega)only[hA,Ba];rfl
  ·refine(DN hA (by rw[hc];rfl) rfl (by rw[hc];rfl) rfl _ _).trans ?_
   rw[hc,hA];rfl
 ·obtain rfl:Z=1:=by omega
  obtain rfl:cp=none:=by rcases hcp with ⟨h,_⟩|⟨_,h⟩<;>first|exact h|omega
  with_reducible refine Bf hA hd hQ 200 ?hk ?_
  case hk=>trivial
  conv=>arg 9;cbv
  try simp only[OK]
  repeat' first|(with_reducible refine OKK.again ?_)|((with_reducible refine⟨fun hbr=>?_,fun hbr=>?_⟩)<;>(try simp(disch:=omega)only[hA,Ba]at hbr)<;>(try (with_reducible exfalso;omega)))|((with_reducible refine Be hA hd hQ 200 ?hk ?_);(case hk=>trivial);(conv=>arg 9;cbv);(try simp only[OK]))|((with_reducible refine Bn ?hn ?_);(case hn=>((simp(disch:=omega)only[hA,Ba])<;>omega)))|((refine⟨_,_,?l1,kF1,rfl,?_⟩);(case l1=>exact rfl))|((refine⟨_,_,?l1,kD1,rfl,?_⟩);(case l1=>exact rfl))|((with_reducible refine cO ?hg ?_);(case hg=>with_reducible exact Bi F17_ok);refine tM (kC2 _) ?_;rintro _ _ ⟨rfl,rfl⟩)|((with_reducible refine cO ?hg ?_);(case hg=>with_reducible exact Bi F18_ok);refine tM (kV2 _) ?_;rintro _ _ ⟨rfl,rfl⟩)
  refine oK_ (msk 146 [0,1,2,6,7,8,9,11,12]) (OKs.mv [0,1,5] [] (by rw[hρ];rfl) ⟨by decide,by simp[Bd],by simp⟩ (ih _ _ ⟨A.ib .add .i64 1 1,_,_,_,rfl,by simp(disch:=omega)only[hA,Ba]<;>omega,by simp(disch:=omega)only[hA,Ba]<;>omega,?_,?_,.inr ⟨by simp(disch:=omega)only[hA,Ba]<;>omega,rfl⟩,rfl⟩ (by simp(disch:=omega)only[hA,Ba]<;>omega)))
  ·simp(disch:=omega)only[hA,Ba];rfl
  ·refine(DN hA (by rw[hc];rfl) rfl (by rw[hc];rfl) rfl _ _).trans ?_
   rw[hc,hA];rfl
 clear ih
 obtain rfl:Z=2:=by omega
 obtain rfl:cp=none:=by rcases hcp with ⟨h,_⟩|⟨_,h⟩<;>first|exact h|omega
 obtain rfl:c=[EV.isl len none C1,.isl len none C2]:=hc
 refine OKs.mv [0,1] [2] (by rw[hρ];rfl) ⟨by decide,by simp[Bd],fun id hid=>by simp at hid;subst hid;exact⟨_,rfl,rfl⟩⟩ ?_
 with_reducible refine Bf hA hd hQ 200 ?hk ?_
 case hk=>trivial
 conv=>arg 9;cbv
 try simp only[OK]
 repeat' first|(with_reducible refine OKK.loop ?_)|((with_reducible refine⟨fun hbr=>?_,fun hbr=>?_⟩)<;>(try simp(disch:=omega)only[hA,Ba]at hbr)<;>(try (with_reducible exfalso;omega)))|((with_reducible refine Be hA hd hQ 200 ?hk ?_);(case hk=>trivial);(conv=>arg 9;cbv);(try simp only[OK]))
 refine OKs.loopU ?_
 with_reducible refine Bf hA hd hQ 200 ?hk ?_
 case hk=>trivial
 conv=>arg 9;cbv
 try simp only[OK]
 repeat' first|(with_reducible refine OKK.again ?_)|((with_reducible refine⟨fun hbr=>?_,fun hbr=>?_⟩)<;>(try simp(disch:=omega)only[hA,Ba]at hbr)<;>(try (with_reducible exfalso;omega)))|((with_reducible refine Be hA hd hQ 200 ?hk ?_);(case hk=>trivial);(conv=>arg 9;cbv);(try simp only[OK]))|((with_reducible refine Bn ?hn ?_);(case hn=>((simp(disch:=omega)only[hA,Ba])<;>omega)))|((refine⟨_,_,?l1,(Ct hA _ _),rfl,?_⟩);(case l1=>exact rfl))|((refine⟨_,_,?l1,(C5 hA _ _),rfl,?_⟩);(case l1=>exact rfl))
 refine OKs.lpU ?_
 with_reducible refine Bf hA hd hQ 200 ?hk ?_
 case hk=>trivial
 conv=>arg 9;cbv
 try simp only[OK]
 repeat' first|(with_reducible refine OKK.loop ?_)|((with_reducible refine⟨fun hbr=>?_,fun hbr=>?_⟩)<;>(try simp(disch:=omega)only[hA,Ba]at hbr)<;>(try (with_reducible exfalso;omega)))|((with_reducible refine Be hA hd hQ 200 ?hk ?_);(case hk=>trivial);(conv=>arg 9;cbv);(try simp only[OK]))
 clear hcp hm kC1 kC2 kV1 kV2 kF0 kF1 kD0 kD1
 refine oK_ (msk 146 [0,1,6,7,8,9,11,15,16]) (OKs.mv [0,1,2] [] (by rw[hρ];rfl) ⟨by decide,by simp[Bd],by simp⟩ ?_)
 refine oL_ (fun m st=>∃(z:Int) (Z:Nat) (cp:Option Nat) (c:List EV),m=((len:Int)-z).toNat/\0<=z/\z<=len/\Z=z.toNat/\c=Bu (zs.take Z)/\((z=0/\cp=some 0)\/(1<=z/\cp=none))/\
   st=⟨mkT 146 [(0,.lit (.int .i64 op)),(1,.isl 2 none FL),(6,.ptr 0 0),(7,.lit (.int .i64 0)),(8,.lit (.int .i64 0)),(9,.ptr 1 0),(11,.isl 2 none [EV.isl len none C1,.isl len none C2]),(15,.sl 4 2 0 Z cp),(16,.lit (.int .i64 z))],[.blk [.lit (.int .i64 0),.lit (.int .i64 0),.lit (.int .i64 0),.lit (.slice none 0 0),.lit (.slice none 0 0),.lit (.slice none 0 0)],.blk fD,.blk c]⟩)
  (fun m st hs' ih=>?_) ⟨0,0,some 0,[],rfl,by omega,by omega,rfl,rfl,.inl ⟨rfl,rfl⟩,rfl⟩
 obtain⟨z,Z,cp,c,hm,hz0,hz1,hZ,hc,hcp,rfl⟩:=hs'
 have hcl:c.length=Z*4:=by rw[hc,Dw,lK];omega
 have hcc:clL c=true:=by rw[hc];exact CO _
 obtain⟨a,ha⟩:∃a,a=xs.getD z.toNat 0:=⟨_,rfl⟩
 obtain⟨b,hb⟩:∃b,b=ys.getD z.toNat 0:=⟨_,rfl⟩
 by_cases hzl2:z<len
 ·have hL1:List.take 4 (List.drop (A.idx 0 z 4) C1)=nC a:=by rw[hA,B0,Nat.zero_add,hC1,ha];exact hg1.out _ (by omega)
  have hL2:List.take 4 (List.drop (A.idx 0 z 4) C2)=nC b:=by rw[hA,B0,Nat.zero_add,hC2,hb];exact hg2.out _ (by omega)
  have hmr:Hid (Bu (zs.take (z.toNat+1))=c++nC (fI op a b)):=Hid.mk (by rw[hc,hZ,ha,hb,<-hzg.out _ (by omega)];exact hmore.out _ (by omega))
  have kR:=kRR.out a b;clear kRR;have hnc:clL (nC (fI op a b))=true:=rfl;generalize fI op a b=y at *;clear hg1 hg2 hzg hmore;unfold fD nC at *
  with_reducible refine Bf hA hd hQ 200 ?hk ?_
  case hk=>trivial
  conv=>arg 9;cbv
  try simp only[OK]
  repeat' first|(with_reducible refine OKK.loop ?_)|((with_reducible refine⟨fun hbr=>?_,fun hbr=>?_⟩)<;>(try simp(disch:=omega)only[hA,Ba]at hbr)<;>(try (with_reducible exfalso;omega)))|((with_reducible refine Be hA hd hQ 200 ?hk ?_);(case hk=>trivial);(conv=>arg 9;cbv);(try simp only[OK]))|((with_reducible refine Bn ?hn ?_);(case hn=>((simp(disch:=omega)only[hA,Ba])<;>omega)))|((refine⟨_,_,?l1,(Ct hA _ _),rfl,?_⟩);(case l1=>exact rfl))
  refine oK_ (msk 146 [0,1,6,7,8,9,11,15,16,17,18]) (OKs.mv [0,1,2,3] [] (by rw[hρ];rfl) ⟨by decide,by simp[Bd],by simp⟩ ?_)
  refine oL_ (fun m st=>∃(j:Int) (J:Nat) (cq:Option Nat) (e d:List EV),m=((2:Int)-j).toNat/\0<=j/\j<=2/\J=j.toNat/\e=(nC a++nC b).take (4*J)/\((j=0/\cq=some 0)\/(1<=j/\cq=none))/\c=d/\
   st=⟨mkT 146 [(0,.lit (.int .i64 op)),(1,.isl 2 none FL),(6,.ptr 0 0),(7,.lit (.int .i64 0)),(8,.lit (.int .i64 0)),(9,.ptr 1 0),(11,.isl 2 none [EV.isl len none C1,.isl len none C2]),(15,.sl 4 2 0 Z cp),(16,.lit (.int .i64 z)),(17,.sl 4 3 0 J cq),(18,.lit (.int .i64 j))],[.blk [.lit (.int .i64 0),.lit (.int .i64 0),.lit (.int .i64 0),.lit (.slice none 0 0),.lit (.slice none 0 0),.lit (.slice none 0 0)],.blk fD,.blk d,.blk e]⟩)
   (fun m st hs' ih2=>?_) ⟨0,0,some 0,[],_,rfl,by omega,by omega,rfl,rfl,.inl ⟨rfl,rfl⟩,?_,rfl⟩
  ·obtain⟨j,J,cq,e,d,hm2,hj0,hj1,hJ,he,hcq,rfl,rfl⟩:=hs'
   have hj:j=0\/j=1\/j=2:=by omega
   have hel:e.length=J*4:=by rw[he,lK];simp[nC];omega
   unfold fD at *;rcases hj with rfl|rfl|rfl
   ·obtain rfl:J=0:=by omega
    obtain rfl:cq=some 0:=by rcases hcq with ⟨_,h⟩|⟨h,_⟩<;>first|exact h|omega
    with_reducible refine Bf hA hd hQ 200 ?hk ?_
    case hk=>trivial
    conv=>arg 9;cbv
    try simp only[OK]
    repeat' first|(with_reducible refine OKK.again ?_)|((with_reducible refine⟨fun hbr=>?_,fun hbr=>?_⟩)<;>(try simp(disch:=omega)only[hA,Ba]at hbr)<;>(try (with_reducible exfalso;omega)))|((with_reducible refine Be hA hd hQ 200 ?hk ?_);(case hk=>trivial);(conv=>arg 9;cbv);(try simp only[OK]))|((with_reducible refine Bn ?hn ?_);(case hn=>((simp(disch:=omega)only[hA,Ba])<;>omega)))|((refine⟨_,_,?l1,(Ct hA _ _),rfl,?_⟩);(case l1=>exact rfl))|((refine⟨_,_,?l1,hL1,rfl,?_⟩);(case l1=>exact rfl))
    refine oK_ (msk 146 [0,1,6,7,8,9,11,15,16,17,18]) (OKs.mv [0,1,2,5] [] (by rw[hρ];rfl) ⟨by decide,by simp[Bd],by simp⟩ (ih2 _ _ ⟨A.ib .add .i64 0 1,_,_,_,_,rfl,by simp(disch:=omega)only[hA,Ba]<;>omega,by simp(disch:=omega)only[hA,Ba]<;>omega,?_,?_,.inr ⟨by simp(disch:=omega)only[hA,Ba]<;>omega,rfl⟩,?_,rfl⟩ (by simp(disch:=omega)only[hA,Ba]<;>omega)))
    ·simp(disch:=omega)only[hA,Ba];rfl
    ·exact(DN hA (by rw[he];rfl) rfl (by rw[he];rfl) rfl _ _).trans (by rw[he,hA];rfl)
    ·exact(BA _ _ _ hcc).symm
   ·obtain rfl:J=1:=by omega
    obtain rfl:cq=none:=by rcases hcq with ⟨h,_⟩|⟨_,h⟩<;>first|exact h|omega
    with_reducible refine Bf hA hd hQ 200 ?hk ?_
    case hk=>trivial
    conv=>arg 9;cbv
    try simp only[OK]
    repeat' first|(with_reducible refine OKK.again ?_)|((with_reducible refine⟨fun hbr=>?_,fun hbr=>?_⟩)<;>(try simp(disch:=omega)only[hA,Ba]at hbr)<;>(try (with_reducible exfalso;omega)))|((with_reducible refine Be hA hd hQ 200 ?hk ?_);(case hk=>trivial);(conv=>arg 9;cbv);(try simp only[OK]))|((with_reducible refine Bn ?hn ?_);(case hn=>((simp(disch:=omega)only[hA,Ba])<;>omega)))|((refine⟨_,_,?l1,(C5 hA _ _),rfl,?_⟩);(case l1=>exact rfl))|((refine⟨_,_,?l1,hL2,rfl,?_⟩);(case l1=>exact rfl))
    refine oK_ (msk 146 [0,1,6,7,8,9,11,15,16,17,18]) (OKs.mv [0,1,2,5] [] (by rw[hρ];rfl) ⟨by decide,by simp[Bd],by simp⟩ (ih2 _ _ ⟨A.ib .add .i64 1 1,_,_,_,_,rfl,by simp(disch:=omega)only[hA,Ba]<;>omega,by simp(disch:=omega)only[hA,Ba]<;>omega,?_,?_,.inr ⟨by simp(disch:=omega)only[hA,Ba]<;>omega,rfl⟩,?_,rfl⟩ (by simp(disch:=omega)only[hA,Ba]<;>omega)))
    ·simp(disch:=omega)only[hA,Ba];rfl
    ·exact(DN hA (by rw[he];rfl) rfl (by rw[he];rfl) rfl _ _).trans (by rw[he,hA];rfl)
    ·exact(BA _ _ _ hcc).symm
   clear ih2;obtain rfl:J=2:=by omega
   obtain rfl:cq=none:=by rcases hcq with ⟨h,_⟩|⟨_,h⟩<;>first|exact h|omega
   obtain rfl:e=nC a++nC b:=he;refine OKs.mv [0,1,2] [3] (by rw[hρ];rfl) ⟨by decide,by simp[Bd],fun id hid=>by simp at hid;subst hid;exact⟨_,rfl,rfl⟩⟩ ?_
   change OKs _ _ _ _ _ _ _ _ ⟨mkT 146 [(0,.lit (.int .i64 op)),(1,.isl 2 none FL),(6,.ptr 0 0),(7,.lit (.int .i64 0)),(8,.lit (.int .i64 0)),(9,.ptr 1 0),(11,.isl 2 none [EV.isl len none C1,.isl len none C2]),(15,.sl 4 2 0 Z cp),(16,.lit (.int .i64 z)),(17,.isl 2 none (nC a++nC b)),(18,.lit (.int .i64 2))],[.blk [.lit (.int .i64 0),.lit (.int .i64 0),.lit (.int .i64 0),.lit (.slice none 0 0),.lit (.slice none 0 0),.lit (.slice none 0 0)],.blk fD,.blk (mvL _ _ c)]⟩
   rw[BA _ _ _ hcc];unfold fD nC at *;rcases hcp with ⟨hz2,rfl⟩|⟨hz2,rfl⟩
   all_goals
    with_reducible refine Bf hA hd hQ 200 ?hk ?_
    case hk=>trivial
    conv=>arg 9;cbv
    try simp only[OK]
    repeat' first|(with_reducible refine OKK.again ?_)|((with_reducible refine⟨fun hbr=>?_,fun hbr=>?_⟩)<;>(try simp(disch:=omega)only[hA,Ba]at hbr)<;>(try (with_reducible exfalso;omega)))|((with_reducible refine Be hA hd hQ 200 ?hk ?_);(case hk=>trivial);(conv=>arg 9;cbv);(try simp only[OK]))|((with_reducible refine Bn ?hn ?_);(case hn=>((simp(disch:=omega)only[hA,Ba])<;>omega)))|((with_reducible refine cO ?hg ?_);(case hg=>with_reducible exact Bi F19_ok);refine tM (kR _ _) ?_;rintro _ _ ⟨rfl,rfl⟩)
    refine oK_ (msk 146 [0,1,6,7,8,9,11,15,16]) (OKs.mv [0,1,5] [] (by rw[hρ];rfl) ⟨by decide,by simp[Bd],by simp⟩ (ih _ _ ⟨A.ib .add .i64 z 1,_,_,_,rfl,by simp(disch:=omega)only[hA,Ba]<;>omega,by simp(disch:=omega)only[hA,Ba]<;>omega,?_,?_,.inr ⟨by simp(disch:=omega)only[hA,Ba]<;>omega,rfl⟩,rfl⟩ (by simp(disch:=omega)only[hA,Ba]<;>omega)))
    ·simp(disch:=omega)only[hA,Ba]<;>omega
    ·refine(DN hA hcl rfl hcc hnc _ _).trans ?_
     rw[<-hmr.out];exact congrArg (fun q=>Bu (zs.take q)) (by simp(disch:=omega)only[hA,Ba]<;>omega)
  ·exact(BA _ _ _ hcc).symm
 ·refine OKs.mv [0,1] [2] (by rw[hρ];rfl) ⟨by decide,by simp[Bd],fun id hid=>by simp at hid;subst hid;exact⟨_,rfl,hcc⟩⟩ ?_
  refine OKs.up 15 (.isl Z none c) (Up.cap _ _ _) ?_;obtain rfl:Z=len:=by omega
  rw[lT (by omega)]at hc
  rw[<-hc]at kO;unfold fD at *
  with_reducible refine Bf hA hd hQ 200 ?hk ?_
  case hk=>trivial
  conv=>arg 9;cbv
  try simp only[OK]
  repeat' first|((with_reducible refine⟨fun hbr=>?_,fun hbr=>?_⟩)<;>(try simp(disch:=omega)only[hA,Ba]at hbr)<;>(try (with_reducible exfalso;omega)))|((with_reducible refine Be hA hd hQ 200 ?hk ?_);(case hk=>trivial);(conv=>arg 9;cbv);(try simp only[OK]))|((with_reducible refine Bn ?hn ?_);(case hn=>((simp(disch:=omega)only[hA,Ba])<;>omega)))|((refine⟨_,_,?l1,(Ct hA _ _),rfl,?_⟩);(case l1=>exact rfl))|((with_reducible refine cO ?hg ?_);(case hg=>with_reducible exact Bi F10_ok);refine tM (kO _) ?_;rintro _ _ ⟨rfl,rfl⟩)
  all_goals exact fI_ rfl rfl
section
theorem Tri.fz1p{P:Program}{G:List (List EV)}{f:FuncId}{args:List EV}{n:Nat}{B:List EV}{F:EV->EV}(hB:clL B=true)(ha:clL args=true)
  (hF1:∀g z x,mvE g z (F x)=F (mvE g z x)) (hF3:∀x,clE x=true->clE (F x)=true) (hF2:∀x y,Up x y->Up (F x) (F y))
  (t:Tri P G f args [] fun v h'=>∃(i es:Nat) (c:Option Nat),v=F (.sl es i 0 n c)/\Bh h' i = .blk B) (h:EH) :
  Tri P G f args h fun v h'=>v=F (.isl n none B)/\h'=h:=by
 have t1:Tri P G f args [] fun v h'=>∃(c:Option Nat),v=F (.isl n c B):=
  Tri.mv t fun v h' ⟨i,es,c,hv,hg⟩=>by
   refine⟨[],[i],rfl,⟨by simp,by simp,fun id hid=>?_⟩,c,?_⟩
   ·simp at hid;subst hid
    exact⟨_,hg,hB⟩
   ·rw[hv,hF1]
    simp[mvE,mvG,mvZ,inL,hg]
 have t2:Tri P G f args [] fun v _=>v=F (.isl n none B):=Tri.up (R:=fun v _=>Up v (F (.isl n none B))) (t1.mono fun v h' ⟨c,hv⟩=>by
  rw[hv];exact hF2 _ _ (Up.cap _ _ _)) fun v h' hu=>⟨_,rfl,hu⟩
 exact Tri.valA (hF3 _ rfl) ha t2 h
theorem Up.tup2{x y a b:EV}(h1:Up x y)(h2:Up a b):Up (.tup [x,a]) (.tup [y,b]):=Up.tup rfl fun j p q hp hq=>by
 match j,hp,hq with
 |0,hp,hq=>simp at hp hq;subst hp;subst hq;exact h1
 |1,hp,hq=>simp at hp hq;subst hp;subst hq;exact h2
 |j+2,hp,hq=>simp at hp
def ruC(op:Int):List EV:=[.lit (.int .i64 2),.fn (.func 25) [] [],.fn (.func 26) [] [],.lit (.bool false),.fn (.func 77) [] [.iptr [.lit (.int .i64 op)] 0]]
theorem Ug(op:Int)(hop:1<=op/\op<=4)(h:EH):Tri Tryz.prog gs 11 [.lit (.int .i64 op)] h fun v h'=>v = .agg (ruC op)/\h'=h:=by
 obtain rfl|rfl|rfl|rfl:op=1\/op=2\/op=3\/op=4:=by omega
 all_goals exact closedA (by kernel_rfl) rfl rfl h
theorem Uo(op:Int)(hop:1<=op/\op<=4)(h:EH):Tri Tryz.prog gs 12 [.agg (ruC op),fL] h fun v h'=>v = .tup [.agg fC,fL,.lit (.int .i64 0)]/\h'=h:=by
 obtain rfl|rfl|rfl|rfl:op=1\/op=2\/op=3\/op=4:=by omega
 all_goals exact closedA (by kernel_rfl) rfl rfl h
section
variable {P:Program} {G:List (List EV)} {ro:Option Nat} {I0:Imm} {ρ0:Ren} {w0:World} {Q:Exit->Act->World->Prop}
theorem OKs.st{k:List KI}{s s':St}(e:s=s')(h:OKs P G ro I0 ρ0 w0 Q k s'):OKs P G ro I0 ρ0 w0 Q k s:=by rw[e];exact h
end
def dL(N:Int)(M:Nat)(B1 B2:List EV):EV:=.isl 2 none (dX N M B1++dX N M B2)
theorem YF(n:Nat)(N:Int)(hN:N=n)(hn:n<=4096)(M:Nat)(hM:M=8*n)(B1 B2 C1 C2:List EV)(hC1:clL C1=true)(hC2:clL C2=true)
  (k1:∀h:EH,Tri Tryz.prog gs 55 [.iptr (aC N M B1) 0] h fun v h'=>v = .isl n none C1/\h'=h)
  (k2:∀h:EH,Tri Tryz.prog gs 55 [.iptr (aC N M B2) 0] h fun v h'=>v = .isl n none C2/\h'=h) :
  Tri Tryz.prog gs 13 [fL,dL N M B1 B2] [] fun v h'=>∃(i es:Nat) (c:Option Nat),v = .tup [.sl es i 0 2 c,.lit (.int .i64 0)]/\Bh h' i = .blk [.isl n none C1,.isl n none C2]:=by
 have o1:=Ln N M B1 (by omega) (by omega)
 have o2:=Ln N M B2 (by omega) (by omega)
 unfold Cp at *
 generalize aC N M B1=AC1 at *
 generalize aC N M B2=AC2 at *
 refine Bk F13_ok fun I0 ρ0 w0 Q hρ hQ=>?_
 obtain⟨A,hA⟩:∃A,A=stdA:=⟨_,rfl⟩
 have kF0:=K3 hA
 have kF1:=Po hA
 have kD0:=LI hA N N M M B1 B2
 have kD1:=PB hA N N M M B1 B2
 unfold fL dL
 obtain⟨FL,hFL⟩:∃q,q=fC++fC:=⟨_,rfl⟩
 obtain⟨DL,hDL⟩:∃q,q=dX N M B1++dX N M B2:=⟨_,rfl⟩
 rw[<-hFL]at kF0 kF1 ⊢
 rw[<-hDL]at kD0 kD1 ⊢
 unfold fC dX at *
 with_reducible refine Bf hA hd hQ 200 ?hk ?_
 case hk=>trivial
 conv=>arg 9;cbv
 try simp only[OK]
 repeat' first|(with_reducible refine OKK.loop ?_)
 refine OKs.loopU ?_
 with_reducible refine Bf hA hd hQ 200 ?hk ?_
 case hk=>trivial
 conv=>arg 9;cbv
 try simp only[OK]
 repeat' first|(with_reducible refine OKK.again ?_)|((with_reducible refine⟨fun hbr=>?_,fun hbr=>?_⟩)<;>(try simp(disch:=omega)only[hA,Ba,not_false_eq_true,reduceCtorEq]at hbr)<;>(try (with_reducible exfalso;omega)))|((with_reducible refine Be hA hd hQ 200 ?hk ?_);(case hk=>trivial);(conv=>arg 9;cbv);(try simp only[OK]))|((with_reducible refine Bn ?hn ?_);(case hn=>((simp(disch:=omega)only[hA,Ba])<;>omega)))|((refine⟨_,_,?l1,kF0,rfl,?_⟩);(case l1=>exact rfl))|((refine⟨_,_,?l1,kD0,rfl,?_⟩);(case l1=>exact rfl))|((with_reducible refine cO ?hg ?_);(case hg=>with_reducible exact Bi F54_ok);refine tM (o1 _) ?_;rintro _ _ ⟨rfl,rfl⟩)|((with_reducible refine cO ?hg ?_);(case hg=>with_reducible exact Bi F55_ok);refine tM (k1 _) ?_;rintro _ _ ⟨rfl,rfl⟩)
 refine oK_ (msk 55 [0,1,6,13,14,15]) (OKs.mv [3] [] (by rw[hρ];rfl) ⟨by decide,by simp[Bd],by simp⟩ ?_)
 refine OKs.st (s':=⟨mkT 55 [(0,.isl 2 none FL),(1,.isl 2 none DL),(6,.sl 1 0 0 1 none),(13,.isl 2 none DL),(14,.lit (.int .i64 2)),(15,.lit (.int .i64 1))],[.blk [.isl n none C1]]⟩) (by subst hA;rfl) ?_
 refine OKs.lpU ?_
 with_reducible refine Bf hA hd hQ 200 ?hk ?_
 case hk=>trivial
 conv=>arg 9;cbv
 try simp only[OK]
 repeat' first|(with_reducible refine OKK.again ?_)|((with_reducible refine⟨fun hbr=>?_,fun hbr=>?_⟩)<;>(try simp(disch:=omega)only[hA,Ba]at hbr)<;>(try (with_reducible exfalso;omega)))|((with_reducible refine Be hA hd hQ 200 ?hk ?_);(case hk=>trivial);(conv=>arg 9;cbv);(try simp only[OK]))|((with_reducible refine Bn ?hn ?_);(case hn=>((simp(disch:=omega)only[hA,Ba])<;>omega)))|((refine⟨_,_,?l1,kF1,rfl,?_⟩);(case l1=>exact rfl))|((refine⟨_,_,?l1,kD1,rfl,?_⟩);(case l1=>exact rfl))|((with_reducible refine cO ?hg ?_);(case hg=>with_reducible exact Bi F54_ok);refine tM (o2 _) ?_;rintro _ _ ⟨rfl,rfl⟩)|((with_reducible refine cO ?hg ?_);(case hg=>with_reducible exact Bi F55_ok);refine tM (k2 _) ?_;rintro _ _ ⟨rfl,rfl⟩)
 refine oK_ (msk 55 [0,1,6,13,14,15]) (OKs.mv [4] [] (by rw[hρ];rfl) ⟨by decide,by simp[Bd],by simp⟩ ?_)
 refine OKs.st (s':=⟨mkT 55 [(0,.isl 2 none FL),(1,.isl 2 none DL),(6,.sl 1 0 0 2 none),(13,.isl 2 none DL),(14,.lit (.int .i64 2)),(15,.lit (.int .i64 2))],[.blk [.isl n none C1,.isl n none C2]]⟩) (by subst hA;rfl) ?_
 refine OKs.lpU ?_
 with_reducible refine Bf hA hd hQ 200 ?hk ?_
 case hk=>trivial
 conv=>arg 9;cbv
 try simp only[OK]
 repeat' first|(with_reducible refine OKK.loop ?_)|((with_reducible refine⟨fun hbr=>?_,fun hbr=>?_⟩)<;>(try simp(disch:=omega)only[hA,Ba]at hbr)<;>(try (with_reducible exfalso;omega)))|((with_reducible refine Be hA hd hQ 200 ?hk ?_);(case hk=>trivial);(conv=>arg 9;cbv);(try simp only[OK]))
 refine OKs.loopU ?_
 with_reducible refine Bf hA hd hQ 200 ?hk ?_
 case hk=>trivial
 conv=>arg 9;cbv
 try simp only[OK]
 repeat' first|(with_reducible refine OKK.again ?_)|((with_reducible refine⟨fun hbr=>?_,fun hbr=>?_⟩)<;>(try simp(disch:=omega)only[hA,Ba]at hbr)<;>(try (with_reducible exfalso;omega)))|((with_reducible refine Be hA hd hQ 200 ?hk ?_);(case hk=>trivial);(conv=>arg 9;cbv);(try simp only[OK]))|((with_reducible refine Bn ?hn ?_);(case hn=>((simp(disch:=omega)only[hA,Ba])<;>omega)))|((refine⟨_,_,?l1,(Ct hA _ _),rfl,?_⟩);(case l1=>exact rfl))
 refine oK_ (msk 55 [6,40,41,42]) ?_
 refine OKs.st (s':=⟨mkT 55 [(6,.sl 1 0 0 2 none),(40,.sl 1 0 0 2 none),(41,.lit (.int .i64 2)),(42,.lit (.int .i64 1))],[.blk [.isl n none C1,.isl n none C2]]⟩) (by subst hA;rfl) ?_
 refine OKs.lpU ?_
 with_reducible refine Bf hA hd hQ 200 ?hk ?_
 case hk=>trivial
 conv=>arg 9;cbv
 try simp only[OK]
 repeat' first|(with_reducible refine OKK.again ?_)|((with_reducible refine⟨fun hbr=>?_,fun hbr=>?_⟩)<;>(try simp(disch:=omega)only[hA,Ba]at hbr)<;>(try (with_reducible exfalso;omega)))|((with_reducible refine Be hA hd hQ 200 ?hk ?_);(case hk=>trivial);(conv=>arg 9;cbv);(try simp only[OK]))|((with_reducible refine Bn ?hn ?_);(case hn=>((simp(disch:=omega)only[hA,Ba])<;>omega)))|((refine⟨_,_,?l1,(Ct hA _ _),rfl,?_⟩);(case l1=>exact rfl))|((refine⟨_,_,?l1,(C5 hA _ _),rfl,?_⟩);(case l1=>exact rfl))
 refine oK_ (msk 55 [6,40,41,42]) ?_
 refine OKs.st (s':=⟨mkT 55 [(6,.sl 1 0 0 2 none),(40,.sl 1 0 0 2 none),(41,.lit (.int .i64 2)),(42,.lit (.int .i64 2))],[.blk [.isl n none C1,.isl n none C2]]⟩) (by subst hA;rfl) ?_
 refine OKs.lpU ?_
 with_reducible refine Bf hA hd hQ 200 ?hk ?_
 case hk=>trivial
 conv=>arg 9;cbv
 try simp only[OK]
 repeat' first|((with_reducible refine⟨fun hbr=>?_,fun hbr=>?_⟩)<;>(try simp(disch:=omega)only[hA,Ba]at hbr)<;>(try (with_reducible exfalso;omega)))|((with_reducible refine Be hA hd hQ 200 ?hk ?_);(case hk=>trivial);(conv=>arg 9;cbv);(try simp only[OK]))
 exact fI_ rfl ⟨0,1,none,rfl,rfl⟩
theorem SP(xs ys:List Int)(hxy:xs.length=ys.length)(hn:xs.length<=4096)(hx:∀n∈xs,BJ n)(hy:∀n∈ys,BJ n)(N:Int)(hN:N=xs.length)(M:Nat)(hM:M=8*xs.length)(h:EH) :
  Tri Tryz.prog gs 13 [fL,dL N M (Bj (Bq xs)) (Bj (Bq ys))] h fun v h'=>v = .tup [.isl 2 none [.isl xs.length none (Bu xs),.isl xs.length none (Bu ys)],.lit (.int .i64 0)]/\h'=h:=by
 have t:=YF xs.length N hN hn M hM _ _ _ _ (CO xs) (CO ys) (fun h=>N6 xs hn hx N hN M _ hM rfl h) (fun h=>by
  have:=N6 ys (by omega) hy N (by omega) M _ (by omega) rfl h
  rwa [<-hxy]at this)
 exact Tri.fz1p (F:=fun x=>.tup [x,.lit (.int .i64 0)]) rfl rfl (fun _ _ _=>rfl) (fun x h=>by simp[clE,clL,h]) (fun x y hu=>Up.tup2 hu (Up.refl _)) t h
end
theorem GP(a:Int)(h1:0<=a)(h2:a<=9223372036854775807):stdA.ib .quo .i64 a 8=a/8:=by
 show IntKind.i64.wrap (a.tdiv 8)=_
 rw[Int.tdiv_eq_ediv_of_nonneg h1]
 exact GY _ (by omega) (by omega)
theorem H5(a:Int)(h1:0<=a)(h2:a<=9223372036854775807):stdA.ib .rem .i64 a 8=a%8:=by
 show a.tmod 8=_
 rw[Int.tmod_eq_emod_of_nonneg h1]
theorem W5(h:EH):Tri Tryz.prog gs 137 [.agg fC] h fun v h'=>IsP True v/\h'=h:=by
 have k1:=JI
 refine Tri.boolC rfl (Bk F137_ok fun I0 ρ0 w0 Q hρ hQ=>?_) h
 obtain⟨A,hA⟩:∃A,A=stdA:=⟨_,rfl⟩
 unfold Cp fC at *
 with_reducible refine Bf hA hd hQ 200 ?hk ?_
 case hk=>trivial
 conv=>arg 9;cbv
 try simp only[OK]
 repeat' first|((with_reducible refine Be hA hd hQ 200 ?hk ?_);(case hk=>trivial);(conv=>arg 9;cbv);(try simp only[OK]))|((with_reducible refine cO ?hg ?_);(case hg=>with_reducible exact Bi F51_ok);refine tM (k1 _) ?_;rintro _ _ ⟨rfl,rfl⟩)
 all_goals (try (with_reducible refine FinR.self ?_;first|refine FinR.bl rfl ?_|refine FinR.bs rfl ?_|refine FinR.blh rfl ?_ rfl|refine FinR.bsh rfl ?_ rfl))
 all_goals (try simp(disch:=omega)only[hA,Ba,eq_self])
 all_goals trivial
theorem Zf(n:Int)(h:EH):Tri Tryz.prog gs 138 [.agg fC,.agg (nC n)] h fun v h'=>IsP True v/\h'=h:=by
 refine Tri.boolC rfl (Bk F138_ok fun I0 ρ0 w0 Q hρ hQ=>?_) h
 obtain⟨A,hA⟩:∃A,A=stdA:=⟨_,rfl⟩
 unfold fC nC at *
 with_reducible refine Bf hA hd hQ 200 ?hk ?_
 case hk=>trivial
 conv=>arg 9;cbv
 try simp only[OK]
 have hQ1:=hQ
 refine cO (Bi F202_ok) (Bk F202_ok fun I0 ρ0 w0 Q hρ2 hQ=>?_)
 with_reducible refine Bf hA hd hQ 200 ?hk ?_
 case hk=>trivial
 conv=>arg 9;cbv
 try simp only[OK]
 repeat' first|((with_reducible refine⟨fun hbr=>?_,fun hbr=>?_⟩)<;>(try simp(disch:=omega)only[hA,Ba,Ey,not_true_eq_false,not_false_eq_true,ne_eq]at hbr)<;>(try (with_reducible exfalso;omega)))|((with_reducible refine Be hA hd hQ 200 ?hk ?_);(case hk=>trivial);(conv=>arg 9;cbv);(try simp only[OK]))
 all_goals refine fI_ rfl ?_
 all_goals replace hQ:=hQ1
 all_goals
  with_reducible refine Be hA hd hQ 1 ?hk ?_
  case hk=>trivial
  conv=>arg 9;cbv
  try simp only[OK]
 all_goals
  repeat' first|((with_reducible refine Be hA hd hQ 200 ?hk ?_);(case hk=>trivial);(conv=>arg 9;cbv);(try simp only[OK]))
 all_goals (try (with_reducible refine FinR.self ?_;first|refine FinR.bl rfl ?_|refine FinR.bs rfl ?_|refine FinR.blh rfl ?_ rfl|refine FinR.bsh rfl ?_ rfl))
 all_goals (try simp(disch:=omega)only[eq_self])
 all_goals trace_state
theorem Yk(n:Int)(h:EH):Tri Tryz.prog gs 99 [.agg fC,.agg (nC n)] h fun v h'=>v = .lit (.int .i64 0)/\h'=h:=by
 have k1:=W5
 have k2:=Zf n
 refine Tri.valA rfl rfl (Bk F99_ok fun I0 ρ0 w0 Q hρ hQ=>?_) h
 obtain⟨A,hA⟩:∃A,A=stdA:=⟨_,rfl⟩
 unfold fC nC at *
 with_reducible refine Bf hA hd hQ 200 ?hk ?_
 case hk=>trivial
 conv=>arg 9;cbv
 try simp only[OK]
 repeat' first|((with_reducible refine⟨fun hbr=>?_,fun hbr=>?_⟩)<;>(try simp(disch:=omega)only[hA,Ba,reduceCtorEq]at hbr)<;>(try (with_reducible exfalso;omega)))|((with_reducible refine Be hA hd hQ 200 ?hk ?_);(case hk=>trivial);(conv=>arg 9;cbv);(try simp only[OK]))|((with_reducible refine cO ?hg ?_);(case hg=>with_reducible exact Bi F137_ok);(refine tM (k1 _) fun v hh hx=>?_);(obtain⟨⟨b,hv,hb⟩,he⟩:=hx;subst hv;subst he;cases b<;>simp(disch:=omega)only[not_true_eq_false,bF,false_iff,eq_self]at hb)<;>(try (with_reducible exfalso;omega)))|((with_reducible refine cO ?hg ?_);(case hg=>with_reducible exact Bi F138_ok);(refine tM (k2 _) fun v hh hx=>?_);(obtain⟨⟨b,hv,hb⟩,he⟩:=hx;subst hv;subst he;cases b<;>simp(disch:=omega)only[not_true_eq_false,bF,false_iff,eq_self]at hb)<;>(try (with_reducible exfalso;omega)))
 all_goals exact fI_ rfl rfl
def Ck(ns:List Int):List EV:=ns.map fun n=>.lit (.int .u64 (stdA.wr .u64 n))
theorem NW(ns:List Int):(Ck ns).length=ns.length:=by simp[Ck]
theorem KY:∀ns:List Int,clL (Ck ns)=true
 |[]=>rfl
 |n::l=>by show (true&&clL (Ck l))=true;rw[KY l];rfl
theorem Sw(ns:List Int)(i:Nat)(h:i<ns.length):List.take 1 (List.drop i (Ck ns))=[.lit (.int .u64 (stdA.wr .u64 (ns.getD i 0)))]:=by
 have e:Ck ns=Ck (ns.take i)++(.lit (.int .u64 (stdA.wr .u64 (ns.getD i 0)))::Ck (ns.drop (i+1))):=by
  conv=>lhs;rw[<-List.take_append_drop i ns,List.drop_eq_getElem_cons h]
  unfold Ck;rw[List.map_append,List.map_cons,lG,lE h];rfl
 rw[e,List.drop_left' (by rw[NW,lK];omega)];rfl
theorem TA(ns:List Int)(i:Nat)(h:i<ns.length):Ck (ns.take (i+1))=Ck (ns.take i)++[.lit (.int .u64 (stdA.wr .u64 (ns.getD i 0)))]:=by
 rw[List.take_add_one,lE h]
 unfold Ck
 rw[List.map_append]
 simp[lG,lE h]
def bz(l:List Nat)(K:Nat):List EV:=Bj l++List.replicate (K-l.length) (.lit (.int .u8 0))
theorem NI{l:List Nat}{K:Nat}(h:l.length<=K):(bz l K).length=K:=by simp[bz,Dd];omega
theorem NN(l:List Nat)(K:Nat):clL (bz l K)=true:=CU (Ih l) (by
 induction K-l.length with
 |zero=>rfl
 |succ n ih=>show (true&&clL _)=true;rw[ih];rfl)
theorem SQ(l:List Nat)(K b:Nat)(h:l.length<K):stdA.setl (bz l K) l.length [.lit (.int .u8 (b:Int))]=bz (l++[b]) K:=by
 rw[EB]
 unfold bz
 rw[List.take_append_of_le_length (by rw[Dd];omega),lT (by rw[Dd];omega),List.drop_append,List.drop_of_length_le (by rw[Dd];simp),lN,Dd,List.drop_replicate]
 have e:Bj (l++[b])=Bj l++[.lit (.int .u8 (b:Int))]:=by simp[Bj,D9]
 rw[e,lA,lA]
 congr 2
 simp;omega
theorem Nz:∀(w i:Nat) (y:Int),i<w->(leB y w).take (i+1)=(leB y w).take i++[(y/256^i%256).toNat]
 |0,i,y,h=>by omega
 |w+1,0,y,h=>by simp[leB]
 |w+1,i+1,y,h=>by
  have:=Nz w i (y/256) (by omega)
  simp only[leB,List.take_succ_cons,this,lC];rw[Int.ediv_ediv_of_nonneg (by omega),Int.pow_succ,Int.mul_comm]
theorem S6(x:Int)(i:Nat)(hi:i<8)(hx:0<=x):stdA.wr .u8 (stdA.sh .shr .u64 x (8*i:Int))=((x/256^i%256).toNat:Int):=by
 have e:stdA.sh .shr .u64 x (8*i:Int)=x/256^i:=by
  show Int.fdiv _ (2^min (8*i:Int).toNat 64)=_;rw[show min (8*i:Int).toNat 64=8*i by omega,Int.fdiv_eq_ediv_of_nonneg _ (by exact_mod_cast Nat.zero_le (2^(8*i))),Int.pow_mul];rfl
 rw[e,Da]
 omega
theorem HJ(ns:List Int)(hn:ns.length<=4096)(hr:∀n∈ns,BJ n)(N:Nat)(hN:N=ns.length) :
  Tri Tryz.prog gs 427 [.isl N none (Ck ns),.lit (.int .i64 8)] [] fun v h'=>∃(i es:Nat) (c:Option Nat),v = .sl es i 0 (8*N) c/\Bh h' i = .blk (Bj (Bq ns)):=by
 obtain⟨C,hC⟩:∃q,q=Ck ns:=⟨_,rfl⟩
 rw[<-hC]
 refine Bk F427_ok fun I0 ρ0 w0 Q hρ hQ=>?_
 obtain⟨A,hA⟩:∃A,A=stdA:=⟨_,rfl⟩
 with_reducible refine Bf hA hd hQ 200 ?hk ?_
 case hk=>trivial
 conv=>arg 9;cbv
 try simp only[OK]
 repeat' first|(with_reducible refine OKK.loop ?_)|((with_reducible refine Bn ?hn ?_);(case hn=>((simp(disch:=omega)only[hA,Ba])<;>omega)))
 refine oK_ (msk 35 [1,5,14,15,16]) ?_
 obtain⟨K,hK⟩:∃K,K=A.tn (A.ib .mul .i64 8 (A.ofn N)):=⟨_,rfl⟩
 have hK2:K=8*N:=by rw[hK];simp(disch:=omega)only[hA,Ba]<;>omega
 refine oL_ (fun m st=>∃(z:Int) (L:Nat) (c:List EV),m=((N:Int)-z).toNat/\0<=z/\z<=N/\L=8*z.toNat/\c=bz (Bq (ns.take z.toNat)) K/\
   st=⟨mkT 35 [(1,.lit (.int .i64 8)),(5,.sl 1 0 0 L (some K)),(14,.isl N none C),(15,.lit (.int .i64 (A.ofn N))),(16,.lit (.int .i64 z))],[.blk c]⟩)
  (fun m st hs' ih=>?_) ⟨0,_,_,rfl,by omega,by omega,?_,?_,by rw[hK];rfl⟩
 ·obtain⟨z,L,c,hm,hz0,hz1,hL,hc,rfl⟩:=hs'
  have hcl:c.length=K:=by rw[hc];exact NI (by rw[C3,lK];omega)
  by_cases hzN:z<N
  ·have hy:List.take 1 (List.drop (A.idx 0 z 1) C)=[.lit (.int .u64 (stdA.wr .u64 (ns.getD z.toNat 0)))]:=by
    rw[hA,B0,Nat.zero_add,Nat.mul_one,hC];exact Sw ns _ (by omega)
   have hi:BJ (ns.getD z.toNat 0):=hr _ (by rw[lG,lE (by omega)];exact List.getElem_mem _)
   have hm1:=L5 ns z.toNat (by omega)
   generalize ns.getD z.toNat 0=y at *;have hw:=UC y 8 (by omega) hi.1 hi.2
   have hx0:0<=stdA.wr .u64 y:=by
    show 0<=IntKind.u64.wrap y;simp only[IntKind.wrap,IntKind.signed,IntKind.bits,Bool.false_and];simp;omega
   generalize stdA.wr .u64 y=x at *;have hlw:=C3 (ns.take z.toNat);rw[lK]at hlw;generalize Bq (ns.take z.toNat)=l at *
   with_reducible refine Bf hA hd hQ 200 ?hk ?_
   case hk=>trivial
   conv=>arg 9;cbv
   try simp only[OK]
   repeat' first|(with_reducible refine OKK.loop ?_)|((with_reducible refine⟨fun hbr=>?_,fun hbr=>?_⟩)<;>(try simp(disch:=omega)only[hA,Ba]at hbr)<;>(try (with_reducible exfalso;omega)))|((with_reducible refine Be hA hd hQ 200 ?hk ?_);(case hk=>trivial);(conv=>arg 9;cbv);(try simp only[OK]))|((with_reducible refine Bn ?hn ?_);(case hn=>((simp(disch:=omega)only[hA,Ba])<;>omega)))|((refine⟨_,_,?l1,hy,rfl,?_⟩);(case l1=>exact rfl))
   refine oK_ (msk 35 [1,5,7,14,15,16,20,21]) ?_
   refine oL_ (fun m st=>∃(j:Int) (J:Nat) (d:List EV),m=((8:Int)-j).toNat/\0<=j/\j<=8/\J=L+j.toNat/\d=bz (l++(leB y 8).take j.toNat) K/\
     st=⟨mkT 35 [(1,.lit (.int .i64 8)),(5,.sl 1 0 0 J (some K)),(7,.lit (.int .u64 x)),(14,.isl N none C),(15,.lit (.int .i64 (A.ofn N))),(16,.lit (.int .i64 z)),(20,.lit (.int .i64 8)),(21,.lit (.int .i64 j))],[.blk d]⟩)
    (fun m st hs' ih2=>?_) ⟨0,L,c,rfl,by omega,by omega,by simp,by rw[hc];simp,rfl⟩
   obtain⟨j,J,d,hm2,hj0,hj1,hJ,hd2,rfl⟩:=hs';have hll:(l++(leB y 8).take j.toNat).length=J:=by rw[List.length_append,lK,CP];omega
   have hdl:d.length=K:=by rw[hd2];exact NI (by omega)
   by_cases hj8:j<8
   ·have hb:=S6 x j.toNat (by omega) hx0
    rw[show (8*(j.toNat:Int))=A.ib .mul .i64 8 j by simp(disch:=omega)only[hA,Ba]<;>omega,<-hA]at hb
    have ht:=Nz 8 j.toNat x (by omega)
    rw[hw]at ht;have hn:=SQ (l++(leB y 8).take j.toNat) K (x/256^j.toNat%256).toNat (by omega)
    rw[lA,<-ht,<-hd2,hll,<-hb,<-hA]at hn;clear ht hw hm1
    have hn2:A.setl d (A.add 0 (A.mul J 1)) (A.tak (A.mul 1 1) (A.drp 0 [.lit (.int .u8 (A.wr .u8 (A.sh .shr .u64 x (A.ib .mul .i64 8 j))))]))=bz (l++(leB y 8).take (j.toNat+1)) K:=by
     rw[<-hn,show A.add 0 (A.mul J 1)=J by rw[hA];show 0+J*1=J;omega,show ∀X:EV,A.tak (A.mul 1 1) (A.drp 0 [X])=[X]from fun X=>by rw[hA];rfl]
    replace hn2:=Hid.mk hn2;clear hn
    with_reducible refine Bf hA hd hQ 200 ?hk ?_
    case hk=>trivial
    conv=>arg 9;cbv
    try simp only[OK]
    repeat' first|(with_reducible refine OKK.again ?_)|((with_reducible refine⟨fun hbr=>?_,fun hbr=>?_⟩)<;>(try simp(disch:=omega)only[hA,Ba]at hbr)<;>(try (with_reducible exfalso;omega)))|((with_reducible refine Be hA hd hQ 200 ?hk ?_);(case hk=>trivial);(conv=>arg 9;cbv);(try simp only[OK]))|((with_reducible refine Bn ?hn ?_);(case hn=>((simp(disch:=omega)only[hA,Ba])<;>omega)))
    refine oK_ (msk 35 [1,5,7,14,15,16,20,21]) (OKs.mv [0] [] (by rw[hρ];rfl) ⟨by decide,by simp[Bd],by simp⟩ (ih2 _ _ ⟨A.ib .add .i64 j 1,_,_,rfl,by simp(disch:=omega)only[hA,Ba]<;>omega,by simp(disch:=omega)only[hA,Ba]<;>omega,?_,?_,rfl⟩ (by simp(disch:=omega)only[hA,Ba]<;>omega)))
    ·simp(disch:=omega)only[hA,Ba]<;>omega
    ·rw[show (A.ib .add .i64 j 1).toNat=j.toNat+1 by simp(disch:=omega)only[hA,Ba]<;>omega]
     refine(BA _ _ _ ?_).trans hn2.out;exact(congrArg clL hn2.out).trans (NN _ _)
   ·skip
    with_reducible refine Bf hA hd hQ 200 ?hk ?_
    case hk=>trivial
    conv=>arg 9;cbv
    try simp only[OK]
    repeat' first|(with_reducible refine OKK.again ?_)|((with_reducible refine⟨fun hbr=>?_,fun hbr=>?_⟩)<;>(try simp(disch:=omega)only[hA,Ba]at hbr)<;>(try (with_reducible exfalso;omega)))|((with_reducible refine Be hA hd hQ 200 ?hk ?_);(case hk=>trivial);(conv=>arg 9;cbv);(try simp only[OK]))
    refine oK_ (msk 35 [1,5,14,15,16]) (OKs.mv [0] [] (by rw[hρ];rfl) ⟨by decide,by simp[Bd],by simp⟩ (ih _ _ ⟨A.ib .add .i64 z 1,_,_,rfl,by simp(disch:=omega)only[hA,Ba]<;>omega,by simp(disch:=omega)only[hA,Ba]<;>omega,?_,?_,rfl⟩ (by simp(disch:=omega)only[hA,Ba]<;>omega)))
    ·simp(disch:=omega)only[hA,Ba]<;>omega
    ·rw[show (A.ib .add .i64 z 1).toNat=z.toNat+1 by simp(disch:=omega)only[hA,Ba]<;>omega,hm1]
     have hcd:clL d=true:=by rw[hd2];exact NN _ _
     refine(BA _ _ _ hcd).trans ?_;rw[hd2,lT (by rw[CP];omega)]
  ·skip
   with_reducible refine Bf hA hd hQ 200 ?hk ?_
   case hk=>trivial
   conv=>arg 9;cbv
   try simp only[OK]
   repeat' first|((with_reducible refine⟨fun hbr=>?_,fun hbr=>?_⟩)<;>(try simp(disch:=omega)only[hA,Ba]at hbr)<;>(try (with_reducible exfalso;omega)))|((with_reducible refine Be hA hd hQ 200 ?hk ?_);(case hk=>trivial);(conv=>arg 9;cbv);(try simp only[OK]))
   refine fI_ rfl ⟨0,1,some K,?_,?_⟩
   ·rw[show 8*N=L by omega];rfl
   ·show EO.blk c=_
    rw[hc,lT (by omega)]
    unfold bz;rw[C3,show K-8*ns.length=0 by omega];exact congrArg EO.blk (List.append_nil _)
 ·rw[hA];rfl
 ·show A.rep [.lit (.int .u8 0)] (A.tn (A.ib .mul .i64 8 (A.ofn N)))=bz [] K
  rw[<-hK];have e:A.rep [.lit (.int .u8 0)] K=bz [] K:=by rw[hA,JF];rfl
  exact e
theorem TL(ns:List Int)(hn:ns.length<=4096)(hr:∀n∈ns,BJ n)(N:Nat)(hN:N=ns.length)(h:EH) :
  Tri Tryz.prog gs 427 [.isl N none (Ck ns),.lit (.int .i64 8)] h fun v h'=>v = .isl (8*N) none (Bj (Bq ns))/\h'=h:=
 Tri.fz1 (Ih _) rfl (HJ ns hn hr N hN) h
theorem Sm(h:EH):Tri Tryz.prog gs 427 [.lit (.slice none 0 0),.lit (.int .i64 8)] h fun v h'=>v = .isl 0 none []/\h'=h:=by
 refine Tri.fz1 rfl rfl (Bk F427_ok fun I0 ρ0 w0 Q hρ hQ=>?_) h
 obtain⟨A,hA⟩:∃A,A=stdA:=⟨_,rfl⟩
 with_reducible refine Bf hA hd hQ 200 ?hk ?_
 case hk=>trivial
 conv=>arg 9;cbv
 try simp only[OK]
 repeat' first|(with_reducible refine OKK.loop ?_)|((with_reducible refine Bn ?hn ?_);(case hn=>((simp(disch:=omega)only[hA,Ba])<;>omega)))
 refine OKs.loopU ?_
 with_reducible refine Bf hA hd hQ 200 ?hk ?_
 case hk=>trivial
 conv=>arg 9;cbv
 try simp only[OK]
 repeat' first|((with_reducible refine⟨fun hbr=>?_,fun hbr=>?_⟩)<;>(try simp(disch:=omega)only[hA,Ba]at hbr)<;>(try (with_reducible exfalso;omega)))|((with_reducible refine Be hA hd hQ 200 ?hk ?_);(case hk=>trivial);(conv=>arg 9;cbv);(try simp only[OK]))
 all_goals exact fI_ rfl ⟨0,1,some (A.tn (A.ib .mul .i64 8 0)),congrArg (fun q=>EV.sl 1 0 0 q _) (show A.tn 0=0 by rw[hA];rfl),show EO.blk (A.rep _ (A.tn _))=_ by rw[hA];rfl⟩
def plC(r W:Int)(bits nums texts:EV):List EV:=fC++[.lit (.int .i64 r),.lit (.int .i64 0),bits,.lit (.int .i64 W)]++nC 0++[.sb true,nums,texts]
def blC(x:EV):List EV:=fC++[x,.lit (.bool false)]
def bl2:List EV:=blC (.iface 214 (.ptr 2 0))
theorem Sd(b0 b1 b2 b3 b4 b5:EO)(tl:EH)(b:Nat)(R:EH->Prop)(hR:R (b0::b1::b2::b3::b4::b5 :: .blk [.lit (.int .i64 0)]::tl)):Ha Tryz.prog gs 153 [.ptr 6 0,.ptr b 0] (b0::b1::b2::b3::b4::b5 :: .blk [.lit (.int .i64 0)]::tl) R:=by
 refine H3 GW fun I0 ρ0 w0 Q hρ hQ=>?_
 obtain⟨A,hA⟩:∃A,A=stdA:=⟨_,rfl⟩
 with_reducible refine Be hA hd hQ 200 ?hk ?_
 case hk=>trivial
 conv=>arg 9;cbv
 try simp only[OK]
 repeat' first|((with_reducible refine⟨fun hbr=>?_,fun hbr=>?_⟩)<;>(try simp(disch:=omega)only[hA,Ba,not_true_eq_false,not_false_eq_true,ne_eq]at hbr)<;>(try (with_reducible exfalso;omega)))|((with_reducible refine Be hA hd hQ 200 ?hk ?_);(case hk=>trivial);(conv=>arg 9;cbv);(try simp only[OK]))
 exact⟨⟨_,rfl⟩,hR⟩
theorem Pv(b0 b1 b2 b3 b4 b5 b6 b7 b8:EO)(tl:EH)(b:Nat)(R:EH->Prop)(hR:R (b0::b1::b2::b3::b4::b5::b6::b7::b8 :: .blk [.lit (.int .i64 0)]::tl)):Ha Tryz.prog gs 153 [.ptr 9 0,.ptr b 0] (b0::b1::b2::b3::b4::b5::b6::b7::b8 :: .blk [.lit (.int .i64 0)]::tl) R:=by
 refine H3 GW fun I0 ρ0 w0 Q hρ hQ=>?_
 obtain⟨A,hA⟩:∃A,A=stdA:=⟨_,rfl⟩
 with_reducible refine Be hA hd hQ 200 ?hk ?_
 case hk=>trivial
 conv=>arg 9;cbv
 try simp only[OK]
 repeat' first|((with_reducible refine⟨fun hbr=>?_,fun hbr=>?_⟩)<;>(try simp(disch:=omega)only[hA,Ba,not_true_eq_false,not_false_eq_true,ne_eq]at hbr)<;>(try (with_reducible exfalso;omega)))|((with_reducible refine Be hA hd hQ 200 ?hk ?_);(case hk=>trivial);(conv=>arg 9;cbv);(try simp only[OK]))
 exact⟨⟨_,rfl⟩,hR⟩
def u8E(l:List Int):List EV:=l.map fun x=>.lit (.int .u8 x)
theorem LW(l:List Int):(u8E l).length=l.length:=by simp[u8E]
theorem Hw:∀l:List Int,clL (u8E l)=true
 |[]=>rfl
 |x::l=>by show (true&&clL (u8E l))=true;rw[Hw l];rfl
theorem Ld(l:List Int)(i:Nat)(h:i<l.length):List.take 1 (List.drop i (u8E l))=[.lit (.int .u8 (l.getD i 0))]:=by
 have e:u8E l=u8E (l.take i)++(.lit (.int .u8 (l.getD i 0))::u8E (l.drop (i+1))):=by
  conv=>lhs;rw[<-List.take_append_drop i l,List.drop_eq_getElem_cons h]
  unfold u8E;rw[List.map_append,List.map_cons,lG,lE h];rfl
 rw[e,List.drop_left' (by rw[LW,lK];omega)];rfl
theorem PK(l:List Int)(i:Nat)(x:Int)(h:i<l.length):stdA.setl (u8E l) i [.lit (.int .u8 x)]=u8E (l.take i++x::l.drop (i+1)):=by
 rw[EB]
 unfold u8E
 simp[List.map_take,List.map_drop]
def Pd(y r W:Int)(N:Nat)(nm:List EV)(S:Int->Int->Nat->Nat->List EV->List EV->List EV->EH->Prop)(v:EV)(h':EH):Prop:=
 v = .lit (.int .i64 0)/\∃(r' W':Int) (N' B':Nat) (c nm' tx':List EV),r'=r+1/\W'=W+16/\N'=N+1/\(∃l:List Int,c=u8E l/\l.length=B'/\B'=(r.toNat+8)/8)/\nm'=nm++[.lit (.int .u64 (stdA.wr .u64 y))]/\tx'.length=N'/\clL tx'=true/\S r' W' B' N' c nm' tx' h'
def E6(o vx vy:List EV):EH:=[.blk o,.blk bl2,.blk (plC 0 0 (.lit (.slice none 0 0)) (.lit (.slice none 0 0)) (.lit (.slice none 0 0))),.blk vx,.blk vy]
def J4(y:Int)(o vx vy:List EV)(s:St):Prop:=∃j0 j1 j2 j3 j4 j5 j6,s=⟨mkT 18 [(0,.ptr 1 0),(3,.ptr 5 0),(4,.ptr 6 0),(5,.ptr 13 0)],E6 o vx vy++[.blk (nC y),.blk [.lit (.int .i64 0)],j0,j1,j2,j3,j4,j5,j6]⟩
def RL(y:Int)(o vx vy:List EV)(s:St):Prop:=∃j0 j1 j2 j3 j4 j5 j6,s=⟨mkT 18 [(0,.ptr 1 0),(3,.ptr 5 0),(4,.ptr 6 0),(5,.ptr 13 0),(11,.fn (.func 153) [] [.ptr 6 0,.ptr 13 0])],E6 o vx vy++[.blk (nC y),.blk [.lit (.int .i64 0)],j0,j1,j2,j3,j4,j5,j6]⟩
theorem Tj(y:Int)(o vx vy:List EV)(I0:Imm)(ρ0:Ren)(w0:World)(Q:Exit->Act->World->Prop)(hρ:ρ0.length=5)(hF:∀s,J4 y o vx vy s->∀a w,SimX Tryz.prog gs I0 ρ0 w0 s a w->Q .normal a w) :
  OKs Tryz.prog gs none I0 ρ0 w0 Q (D100.pre.map .c) ⟨BK [.ptr 1 0,.agg (nC y)] D100.ntmps,E6 o vx vy⟩:=by
 have hQ:=EndsQ.no (P:=Tryz.prog) (G:=gs) (I0:=I0) (ρ0:=ρ0) (w0:=w0) (Q:=Q)
 obtain⟨A,hA⟩:∃A,A=stdA:=⟨_,rfl⟩
 unfold E6 bl2 blC plC fC nC at *
 with_reducible refine Bf hA hd hQ 200 ?hk ?_
 case hk=>trivial
 conv=>arg 9;cbv
 try simp only[OK]
 have hQ1:=hQ
 refine cO (Bi F424_ok) (Bk F424_ok fun I0 ρ0 w0 Q hρ2 hQ=>?_)
 with_reducible refine Bf hA hd hQ 200 ?hk ?_
 case hk=>trivial
 conv=>arg 9;cbv
 try simp only[OK]
 have hQ2:=hQ
 refine cO (Bi F365_ok) (Bk F365_ok fun I0 ρ0 w0 Q hρ3 hQ=>?_)
 with_reducible refine Bf hA hd hQ 200 ?hk ?_
 case hk=>trivial
 conv=>arg 9;cbv
 try simp only[OK]
 repeat' first|((with_reducible refine⟨fun hbr=>?_,fun hbr=>?_⟩)<;>(try simp(disch:=omega)only[hA,Ba]at hbr)<;>(try (with_reducible exfalso;omega)))|((with_reducible refine Be hA hd hQ 200 ?hk ?_);(case hk=>trivial);(conv=>arg 9;cbv);(try simp only[OK]))
 refine fI_ rfl ?_
 replace hQ:=hQ2
 with_reducible refine Be hA hd hQ 1 ?hk ?_
 case hk=>trivial
 conv=>arg 9;cbv
 try simp only[OK]
 repeat' first|(with_reducible refine And.intro trivial ?_)|((with_reducible refine Be hA hd hQ 200 ?hk ?_);(case hk=>trivial);(conv=>arg 9;cbv);(try simp only[OK]))
 refine fI_ rfl ?_
 replace hQ:=hQ1
 with_reducible refine Be hA hd hQ 1 ?hk ?_
 case hk=>trivial
 conv=>arg 9;cbv
 try simp only[OK]
 repeat' first|(with_reducible refine OKK.nilS ?_)|((with_reducible refine Be hA hd hQ 1 ?hk ?_);(case hk=>trivial);(conv=>arg 9;cbv);(try simp only[OK]))
 refine oK_ (msk 18 [0,3,4,5]) (OKs.nil (hF _ ⟨_,_,_,_,_,_,_,rfl⟩))
theorem YU(y:Int)(o vx vy:List EV)(s0:St)(hs:J4 y o vx vy s0)(I0:Imm)(ρ0:Ren)(w0:World)(Q:Exit->Act->World->Prop)(hF:∀s,RL y o vx vy s->∀a w,SimX Tryz.prog gs I0 ρ0 w0 s a w->Q .normal a w) :
  OKK Tryz.prog gs none I0 ρ0 w0 Q [.ops D100.ops] s0:=by
 obtain⟨j0,j1,j2,j3,j4,j5,j6,rfl⟩:=hs
 have hQ:=EndsQ.no (P:=Tryz.prog) (G:=gs) (I0:=I0) (ρ0:=ρ0) (w0:=w0) (Q:=Q)
 obtain⟨A,hA⟩:∃A,A=stdA:=⟨_,rfl⟩
 unfold E6 bl2 blC plC fC nC at *
 repeat' first|(with_reducible refine OKK.nilS ?_)|((with_reducible refine Be hA hd hQ 1 ?hk ?_);(case hk=>trivial);(conv=>arg 9;cbv);(try simp only[OK]))
 exact OKs.nil (hF _ ⟨_,_,_,_,_,_,_,rfl⟩)
theorem TR{A:Ar}(hA:A=stdA):List.take 1 (List.drop (A.idx 0 (A.ib .quo .i64 0 8) 1) (A.tak (A.mul 1 1) (A.drp 0 [EV.lit (.int .u8 0)])))=[EV.lit (.int .u8 0)]:=by rw[hA];rfl
theorem RQ(y:Int)(o vx vy:List EV):Tri Tryz.prog gs 100 [.ptr 1 0,.agg (nC y)] (E6 o vx vy) (Pd y 0 0 0 [] fun r W B N c nm tx h'=>∃k0 k1 k2 k3 k4 k5 k6 k7 k8 k9 k10 k11 k12,h'=[.blk o,.blk bl2,.blk (plC r W (.sl 1 16 0 B none) (.sl 1 18 0 N none) (.sl 1 20 0 N none)),.blk vx,.blk vy,k0,k1,k2,k3,k4,k5,k6,k7,k8,k9,k10,.blk c,k11,.blk nm,k12,.blk tx]):=by
 refine Iy (F1:=J4 y o vx vy) (F2:=RL y o vx vy) Hh (fun I0 ρ0 w0 Q hρ hF=>Tj y o vx vy I0 ρ0 w0 Q hρ hF) (fun s hs I0 ρ0 w0 Q hF=>YU y o vx vy s hs I0 ρ0 w0 Q hF)
  (fun s hs=>⟨153,[],[.ptr 6 0,.ptr 13 0],by obtain⟨j0,j1,j2,j3,j4,j5,j6,rfl⟩:=hs;rfl,IG GW,fun I0 ρ0 w0 Q hρ hQ=>?_⟩)
 obtain⟨j0,j1,j2,j3,j4,j5,j6,rfl⟩:=hs
 obtain⟨A,hA⟩:∃A,A=stdA:=⟨_,rfl⟩
 unfold E6 bl2 blC plC fC nC at *
 with_reducible refine Bf hA hd hQ 200 ?hk ?_
 case hk=>trivial
 conv=>arg 9;cbv
 try simp only[OK]
 have hQ1:=hQ
 refine cO (Bi F425_ok) (Bk F425_ok fun I0 ρ0 w0 Q hρ2 hQ=>?_)
 with_reducible refine Bf hA hd hQ 200 ?hk ?_
 case hk=>trivial
 conv=>arg 9;cbv
 try simp only[OK]
 have hQ2:=hQ
 refine cO (Bi F366_ok) (Bk F366_ok fun I0 ρ0 w0 Q hρ3 hQ=>?_)
 with_reducible refine Bf hA hd hQ 200 ?hk ?_
 case hk=>trivial
 conv=>arg 9;cbv
 try simp only[OK]
 repeat' first|((with_reducible refine⟨fun hbr=>?_,fun hbr=>?_⟩)<;>(try simp(disch:=omega)only[hA,Ba,not_false_eq_true,H5,reduceCtorEq]at hbr)<;>(try (with_reducible exfalso;omega)))|((with_reducible refine Be hA hd hQ 200 ?hk ?_);(case hk=>trivial);(conv=>arg 9;cbv);(try simp only[OK]))|((with_reducible refine Bn ?hn ?_);(case hn=>((simp(disch:=omega)only[hA,Ba,ne_eq,GP,H5])<;>omega)))|((refine⟨_,_,?l1,(TR hA),rfl,?_⟩);(case l1=>exact rfl))
 refine fI_ rfl ?_
 replace hQ:=hQ2
 with_reducible refine Be hA hd hQ 1 ?hk ?_
 case hk=>trivial
 conv=>arg 9;cbv
 try simp only[OK]
 repeat' first|(with_reducible refine And.intro trivial ?_)|((with_reducible refine⟨fun hbr=>?_,fun hbr=>?_⟩)<;>(try simp(disch:=omega)only[hA,Ba,not_true_eq_false,not_false_eq_true,ne_eq,reduceCtorEq]at hbr)<;>(try (with_reducible exfalso;omega)))|((with_reducible refine Be hA hd hQ 200 ?hk ?_);(case hk=>trivial);(conv=>arg 9;cbv);(try simp only[OK]))|((with_reducible refine Bn ?hn ?_);(case hn=>((simp(disch:=omega)only[hA,Ba])<;>omega)))
 replace hQ2:=hQ
 refine cO (Bi F367_ok) (Bk F367_ok fun I0 ρ0 w0 Q hρ3 hQ=>?_)
 with_reducible refine Bf hA hd hQ 200 ?hk ?_
 case hk=>trivial
 conv=>arg 9;cbv
 try simp only[OK]
 repeat' first|((with_reducible refine⟨fun hbr=>?_,fun hbr=>?_⟩)<;>(try simp(disch:=omega)only[hA,Ba,Ey]at hbr)<;>(try (with_reducible exfalso;omega)))|((with_reducible refine Be hA hd hQ 200 ?hk ?_);(case hk=>trivial);(conv=>arg 9;cbv);(try simp only[OK]))
 refine fI_ rfl ?_
 replace hQ:=hQ2
 with_reducible refine Be hA hd hQ 1 ?hk ?_
 case hk=>trivial
 conv=>arg 9;cbv
 try simp only[OK]
 repeat' first|((with_reducible refine Be hA hd hQ 200 ?hk ?_);(case hk=>trivial);(conv=>arg 9;cbv);(try simp only[OK]))
 refine fI_ rfl ?_
 replace hQ:=hQ1
 with_reducible refine Be hA hd hQ 1 ?hk ?_
 case hk=>trivial
 conv=>arg 9;cbv
 try simp only[OK]
 repeat' first|((with_reducible refine Be hA hd hQ 200 ?hk ?_);(case hk=>trivial);(conv=>arg 9;cbv);(try simp only[OK]))
 refine Sd _ _ _ _ _ _ _ _ _ ⟨_,rfl,rfl,_,_,_,_,_,_,_,?_,?_,?_,⟨[A.ib .or .u8 0 (A.sh .shl .u8 1 (A.ib .rem .i64 0 8))],?_,?_,?_⟩,?_,?_,?_,_,_,_,_,_,_,_,_,_,_,_,_,_,rfl⟩
 all_goals subst hA
 all_goals first|rfl|trace_state
def DJ(r W:Int)(B N:Nat)(vb nm tx o vx vy:List EV):EH:=[.blk o,.blk bl2,.blk (plC r W (.sl 1 3 0 B none) (.sl 1 4 0 N none) (.sl 1 5 0 N none)),.blk vb,.blk nm,.blk tx,.blk vx,.blk vy]
def JA(y r W:Int)(B N:Nat)(vb nm tx o vx vy:List EV)(s:St):Prop:=∃j0 j1 j2 j3 j4 j5 j6,s=⟨mkT 18 [(0,.ptr 1 0),(3,.ptr 8 0),(4,.ptr 9 0),(5,.ptr 16 0)],DJ r W B N vb nm tx o vx vy++[.blk (nC y),.blk [.lit (.int .i64 0)],j0,j1,j2,j3,j4,j5,j6]⟩
def NY(y r W:Int)(B N:Nat)(vb nm tx o vx vy:List EV)(s:St):Prop:=∃j0 j1 j2 j3 j4 j5 j6,s=⟨mkT 18 [(0,.ptr 1 0),(3,.ptr 8 0),(4,.ptr 9 0),(5,.ptr 16 0),(11,.fn (.func 153) [] [.ptr 9 0,.ptr 16 0])],DJ r W B N vb nm tx o vx vy++[.blk (nC y),.blk [.lit (.int .i64 0)],j0,j1,j2,j3,j4,j5,j6]⟩
theorem YD(y r W:Int)(B N:Nat)(vb nm tx o vx vy:List EV)(hB:1<=B/\B<=4096)(hN:N<=4096)(hvb:vb.length=B)(x:Int)(hx:∀A,A=stdA->List.take 1 (List.drop (A.idx 0 (A.ib .sub .i64 (A.ofn B) 1) 1) vb)=[.lit (.int .u8 x)])(I0:Imm)(ρ0:Ren)(w0:World)(Q:Exit->Act->World->Prop)(hρ:ρ0.length=8)(hF:∀s,JA y r W B N vb nm tx o vx vy s->∀a w,SimX Tryz.prog gs I0 ρ0 w0 s a w->Q .normal a w) :
  OKs Tryz.prog gs none I0 ρ0 w0 Q (D100.pre.map .c) ⟨BK [.ptr 1 0,.agg (nC y)] D100.ntmps,DJ r W B N vb nm tx o vx vy⟩:=by
 have hQ:=EndsQ.no (P:=Tryz.prog) (G:=gs) (I0:=I0) (ρ0:=ρ0) (w0:=w0) (Q:=Q)
 obtain⟨A,hA⟩:∃A,A=stdA:=⟨_,rfl⟩
 have hx:=hx A hA
 unfold DJ bl2 blC plC fC nC at *
 with_reducible refine Bf hA hd hQ 200 ?hk ?_
 case hk=>trivial
 conv=>arg 9;cbv
 try simp only[OK]
 have hQ1:=hQ
 refine cO (Bi F424_ok) (Bk F424_ok fun I0 ρ0 w0 Q hρ2 hQ=>?_)
 with_reducible refine Bf hA hd hQ 200 ?hk ?_
 case hk=>trivial
 conv=>arg 9;cbv
 try simp only[OK]
 have hQ2:=hQ
 refine cO (Bi F365_ok) (Bk F365_ok fun I0 ρ0 w0 Q hρ3 hQ=>?_)
 with_reducible refine Bf hA hd hQ 200 ?hk ?_
 case hk=>trivial
 conv=>arg 9;cbv
 try simp only[OK]
 repeat' first|((with_reducible refine⟨fun hbr=>?_,fun hbr=>?_⟩)<;>(try simp(disch:=omega)only[hA,Ba]at hbr)<;>(try (with_reducible exfalso;omega)))|((with_reducible refine Be hA hd hQ 200 ?hk ?_);(case hk=>trivial);(conv=>arg 9;cbv);(try simp only[OK]))|((with_reducible refine Bn ?hn ?_);(case hn=>((simp(disch:=omega)only[hA,Ba])<;>omega)))|((refine⟨_,_,?l1,hx,rfl,?_⟩);(case l1=>exact rfl))
 refine fI_ rfl ?_
 replace hQ:=hQ2
 with_reducible refine Be hA hd hQ 1 ?hk ?_
 case hk=>trivial
 conv=>arg 9;cbv
 try simp only[OK]
 repeat' first|(with_reducible refine And.intro trivial ?_)|((with_reducible refine Be hA hd hQ 200 ?hk ?_);(case hk=>trivial);(conv=>arg 9;cbv);(try simp only[OK]))
 refine fI_ rfl ?_
 replace hQ:=hQ1
 with_reducible refine Be hA hd hQ 1 ?hk ?_
 case hk=>trivial
 conv=>arg 9;cbv
 try simp only[OK]
 repeat' first|(with_reducible refine OKK.nilS ?_)|((with_reducible refine Be hA hd hQ 1 ?hk ?_);(case hk=>trivial);(conv=>arg 9;cbv);(try simp only[OK]))
 refine oK_ (msk 18 [0,3,4,5]) (OKs.nil (hF _ ⟨_,_,_,_,_,_,_,rfl⟩))
theorem Sy(y r W:Int)(B N:Nat)(vb nm tx o vx vy:List EV)(s0:St)(hs:JA y r W B N vb nm tx o vx vy s0)(I0:Imm)(ρ0:Ren)(w0:World)(Q:Exit->Act->World->Prop)(hF:∀s,NY y r W B N vb nm tx o vx vy s->∀a w,SimX Tryz.prog gs I0 ρ0 w0 s a w->Q .normal a w) :
  OKK Tryz.prog gs none I0 ρ0 w0 Q [.ops D100.ops] s0:=by
 obtain⟨j0,j1,j2,j3,j4,j5,j6,rfl⟩:=hs
 have hQ:=EndsQ.no (P:=Tryz.prog) (G:=gs) (I0:=I0) (ρ0:=ρ0) (w0:=w0) (Q:=Q)
 obtain⟨A,hA⟩:∃A,A=stdA:=⟨_,rfl⟩
 unfold DJ bl2 blC plC fC nC at *
 repeat' first|(with_reducible refine OKK.nilS ?_)|((with_reducible refine Be hA hd hQ 1 ?hk ?_);(case hk=>trivial);(conv=>arg 9;cbv);(try simp only[OK]))
 exact OKs.nil (hF _ ⟨_,_,_,_,_,_,_,rfl⟩)
theorem U3(y r W:Int)(B N:Nat)(lb:List Int)(nm tx o vx vy:List EV)(hr:1<=r/\r<=4095)(hW:0<=W/\W<=65536)(hN:r=N)(hB:B=(N+7)/8)(hlb:lb.length=B)(hnm:nm.length=N)(htx:tx.length=N)(htc:clL tx=true):Tri Tryz.prog gs 100 [.ptr 1 0,.agg (nC y)] (DJ r W B N (u8E lb) nm tx o vx vy)
  (Pd y r W N nm fun r W B N c nm tx h'=>(∃k0 k1 k2 k3 k4 k5 k6 k7 k8 k9 k10 k11 k12 k13,h'=[.blk o,.blk bl2,.blk (plC r W (.sl 1 3 0 B none) (.sl 1 19 0 N none) (.sl 1 21 0 N none)),.blk c,k12,k13,.blk vx,.blk vy,k0,k1,k2,k3,k4,k5,k6,k7,k8,k9,k10,.blk nm,k11,.blk tx])\/
   (∃k0 k1 k2 k3 k4 k5 k6 k7 k8 k9 k10 k11 k12 k13 k14 k15,h'=[.blk o,.blk bl2,.blk (plC r W (.sl 1 19 0 B none) (.sl 1 21 0 N none) (.sl 1 23 0 N none)),k12,k13,k14,.blk vx,.blk vy,k0,k1,k2,k3,k4,k5,k6,k7,k8,k9,k10,.blk c,k11,.blk nm,k15,.blk tx])):=by
 have hvl:=LW lb
 have hxl:∀A,A=stdA->List.take 1 (List.drop (A.idx 0 (A.ib .sub .i64 (A.ofn B) 1) 1) (u8E lb))=[.lit (.int .u8 (lb.getD (B-1) 0))]:=fun A hA=>by
  rw[<-Ld lb (B-1) (by omega)]
  refine congrArg (fun q=>List.take 1 (List.drop q (u8E lb))) ?_
  simp(disch:=omega)only[hA,Ba]<;>omega
 have hxr:∀A,A=stdA->r%8≠0->List.take 1 (List.drop (A.idx 0 (A.ib .quo .i64 r 8) 1) (u8E lb))=[.lit (.int .u8 (lb.getD (r/8).toNat 0))]:=fun A hA h=>by
  rw[<-Ld lb (r/8).toNat (by omega)]
  refine congrArg (fun q=>List.take 1 (List.drop q (u8E lb))) ?_
  simp(disch:=omega)only[hA,Ba,GP]<;>omega
 have hx0:∀A,A=stdA->r%8=0->List.take 1 (List.drop (A.idx 0 (A.ib .quo .i64 r 8) 1) (A.app (A.tak (A.mul B 1) (A.drp 0 (u8E lb))) (A.tak (A.mul 1 1) (A.drp 0 [EV.lit (.int .u8 0)]))))=[.lit (.int .u8 0)]:=fun A hA h=>by
  rw[Dl hA (by omega) rfl,hA,B0,GP _ (by omega) (by omega),show 0+(r/8).toNat * 1=(u8E lb).length by omega,List.drop_left']
  ·rfl
  ·rfl
 have hsA:∀A,A=stdA->r%8≠0->∀q:Int,A.setl (u8E lb) (A.idx 0 (A.ib .quo .i64 r 8) 1) [.lit (.int .u8 q)]=u8E (lb.take (r/8).toNat++q::lb.drop ((r/8).toNat+1)):=fun A hA h q=>by
  rw[hA,B0,GP _ (by omega) (by omega),show 0+(r/8).toNat * 1=(r/8).toNat by omega]
  exact PK _ _ _ (by omega)
 have hsB:∀A,A=stdA->r%8=0->∀q:Int,A.setl (A.app (A.tak (A.mul B 1) (A.drp 0 (u8E lb))) (A.tak (A.mul 1 1) (A.drp 0 [EV.lit (.int .u8 0)]))) (A.idx 0 (A.ib .quo .i64 r 8) 1) [.lit (.int .u8 q)]=u8E (lb++[q]):=fun A hA h q=>by
  rw[Dl hA (by omega) rfl,hA,B0,GP _ (by omega) (by omega),show 0+(r/8).toNat * 1=lb.length by omega,show u8E lb++[EV.lit (.int .u8 0)]=u8E (lb++[0]) by simp[u8E],PK _ _ _ (by simp),List.take_left',List.drop_of_length_le (by simp)]
  rfl
 refine Iy (F1:=JA y r W B N (u8E lb) nm tx o vx vy) (F2:=NY y r W B N (u8E lb) nm tx o vx vy) Hh (fun I0 ρ0 w0 Q hρ hF=>YD y r W B N (u8E lb) nm tx o vx vy (by omega) (by omega) (by omega) _ hxl I0 ρ0 w0 Q hρ hF) (fun s hs I0 ρ0 w0 Q hF=>Sy y r W B N (u8E lb) nm tx o vx vy s hs I0 ρ0 w0 Q hF)
  (fun s hs=>⟨153,[],[.ptr 9 0,.ptr 16 0],by obtain⟨j0,j1,j2,j3,j4,j5,j6,rfl⟩:=hs;rfl,IG GW,fun I0 ρ0 w0 Q hρ hQ=>?_⟩)
 obtain⟨j0,j1,j2,j3,j4,j5,j6,rfl⟩:=hs
 obtain⟨A,hA⟩:∃A,A=stdA:=⟨_,rfl⟩
 have hxr:=Hid.mk (hxr A hA)
 have hx0:=Hid.mk (hx0 A hA)
 have hsA:=Hid.mk (hsA A hA)
 have hsB:=Hid.mk (hsB A hA)
 clear hxl
 obtain⟨xr,hxr2⟩:∃q,q=lb.getD (r/8).toNat 0:=⟨_,rfl⟩
 rw[<-hxr2]at hxr
 obtain⟨vb,hvb⟩:∃q,q=u8E lb:=⟨_,rfl⟩
 rw[<-hvb]at hxr hx0 hvl hsA hsB hρ hQ ⊢
 unfold DJ bl2 blC plC fC nC at *
 with_reducible refine Bf hA hd hQ 200 ?hk ?_
 case hk=>trivial
 conv=>arg 9;cbv
 try simp only[OK]
 have hQ1:=hQ
 refine cO (Bi F425_ok) (Bk F425_ok fun I0 ρ0 w0 Q hρ2 hQ=>?_)
 with_reducible refine Bf hA hd hQ 200 ?hk ?_
 case hk=>trivial
 conv=>arg 9;cbv
 try simp only[OK]
 have hQ2:=hQ
 refine cO (Bi F366_ok) (Bk F366_ok fun I0 ρ0 w0 Q hρ3 hQ=>?_)
 with_reducible refine Bf hA hd hQ 200 ?hk ?_
 case hk=>trivial
 conv=>arg 9;cbv
 try simp only[OK]
 repeat' first|((with_reducible refine⟨fun hbr=>?_,fun hbr=>?_⟩)<;>(try simp(disch:=omega)only[hA,Ba,H5]at hbr)<;>(try (with_reducible exfalso;omega)))|((with_reducible refine Be hA hd hQ 200 ?hk ?_);(case hk=>trivial);(conv=>arg 9;cbv);(try simp only[OK]))|((with_reducible refine Bn ?hn ?_);(case hn=>((simp(disch:=omega)only[hA,Ba,ne_eq,GP,H5])<;>omega)))|((refine⟨_,_,?l1,(hxr.out (by omega)),rfl,?_⟩);(case l1=>exact rfl))|((refine⟨_,_,?l1,(hx0.out (by omega)),rfl,?_⟩);(case l1=>exact rfl))
 all_goals
  refine fI_ rfl ?_;replace hQ:=hQ2
  with_reducible refine Be hA hd hQ 1 ?hk ?_
  case hk=>trivial
  conv=>arg 9;cbv
  try simp only[OK]
  repeat' first|(with_reducible refine And.intro trivial ?_)|((with_reducible refine⟨fun hbr=>?_,fun hbr=>?_⟩)<;>(try simp(disch:=omega)only[hA,Ba,not_true_eq_false,not_false_eq_true,ne_eq]at hbr)<;>(try (with_reducible exfalso;omega)))|((with_reducible refine Be hA hd hQ 200 ?hk ?_);(case hk=>trivial);(conv=>arg 9;cbv);(try simp only[OK]))|((with_reducible refine Bn ?hn ?_);(case hn=>((simp(disch:=omega)only[hA,Ba])<;>omega)))
  replace hQ2:=hQ;refine cO (Bi F367_ok) (Bk F367_ok fun I0 ρ0 w0 Q hρ3 hQ=>?_)
  with_reducible refine Bf hA hd hQ 200 ?hk ?_
  case hk=>trivial
  conv=>arg 9;cbv
  try simp only[OK]
  repeat' first|((with_reducible refine⟨fun hbr=>?_,fun hbr=>?_⟩)<;>(try simp(disch:=omega)only[hA,Ba,Ey]at hbr)<;>(try (with_reducible exfalso;omega)))|((with_reducible refine Be hA hd hQ 200 ?hk ?_);(case hk=>trivial);(conv=>arg 9;cbv);(try simp only[OK]))
  refine fI_ rfl ?_;replace hQ:=hQ2
  with_reducible refine Be hA hd hQ 1 ?hk ?_
  case hk=>trivial
  conv=>arg 9;cbv
  try simp only[OK]
  repeat' first|((with_reducible refine Be hA hd hQ 200 ?hk ?_);(case hk=>trivial);(conv=>arg 9;cbv);(try simp only[OK]))
  refine fI_ rfl ?_;replace hQ:=hQ1
  with_reducible refine Be hA hd hQ 1 ?hk ?_
  case hk=>trivial
  conv=>arg 9;cbv
  try simp only[OK]
  repeat' first|((with_reducible refine Be hA hd hQ 200 ?hk ?_);(case hk=>trivial);(conv=>arg 9;cbv);(try simp only[OK]))
 ·refine Pv _ _ _ _ _ _ _ _ _ _ _ _ ⟨_,rfl,rfl,A.ib .add .i64 r 1,A.ib .add .i64 W (A.ib .add .i64 16 (A.ofn (A.bsz _))),A.add N 1,A.add B 1,_,_,_,?_,?_,?_,⟨_,hsB.out (by omega) (A.ib .or .u8 0 (A.sh .shl .u8 1 (A.ib .rem .i64 r 8))),?_,?_⟩,(Dl hA (by omega) rfl).trans (by rw[hA]),?_,?_,.inr ⟨_,_,_,_,_,_,_,_,_,_,_,_,_,_,_,_,rfl⟩⟩
  ·simp(disch:=omega)only[hA,Ba]<;>omega
  ·simp(disch:=omega)only[hA,Ba,Ey]<;>omega
  ·rw[hA];rfl
  ·rw[List.length_append,hlb,hA];rfl
  ·rw[show A.add B 1=B+1 by rw[hA];rfl];omega
  ·refine(congrArg List.length (Dl hA (show tx.length=N*1 by omega) rfl)).trans ?_
   rw[List.length_append,htx,hA];rfl
  ·exact(congrArg clL (Dl hA (show tx.length=N*1 by omega) rfl)).trans (CU htc rfl)
 ·refine Pv _ _ _ _ _ _ _ _ _ _ _ _ ⟨_,rfl,rfl,A.ib .add .i64 r 1,A.ib .add .i64 W (A.ib .add .i64 16 (A.ofn (A.bsz _))),A.add N 1,B,_,_,_,?_,?_,?_,⟨_,hsA.out (by omega) (A.ib .or .u8 xr (A.sh .shl .u8 1 (A.ib .rem .i64 r 8))),?_,?_⟩,(Dl hA (by omega) rfl).trans (by rw[hA]),?_,?_,.inl ⟨_,_,_,_,_,_,_,_,_,_,_,_,_,_,rfl⟩⟩
  ·simp(disch:=omega)only[hA,Ba]<;>omega
  ·simp(disch:=omega)only[hA,Ba,Ey]<;>omega
  ·rw[hA];rfl
  ·rw[List.length_append,lK,List.length_cons,lD];omega
  ·omega
  ·refine(congrArg List.length (Dl hA (show tx.length=N*1 by omega) rfl)).trans ?_
   rw[List.length_append,htx,hA];rfl
  ·exact(congrArg clL (Dl hA (show tx.length=N*1 by omega) rfl)).trans (CU htc rfl)
theorem TX(h:EH):Tri Tryz.prog gs 96 [.agg fC] h fun v h'=>IsP True v/\h'=h:=by
 have k1:=JI
 refine Tri.boolC rfl (Bk F96_ok fun I0 ρ0 w0 Q hρ hQ=>?_) h
 obtain⟨A,hA⟩:∃A,A=stdA:=⟨_,rfl⟩
 unfold Cp fC at *
 with_reducible refine Bf hA hd hQ 200 ?hk ?_
 case hk=>trivial
 conv=>arg 9;cbv
 try simp only[OK]
 repeat' first|((with_reducible refine Be hA hd hQ 200 ?hk ?_);(case hk=>trivial);(conv=>arg 9;cbv);(try simp only[OK]))|((with_reducible refine cO ?hg ?_);(case hg=>with_reducible exact Bi F51_ok);refine tM (k1 _) ?_;rintro _ _ ⟨rfl,rfl⟩)
 all_goals (try (with_reducible refine FinR.self ?_;first|refine FinR.bl rfl ?_|refine FinR.bs rfl ?_|refine FinR.blh rfl ?_ rfl|refine FinR.bsh rfl ?_ rfl))
 all_goals (try simp(disch:=omega)only[hA,Ba,eq_self])
 all_goals trivial
theorem Ux(h:EH):Tri Tryz.prog gs 97 [.agg fC] h fun v h'=>v = .agg fC/\h'=h:=closedA (by kernel_rfl) rfl rfl h
theorem YZ(h:EH):Tri Tryz.prog gs 225 [.agg fC] h fun v h'=>v = .tup [.agg (nC 0),.lit (.int .i64 0)]/\h'=h:=closedA (by kernel_rfl) rfl rfl h
def bsC:List EV:=fC++[.lit (.int .i64 0),.lit (.int .i64 0),.lit (.slice none 0 0),.lit (.int .i64 0)]++nC 0++[.sb true]
theorem Yr(h:EH):Tri Tryz.prog gs 152 [.agg fC] h fun v h'=>v = .agg bsC/\h'=h:=by
 have k1:=YZ
 refine Tri.valA rfl rfl (Bk F152_ok fun I0 ρ0 w0 Q hρ hQ=>?_) h
 obtain⟨A,hA⟩:∃A,A=stdA:=⟨_,rfl⟩
 unfold bsC fC nC at *
 with_reducible refine Bf hA hd hQ 200 ?hk ?_
 case hk=>trivial
 conv=>arg 9;cbv
 try simp only[OK]
 repeat' first|((with_reducible refine Be hA hd hQ 200 ?hk ?_);(case hk=>trivial);(conv=>arg 9;cbv);(try simp only[OK]))|((with_reducible refine cO ?hg ?_);(case hg=>with_reducible exact Bi F225_ok);refine tM (k1 _) ?_;rintro _ _ ⟨rfl,rfl⟩)
 exact fI_ rfl (by rw[hA];rfl)
theorem Y8(h:EH):Tri Tryz.prog gs 407 [.lit (.int .i64 11)] h fun v h'=>v = .lit (.int .i64 8)/\h'=h:=closedA (by kernel_rfl) rfl rfl h
def o6C:List EV:=[.lit (.int .i64 0),.lit (.int .i64 0),.lit (.int .i64 0),.lit (.slice none 0 0),.lit (.slice none 0 0),.lit (.slice none 0 0)]
theorem SX (ns : List Int) (hn : ns.length ≤ 4096) (hr : ∀ n ∈ ns, BJ n) :
    Tri Tryz.prog gs 15 [.agg fC, .isl ns.length none (Bu ns)] [] fun v h' => ∃ (i es : Nat) (c : Option Nat), v = .tup [.agg [.lit (.int .i64 ns.length), .lit (.int .i64 0), .lit (.int .i64 0), .sl es i 0 2 c, .lit (.slice none 0 0), .lit (.slice none 0 0)], .lit (.int .i64 0), .lit (.int .i64 0)] ∧ Bh h' i = .blk [.lit (.slice none 0 0), .isl (8 * ns.length) none (Bj (Bq ns))] := by
  have hget := Hid.mk (E3 ns);have hmore := Hid.mk (TA ns);obtain ⟨len, hlen⟩ : ∃ q, q = ns.length := ⟨_, rfl⟩;obtain ⟨C, hC⟩ : ∃ q, q = Bu ns := ⟨_, rfl⟩;rw [← hlen, ← hC];have k1 := TX;have k2 := Ux;have k3 := Yr;have k5 := Y8;have k6 := TL ns hn hr;have k7 := Sm;unfold bsC fC at *;refine Bk F15_ok fun I0 ρ0 w0 Q hρ1 hQ => ?_
  obtain ⟨A, hA⟩ : ∃ A, A = stdA := ⟨_, rfl⟩
  with_reducible refine Bf hA hd hQ 200 ?hk ?_
  case hk => trivial
  conv => arg 9; cbv
  try simp only [OK]
  have hQ1 := hQ;refine cO (Bi F56_ok) (Bk F56_ok fun I0 ρ0 w0 Q hρ2 hQ => ?_)
  with_reducible refine Bf hA hd hQ 200 ?hk ?_
  case hk => trivial
  conv => arg 9; cbv
  try simp only [OK]
  repeat' first | ((with_reducible refine ⟨fun hbr => ?_, fun hbr => ?_⟩) <;> (try simp (disch := omega) only [hA, Ba, reduceCtorEq] at hbr) <;> (try (with_reducible exfalso; omega))) | ((with_reducible refine Be hA hd hQ 200 ?hk ?_); (case hk => trivial); (conv => arg 9; cbv); (try simp only [OK])) | ((with_reducible refine cO ?hg ?_); (case hg => with_reducible exact Bi F96_ok); (refine tM (k1 _) fun v hh hx => ?_); (obtain ⟨⟨b, hv, hb⟩, he⟩ := hx; subst hv; subst he; cases b <;> simp (disch := omega) only [not_true_eq_false, bF, false_iff, eq_self] at hb) <;> (try (with_reducible exfalso; omega))) | ((with_reducible refine cO ?hg ?_); (case hg => with_reducible exact Bi F97_ok); refine tM (k2 _) ?_; rintro _ _ ⟨rfl, rfl⟩)
  have hQ2 := hQ;refine cO (Bi F98_ok) (Bk F98_ok fun I0 ρ0 w0 Q hρ3 hQ => ?_)
  with_reducible refine Bf hA hd hQ 200 ?hk ?_
  case hk => trivial
  conv => arg 9; cbv
  try simp only [OK]
  repeat' first | (with_reducible refine OKK.loop ?_) | ((with_reducible refine Be hA hd hQ 200 ?hk ?_); (case hk => trivial); (conv => arg 9; cbv); (try simp only [OK])) | ((with_reducible refine cO ?hg ?_); (case hg => with_reducible exact Bi F152_ok); refine tM (k3 _) ?_; rintro _ _ ⟨rfl, rfl⟩)
  refine OKs.loopU ?_
  with_reducible refine Bf hA hd hQ 200 ?hk ?_
  case hk => trivial
  conv => arg 9; cbv
  try simp only [OK]
  repeat' first | ((with_reducible refine ⟨fun hbr => ?_, fun hbr => ?_⟩) <;> (try simp (disch := omega) only [hA, Ba] at hbr) <;> (try (with_reducible exfalso; omega))) | ((with_reducible refine Be hA hd hQ 200 ?hk ?_); (case hk => trivial); (conv => arg 9; cbv); (try simp only [OK]))
  refine fI_ rfl ?_;replace hQ := hQ2
  with_reducible refine Be hA hd hQ 1 ?hk ?_
  case hk => trivial
  conv => arg 9; cbv
  try simp only [OK]
  repeat' first | (with_reducible refine And.intro trivial ?_) | ((with_reducible refine Be hA hd hQ 200 ?hk ?_); (case hk => trivial); (conv => arg 9; cbv); (try simp only [OK]))
  refine fI_ rfl ?_;replace hQ := hQ1
  with_reducible refine Be hA hd hQ 1 ?hk ?_
  case hk => trivial
  conv => arg 9; cbv
  try simp only [OK]
  repeat' first | (with_reducible refine OKK.loop ?_) | ((with_reducible refine ⟨fun hbr => ?_, fun hbr => ?_⟩) <;> (try simp (disch := omega) only [hA, Ba, not_true_eq_false, not_false_eq_true, ne_eq] at hbr) <;> (try (with_reducible exfalso; omega))) | ((with_reducible refine Be hA hd hQ 200 ?hk ?_); (case hk => trivial); (conv => arg 9; cbv); (try simp only [OK]))
  refine oK_ (msk 45 [4, 5, 6, 7, 23, 24, 25]) (OKs.mv [1, 7, 6] [] (by rw [hρ1]; rfl) ⟨by decide, by simp [Bd], by simp⟩ ?_)
  refine oL_ (fun m st => ∃ (z r W : Int) (B N : Nat) (vb nm tx : List EV), m = ((len : Int) - z).toNat ∧ 0 ≤ z ∧ z ≤ len ∧ r = z ∧ W = 16 * z ∧ N = z.toNat ∧ (∃ l : List Int, vb = u8E l ∧ l.length = B ∧ B = (N + 7) / 8) ∧ nm = Ck (ns.take z.toNat) ∧ tx.length = N ∧ clL tx = true ∧
      ((z = 0 ∧ st = ⟨mkT 45 [(4, .ptr 0 0), (5, .lit (.int .i64 0)), (6, .lit (.int .i64 0)), (7, .ptr 1 0), (23, .isl len none C), (24, .lit (.int .i64 (A.ofn len))), (25, .lit (.int .i64 z))], [.blk o6C, .blk bl2, .blk (plC r W (.lit (.slice none 0 0)) (.lit (.slice none 0 0)) (.lit (.slice none 0 0)))]⟩) ∨
       (1 ≤ z ∧ st = ⟨mkT 45 [(4, .ptr 0 0), (5, .lit (.int .i64 0)), (6, .lit (.int .i64 0)), (7, .ptr 1 0), (23, .isl len none C), (24, .lit (.int .i64 (A.ofn len))), (25, .lit (.int .i64 z))], [.blk o6C, .blk bl2, .blk (plC r W (.sl 1 3 0 B none) (.sl 1 4 0 N none) (.sl 1 5 0 N none)), .blk vb, .blk nm, .blk tx]⟩)))
    (fun m st hs' ih => ?_) ⟨0, 0, 0, 0, 0, [], [], [], rfl, by omega, by omega, rfl, rfl, rfl, ⟨[], rfl, rfl, rfl⟩, rfl, rfl, rfl, .inl ⟨rfl, ?_⟩⟩
  rotate_left
  · subst hA; rfl
  obtain ⟨z, r, W, B, N, vb, nm, tx, hm, hz0, hz1, hr1, hW, hN, ⟨lb, hvb, hlb, hB⟩, hnm, htx, htc, hst⟩ := hs';obtain ⟨y, hy⟩ : ∃ q, q = ns.getD z.toNat 0 := ⟨_, rfl⟩
  have hL : z < len → List.take 4 (List.drop (A.idx 0 z 4) C) = nC y := fun h => by
    rw [hA, B0, Nat.zero_add, hC, hy]; exact hget.out _ (by omega)
  have hmr : z < len → Ck (ns.take (z.toNat + 1)) = nm ++ [.lit (.int .u64 (stdA.wr .u64 y))] := fun h => by rw [hnm, hy]; exact hmore.out _ (by omega)
  have k4 := Yk y;have kl0 := RQ y o6C (nC y) (nC y);have kl1 := fun (h1 : 1 ≤ z) (h2 : z < len) => U3 y r W B N lb nm tx o6C (nC y) (nC y) (by omega) (by omega) (by omega) hB hlb (by rw [hnm, NW, lK]; omega) htx htc
  rw [← hvb] at kl1
  by_cases hzl : z < len
  · replace hL := hL hzl
    replace hmr := Hid.mk (hmr hzl);clear hget hmore;rcases hst with ⟨hz2, rfl⟩ | ⟨hz2, rfl⟩
    · obtain rfl : z = 0 := hz2
      obtain rfl : r = 0 := by omega
      obtain rfl : W = 0 := by omega
      clear kl1;unfold o6C bl2 blC plC fC nC at *
      with_reducible refine Bf hA hd hQ 200 ?hk ?_
      case hk => trivial
      conv => arg 9; cbv
      try simp only [OK]
      repeat' first | ((with_reducible refine ⟨fun hbr => ?_, fun hbr => ?_⟩) <;> (try simp (disch := omega) only [hA, Ba] at hbr) <;> (try (with_reducible exfalso; omega))) | ((with_reducible refine Be hA hd hQ 200 ?hk ?_); (case hk => trivial); (conv => arg 9; cbv); (try simp only [OK])) | ((with_reducible refine Bn ?hn ?_); (case hn => ((simp (disch := omega) only [hA, Ba]) <;> omega))) | ((refine ⟨_, _, ?l1, hL, rfl, ?_⟩); (case l1 => exact rfl))
      have hQ1 := hQ;refine cO (Bi F57_ok) (Bk F57_ok fun I0 ρ0 w0 Q hρ2 hQ => ?_)
      with_reducible refine Bf hA hd hQ 200 ?hk ?_
      case hk => trivial
      conv => arg 9; cbv
      try simp only [OK]
      repeat' first | ((with_reducible refine ⟨fun hbr => ?_, fun hbr => ?_⟩) <;> (try simp (disch := omega) only [hA, Ba, not_true_eq_false, not_false_eq_true, ne_eq] at hbr) <;> (try (with_reducible exfalso; omega))) | ((with_reducible refine Be hA hd hQ 200 ?hk ?_); (case hk => trivial); (conv => arg 9; cbv); (try simp only [OK])) | ((with_reducible refine cO ?hg ?_); (case hg => with_reducible exact Bi F99_ok); refine tM (k4 _) ?_; rintro _ _ ⟨rfl, rfl⟩)
      refine cO (Hj Hh) (tM kl0 fun v hh hx => ?_)
      obtain ⟨hv, r', W', N', B', c, nm', tx', h1, h2, h3, ⟨l2, h4, h5, h6⟩, h7, h8, h9, q0, q1, q2, q3, q4, q5, q6, q7, q8, q9, q10, q11, q12, rfl⟩ := hx;subst hv;clear kl0
      with_reducible refine Be hA hd hQ 1 ?hk ?_
      case hk => trivial
      conv => arg 9; cbv
      try simp only [OK]
      repeat' first | ((with_reducible refine Be hA hd hQ 200 ?hk ?_); (case hk => trivial); (conv => arg 9; cbv); (try simp only [OK]))
      refine fI_ rfl ?_;replace hQ := hQ1
      with_reducible refine Be hA hd hQ 1 ?hk ?_
      case hk => trivial
      conv => arg 9; cbv
      try simp only [OK]
      repeat' first | (with_reducible refine OKK.again ?_) | ((with_reducible refine ⟨fun hbr => ?_, fun hbr => ?_⟩) <;> (try simp (disch := omega) only [hA, Ba, not_true_eq_false, not_false_eq_true, ne_eq] at hbr) <;> (try (with_reducible exfalso; omega))) | ((with_reducible refine Be hA hd hQ 200 ?hk ?_); (case hk => trivial); (conv => arg 9; cbv); (try simp only [OK]))
      refine oK_ (msk 45 [4, 5, 6, 7, 23, 24, 25]) (OKs.mv [0, 1, 2, 16, 18, 20] [] (by rw [hρ1]; rfl) ⟨by decide, by simp [Bd], by simp⟩ (ih _ _ ⟨A.ib .add .i64 0 1, r', W', B', N', _, _, _, rfl, ?_, ?_, ?_, ?_, ?_, ⟨l2, ?_, h5, ?_⟩, ?_, ?_, ?_, .inr ⟨?_, rfl⟩⟩ ?_))
      · simp (disch := omega) only [hA, Ba] <;> omega
      · simp (disch := omega) only [hA, Ba] <;> omega
      · simp (disch := omega) only [hA, Ba] <;> omega
      · simp (disch := omega) only [hA, Ba] <;> omega
      · simp (disch := omega) only [hA, Ba] <;> omega
      · exact (BA _ _ _ (by rw [h4]; exact Hw _)).trans h4
      · omega
      · rw [show (A.ib .add .i64 0 1).toNat = Int.toNat 0 + 1 by simp (disch := omega) only [hA, Ba, Int.reduceToNat] <;> omega, hmr.out]
        refine (BA _ _ _ ?_).trans ?_
        · rw [h7]; exact CU rfl rfl
        · rw [h7, hnm]; rfl
      · exact (congrArg List.length (BA _ _ _ h9)).trans h8
      · exact (congrArg clL (BA _ _ _ h9)).trans h9
      · simp (disch := omega) only [hA, Ba] <;> omega
      · simp (disch := omega) only [hA, Ba] <;> omega
    · replace kl1 := kl1 hz2 hzl
      clear kl0;unfold DJ o6C bl2 blC plC fC nC at *;have hnmc : clL nm = true := by rw [hnm]; exact KY _
      clear hnm hvb
      with_reducible refine Bf hA hd hQ 200 ?hk ?_
      case hk => trivial
      conv => arg 9; cbv
      try simp only [OK]
      repeat' first | ((with_reducible refine ⟨fun hbr => ?_, fun hbr => ?_⟩) <;> (try simp (disch := omega) only [hA, Ba] at hbr) <;> (try (with_reducible exfalso; omega))) | ((with_reducible refine Be hA hd hQ 200 ?hk ?_); (case hk => trivial); (conv => arg 9; cbv); (try simp only [OK])) | ((with_reducible refine Bn ?hn ?_); (case hn => ((simp (disch := omega) only [hA, Ba]) <;> omega))) | ((refine ⟨_, _, ?l1, hL, rfl, ?_⟩); (case l1 => exact rfl))
      have hQ1 := hQ;refine cO (Bi F57_ok) (Bk F57_ok fun I0 ρ0 w0 Q hρ2 hQ => ?_)
      with_reducible refine Bf hA hd hQ 200 ?hk ?_
      case hk => trivial
      conv => arg 9; cbv
      try simp only [OK]
      repeat' first | ((with_reducible refine ⟨fun hbr => ?_, fun hbr => ?_⟩) <;> (try simp (disch := omega) only [hA, Ba, not_true_eq_false, not_false_eq_true, ne_eq] at hbr) <;> (try (with_reducible exfalso; omega))) | ((with_reducible refine Be hA hd hQ 200 ?hk ?_); (case hk => trivial); (conv => arg 9; cbv); (try simp only [OK])) | ((with_reducible refine cO ?hg ?_); (case hg => with_reducible exact Bi F99_ok); refine tM (k4 _) ?_; rintro _ _ ⟨rfl, rfl⟩)
      refine cO (Hj Hh) (tM kl1 fun v hh hx => ?_)
      obtain ⟨hv, r', W', N', B', c, nm', tx', h1, h2, h3, ⟨l2, h4, h5, h6⟩, h7, h8, h9, ⟨q0, q1, q2, q3, q4, q5, q6, q7, q8, q9, q10, q11, q12, q13, rfl⟩ | ⟨q0, q1, q2, q3, q4, q5, q6, q7, q8, q9, q10, q11, q12, q13, q14, q15, rfl⟩⟩ := hx
      all_goals
        subst hv;clear kl1
        with_reducible refine Be hA hd hQ 1 ?hk ?_
        case hk => trivial
        conv => arg 9; cbv
        try simp only [OK]
        repeat' first | ((with_reducible refine Be hA hd hQ 200 ?hk ?_); (case hk => trivial); (conv => arg 9; cbv); (try simp only [OK]))
        refine fI_ rfl ?_;replace hQ := hQ1
        with_reducible refine Be hA hd hQ 1 ?hk ?_
        case hk => trivial
        conv => arg 9; cbv
        try simp only [OK]
        repeat' first | (with_reducible refine OKK.again ?_) | ((with_reducible refine ⟨fun hbr => ?_, fun hbr => ?_⟩) <;> (try simp (disch := omega) only [hA, Ba, not_true_eq_false, not_false_eq_true, ne_eq] at hbr) <;> (try (with_reducible exfalso; omega))) | ((with_reducible refine Be hA hd hQ 200 ?hk ?_); (case hk => trivial); (conv => arg 9; cbv); (try simp only [OK]))
      · skip
        refine oK_ (msk 45 [4, 5, 6, 7, 23, 24, 25]) (OKs.mv [0, 1, 2, 3, 19, 21] [] (by rw [hρ1]; rfl) ⟨by decide, by simp [Bd], by simp⟩ (ih _ _ ⟨A.ib .add .i64 z 1, r', W', B', N', _, _, _, rfl, ?_, ?_, ?_, ?_, ?_, ⟨l2, ?_, h5, ?_⟩, ?_, ?_, ?_, .inr ⟨?_, rfl⟩⟩ ?_))
        · simp (disch := omega) only [hA, Ba] <;> omega
        · simp (disch := omega) only [hA, Ba] <;> omega
        · simp (disch := omega) only [hA, Ba] <;> omega
        · simp (disch := omega) only [hA, Ba] <;> omega
        · simp (disch := omega) only [hA, Ba] <;> omega
        · exact (BA _ _ _ (by rw [h4]; exact Hw _)).trans h4
        · omega
        · rw [show (A.ib .add .i64 z 1).toNat = z.toNat + 1 by simp (disch := omega) only [hA, Ba] <;> omega, hmr.out]
          refine (BA _ _ _ ?_).trans ?_
          · rw [h7]; exact CU hnmc rfl
          · exact h7
        · exact (congrArg List.length (BA _ _ _ h9)).trans h8
        · exact (congrArg clL (BA _ _ _ h9)).trans h9
        · simp (disch := omega) only [hA, Ba] <;> omega
        · simp (disch := omega) only [hA, Ba] <;> omega
      · skip
        refine oK_ (msk 45 [4, 5, 6, 7, 23, 24, 25]) (OKs.mv [0, 1, 2, 19, 21, 23] [] (by rw [hρ1]; rfl) ⟨by decide, by simp [Bd], by simp⟩ (ih _ _ ⟨A.ib .add .i64 z 1, r', W', B', N', _, _, _, rfl, ?_, ?_, ?_, ?_, ?_, ⟨l2, ?_, h5, ?_⟩, ?_, ?_, ?_, .inr ⟨?_, rfl⟩⟩ ?_))
        · simp (disch := omega) only [hA, Ba] <;> omega
        · simp (disch := omega) only [hA, Ba] <;> omega
        · simp (disch := omega) only [hA, Ba] <;> omega
        · simp (disch := omega) only [hA, Ba] <;> omega
        · simp (disch := omega) only [hA, Ba] <;> omega
        · exact (BA _ _ _ (by rw [h4]; exact Hw _)).trans h4
        · omega
        · rw [show (A.ib .add .i64 z 1).toNat = z.toNat + 1 by simp (disch := omega) only [hA, Ba] <;> omega, hmr.out]
          refine (BA _ _ _ ?_).trans ?_
          · rw [h7]; exact CU hnmc rfl
          · exact h7
        · exact (congrArg List.length (BA _ _ _ h9)).trans h8
        · exact (congrArg clL (BA _ _ _ h9)).trans h9
        · simp (disch := omega) only [hA, Ba] <;> omega
        · simp (disch := omega) only [hA, Ba] <;> omega
  · have hzn : z.toNat = ns.length := by omega
    rw [hzn, lT (Nat.le_refl _)] at hnm;have hnc : clL nm = true := by rw [hnm]; exact KY _
    have hvc : clL vb = true := by rw [hvb]; exact Hw _
    rw [← hnm] at k6;obtain ⟨RB, hRB⟩ : ∃ q, q = Bj (Bq ns) := ⟨_, rfl⟩;rw [← hRB] at k6 hQ;clear hget hmore kl0 kl1 hnm hvb hL hmr;rcases hst with ⟨hz2, rfl⟩ | ⟨hz2, rfl⟩
    · have hRB0 : RB = [] := by rw [hRB, List.eq_nil_of_length_eq_zero (show ns.length = 0 by omega)]; rfl
      unfold o6C bl2 blC plC fC nC at *
      with_reducible refine Bf hA hd hQ 200 ?hk ?_
      case hk => trivial
      conv => arg 9; cbv
      try simp only [OK]
      repeat' first | ((with_reducible refine ⟨fun hbr => ?_, fun hbr => ?_⟩) <;> (try simp (disch := omega) only [hA, Ba] at hbr) <;> (try (with_reducible exfalso; omega))) | ((with_reducible refine Be hA hd hQ 200 ?hk ?_); (case hk => trivial); (conv => arg 9; cbv); (try simp only [OK]))
      have hQ1 := hQ;refine cO (Bi F58_ok) (Bk F58_ok fun I0 ρ0 w0 Q hρ2 hQ => ?_)
      with_reducible refine Bf hA hd hQ 200 ?hk ?_
      case hk => trivial
      conv => arg 9; cbv
      try simp only [OK]
      have hQ2 := hQ;refine cO (Bi F423_ok) (Bk F423_ok fun I0 ρ0 w0 Q hρ3 hQ => ?_)
      with_reducible refine Bf hA hd hQ 200 ?hk ?_
      case hk => trivial
      conv => arg 9; cbv
      try simp only [OK]
      repeat' first | (with_reducible refine And.intro trivial ?_) | ((with_reducible refine ⟨fun hbr => ?_, fun hbr => ?_⟩) <;> (try simp (disch := omega) only [hA, Ba] at hbr) <;> (try (with_reducible exfalso; omega))) | ((with_reducible refine Be hA hd hQ 200 ?hk ?_); (case hk => trivial); (conv => arg 9; cbv); (try simp only [OK])) | ((with_reducible refine cO ?hg ?_); (case hg => with_reducible exact Bi F407_ok); refine tM (k5 _) ?_; rintro _ _ ⟨rfl, rfl⟩) | ((with_reducible refine cO ?hg ?_); (case hg => with_reducible exact Bi F427_ok); refine tM (k7 _) ?_; rintro _ _ ⟨rfl, rfl⟩)
      have hQ3 := hQ;refine cO (Bi F373_ok) (Bk F373_ok fun I0 ρ0 w0 Q hρ3 hQ => ?_)
      with_reducible refine Bf hA hd hQ 200 ?hk ?_
      case hk => trivial
      conv => arg 9; cbv
      try simp only [OK]
      repeat' first | ((with_reducible refine ⟨fun hbr => ?_, fun hbr => ?_⟩) <;> (try simp (disch := omega) only [hA, Ba, not_true_eq_false] at hbr) <;> (try (with_reducible exfalso; omega))) | ((with_reducible refine Be hA hd hQ 200 ?hk ?_); (case hk => trivial); (conv => arg 9; cbv); (try simp only [OK]))
      refine fI_ rfl ?_;replace hQ := hQ3
      with_reducible refine Be hA hd hQ 1 ?hk ?_
      case hk => trivial
      conv => arg 9; cbv
      try simp only [OK]
      repeat' first | ((with_reducible refine Be hA hd hQ 200 ?hk ?_); (case hk => trivial); (conv => arg 9; cbv); (try simp only [OK]))
      replace hQ3 := hQ;refine cO (Bi F364_ok) (Bk F364_ok fun I0 ρ0 w0 Q hρ3 hQ => ?_)
      with_reducible refine Bf hA hd hQ 200 ?hk ?_
      case hk => trivial
      conv => arg 9; cbv
      try simp only [OK]
      refine fI_ rfl ?_;replace hQ := hQ3
      with_reducible refine Be hA hd hQ 1 ?hk ?_
      case hk => trivial
      conv => arg 9; cbv
      try simp only [OK]
      repeat' first | ((with_reducible refine Be hA hd hQ 200 ?hk ?_); (case hk => trivial); (conv => arg 9; cbv); (try simp only [OK]))
      refine fI_ rfl ?_;replace hQ := hQ2
      with_reducible refine Be hA hd hQ 1 ?hk ?_
      case hk => trivial
      conv => arg 9; cbv
      try simp only [OK]
      repeat' first | ((with_reducible refine Be hA hd hQ 200 ?hk ?_); (case hk => trivial); (conv => arg 9; cbv); (try simp only [OK]))
      refine fI_ rfl ?_;replace hQ := hQ1
      with_reducible refine Be hA hd hQ 1 ?hk ?_
      case hk => trivial
      conv => arg 9; cbv
      try simp only [OK]
      repeat' first | ((with_reducible refine Be hA hd hQ 200 ?hk ?_); (case hk => trivial); (conv => arg 9; cbv); (try simp only [OK]))
      refine fI_ rfl ⟨6, 1, some 2, ?_, ?_⟩
      · rw [show ((len : Nat) : Int) = r by omega]; rfl
      · rw [hRB0, show 8 * len = 0 by omega]; rfl
    · have k6 := k6 N (by omega)
      obtain ⟨M, hM⟩ : ∃ M, M = 8 * N := ⟨_, rfl⟩;rw [← hM] at k6;refine OKs.mv [0, 1, 2] [3, 4, 5] (by rw [hρ1]; rfl) ⟨by decide, by simp [Bd], fun id hid => ?_⟩ ?_
      · simp at hid
        rcases hid with rfl | rfl | rfl
        · exact ⟨_, rfl, hvc⟩
        · exact ⟨_, rfl, hnc⟩
        · exact ⟨_, rfl, htc⟩
      refine OKs.st (s' := ⟨mkT 45 [(4, .ptr 0 0), (5, .lit (.int .i64 0)), (6, .lit (.int .i64 0)), (7, .ptr 1 0), (23, .isl len none C), (24, .lit (.int .i64 (A.ofn len))), (25, .lit (.int .i64 z))], [.blk o6C, .blk bl2, .blk (plC r W (.isl B none vb) (.isl N none nm) (.isl N none tx))]⟩) rfl ?_;unfold o6C bl2 blC plC fC nC at *
      with_reducible refine Bf hA hd hQ 200 ?hk ?_
      case hk => trivial
      conv => arg 9; cbv
      try simp only [OK]
      repeat' first | ((with_reducible refine ⟨fun hbr => ?_, fun hbr => ?_⟩) <;> (try simp (disch := omega) only [hA, Ba] at hbr) <;> (try (with_reducible exfalso; omega))) | ((with_reducible refine Be hA hd hQ 200 ?hk ?_); (case hk => trivial); (conv => arg 9; cbv); (try simp only [OK]))
      have hQ1 := hQ;refine cO (Bi F58_ok) (Bk F58_ok fun I0 ρ0 w0 Q hρ2 hQ => ?_)
      with_reducible refine Bf hA hd hQ 200 ?hk ?_
      case hk => trivial
      conv => arg 9; cbv
      try simp only [OK]
      have hQ2 := hQ;refine cO (Bi F423_ok) (Bk F423_ok fun I0 ρ0 w0 Q hρ3 hQ => ?_)
      with_reducible refine Bf hA hd hQ 200 ?hk ?_
      case hk => trivial
      conv => arg 9; cbv
      try simp only [OK]
      repeat' first | (with_reducible refine And.intro trivial ?_) | ((with_reducible refine ⟨fun hbr => ?_, fun hbr => ?_⟩) <;> (try simp (disch := omega) only [hA, Ba] at hbr) <;> (try (with_reducible exfalso; omega))) | ((with_reducible refine Be hA hd hQ 200 ?hk ?_); (case hk => trivial); (conv => arg 9; cbv); (try simp only [OK])) | ((with_reducible refine cO ?hg ?_); (case hg => with_reducible exact Bi F407_ok); refine tM (k5 _) ?_; rintro _ _ ⟨rfl, rfl⟩) | ((with_reducible refine cO ?hg ?_); (case hg => with_reducible exact Bi F427_ok); refine tM (k6 _) ?_; rintro _ _ ⟨rfl, rfl⟩)
      have hQ3 := hQ;refine cO (Bi F373_ok) (Bk F373_ok fun I0 ρ0 w0 Q hρ3 hQ => ?_)
      with_reducible refine Bf hA hd hQ 200 ?hk ?_
      case hk => trivial
      conv => arg 9; cbv
      try simp only [OK]
      repeat' first | ((with_reducible refine ⟨fun hbr => ?_, fun hbr => ?_⟩) <;> (try simp (disch := omega) only [hA, Ba, not_true_eq_false] at hbr) <;> (try (with_reducible exfalso; omega))) | ((with_reducible refine Be hA hd hQ 200 ?hk ?_); (case hk => trivial); (conv => arg 9; cbv); (try simp only [OK]))
      refine fI_ rfl ?_;replace hQ := hQ3
      with_reducible refine Be hA hd hQ 1 ?hk ?_
      case hk => trivial
      conv => arg 9; cbv
      try simp only [OK]
      repeat' first | ((with_reducible refine Be hA hd hQ 200 ?hk ?_); (case hk => trivial); (conv => arg 9; cbv); (try simp only [OK]))
      replace hQ3 := hQ;refine cO (Bi F364_ok) (Bk F364_ok fun I0 ρ0 w0 Q hρ3 hQ => ?_)
      with_reducible refine Bf hA hd hQ 200 ?hk ?_
      case hk => trivial
      conv => arg 9; cbv
      try simp only [OK]
      refine fI_ rfl ?_;replace hQ := hQ3
      with_reducible refine Be hA hd hQ 1 ?hk ?_
      case hk => trivial
      conv => arg 9; cbv
      try simp only [OK]
      repeat' first | ((with_reducible refine Be hA hd hQ 200 ?hk ?_); (case hk => trivial); (conv => arg 9; cbv); (try simp only [OK]))
      refine fI_ rfl ?_;replace hQ := hQ2
      with_reducible refine Be hA hd hQ 1 ?hk ?_
      case hk => trivial
      conv => arg 9; cbv
      try simp only [OK]
      repeat' first | ((with_reducible refine Be hA hd hQ 200 ?hk ?_); (case hk => trivial); (conv => arg 9; cbv); (try simp only [OK]))
      refine fI_ rfl ?_;replace hQ := hQ1
      with_reducible refine Be hA hd hQ 1 ?hk ?_
      case hk => trivial
      conv => arg 9; cbv
      try simp only [OK]
      repeat' first | ((with_reducible refine Be hA hd hQ 200 ?hk ?_); (case hk => trivial); (conv => arg 9; cbv); (try simp only [OK]))
      refine fI_ rfl ⟨6, 1, some 2, ?_, ?_⟩
      · rw [show ((len : Nat) : Int) = r by omega]; rfl
      · rw [show 8 * len = M by omega]; rfl
theorem T1(ns:List Int)(hn:ns.length<=4096)(hr:∀n∈ns,BJ n)(h:EH) :
  Tri Tryz.prog gs 15 [.agg fC,.isl ns.length none (Bu ns)] h fun v h'=>v = .tup [.agg (dC ns.length (Bj (Bq ns))),.lit (.int .i64 0),.lit (.int .i64 0)]/\h'=h:=by
 refine Tri.up (Tri.fz1p (F:=fun x=>.tup [.agg [.lit (.int .i64 ns.length),.lit (.int .i64 0),.lit (.int .i64 0),x,.lit (.slice none 0 0),.lit (.slice none 0 0)],.lit (.int .i64 0),.lit (.int .i64 0)]) rfl rfl (fun _ _ _=>rfl) (fun x h=>by simp[clE,clL,h])
  (fun x y hu=>Up.tup rfl fun j p q hp hq=>?_) (SX ns hn hr) h) fun v h' ⟨hv,hh⟩=>⟨_,⟨rfl,hh⟩,?_⟩
 ·match j,hp,hq with
  |0,hp,hq=>simp at hp hq;subst hp;subst hq;exact Up.aggC ⟨Up.refl _,Up.refl _,Up.refl _,hu,Up.refl _,Up.refl _,trivial⟩
  |1,hp,hq=>simp at hp hq;subst hp;subst hq;exact Up.refl _
  |2,hp,hq=>simp at hp hq;subst hp;subst hq;exact Up.refl _
  |j+3,hp,hq=>simp at hp
 ·subst hv
  refine Up.tup rfl fun j p q hp hq=>?_
  match j,hp,hq with
  |0,hp,hq=>simp at hp hq;subst hp;subst hq;exact Up.aggC ⟨Up.refl _,Up.refl _,Up.refl _,Up.islC ⟨Up.nil _,Up.refl _,trivial⟩,Up.refl _,Up.refl _,trivial⟩
  |1,hp,hq=>simp at hp hq;subst hp;subst hq;exact Up.refl _
  |2,hp,hq=>simp at hp hq;subst hp;subst hq;exact Up.refl _
  |j+3,hp,hq=>simp at hp
theorem Pc(x:Int):BJ (stdA.wr .i64 x):=by
 show _<=IntKind.i64.wrap x/\IntKind.i64.wrap x<=_
 simp only[IntKind.wrap,IntKind.signed,IntKind.bits]
 simp
 omega
theorem PQ{op:Int}:∀(l m:List Int),∀n∈B8 op l m,BJ n
 |[],m,n,h=>by simp[B8]at h
 |a::l,[],n,h=>by simp[B8]at h
 |a::l,b::m,n,h=>by
  rcases List.mem_cons.1 h with rfl|h
  ·exact Pc _
  ·exact PQ l m n h
def cz(ns:List Int)(K:Nat):List EV:=Bu ns++Bu (List.replicate (K-ns.length) 0)
theorem W3{ns:List Int}{K:Nat}(h:ns.length<=K):(cz ns K).length=4*K:=by simp[cz,Dw];omega
theorem P3(ns:List Int)(K:Nat):clL (cz ns K)=true:=CU (CO _) (CO _)
theorem WW(ns:List Int)(K:Nat)(y:Int)(h:ns.length<K):stdA.setl (cz ns K) (ns.length*4) (nC y)=cz (ns++[y]) K:=by
 rw[EB]
 unfold cz
 rw[List.take_left' (by rw[Dw];omega),List.drop_append,List.drop_of_length_le (by rw[Dw];simp[nC];omega),lN,Dw,Kb]
 obtain⟨k,hk⟩:∃k,K-ns.length=k+1:=⟨K-ns.length-1,by omega⟩
 rw[hk,show K-(ns++[y]).length=k by simp;omega,List.replicate_succ]
 rw[show ns.length*4+(nC y).length-4*ns.length=4 by simp[nC];omega]
 show Bu ns++nC y++List.drop 4 (nC 0++Bu (List.replicate k 0))=Bu ns++(nC y++[])++Bu (List.replicate k 0)
 rw[List.append_nil];rfl
theorem KJ(l:List Int){i:Nat}(h:i<l.length):l.getD i 0=l[i]:=by rw[lG,lE h];rfl
theorem RW(n:Nat):stdA.rep (nC 0) n=cz [] n:=by
 rw[Lk]
 show _=Bu (List.replicate (n-0) 0)
 rw[Nat.sub_zero]
 induction n with
 |zero=>rfl
 |succ n ih=>rw[List.replicate_succ,List.replicate_succ,List.flatten_cons,ih];rfl
theorem Sr{A:Ar}(hA:A=stdA){rw:List EV}(a:Int)(h:rw.length=8):A.setl rw (A.idx 0 0 4) (nC a)=nC a++rw.drop 4:=by
 rw[hA,EB,B0];rfl
theorem Vq{A:Ar}(hA:A=stdA){rw:List EV}(a b:Int)(h:rw.length=8):A.setl (nC a++rw.drop 4) (A.idx 0 1 4) (nC b)=nC a++nC b:=by
 rw[hA,EB,B0]
 show List.take 4 (nC a++rw.drop 4)++nC b++List.drop 8 (nC a++rw.drop 4)=_
 rw[List.drop_of_length_le (show (nC a++rw.drop 4).length<=8 by rw[List.length_append,lD,h];exact Nat.le_refl _),List.append_nil];rfl
theorem lkK{A:Ar}(hA:A=stdA):List.take 1 (List.drop (A.add (A.add (A.idx 0 0 7) 2) 0) (fC++fC))=[.lit (.int .i64 11)]:=by rw[hA];rfl
theorem YQ{A:Ar}(hA:A=stdA)(a b:Int):List.take 1 (List.drop (A.add (A.idx 0 0 4) 1) (nC a++nC b))=[.lit (.int .i64 a)]:=by rw[hA];rfl
theorem Zp{A:Ar}(hA:A=stdA)(a b:Int):List.take 1 (List.drop (A.add (A.idx 0 1 4) 1) (nC a++nC b))=[.lit (.int .i64 b)]:=by rw[hA];rfl
theorem RS{A:Ar}(hA:A=stdA)(a b:Int):List.take 4 (List.drop (A.idx 0 0 4) (nC a++nC b))=nC a:=by rw[hA];rfl
theorem Wh{A:Ar}(hA:A=stdA)(a b:Int):List.take 4 (List.drop (A.idx 0 1 4) (nC a++nC b))=nC b:=by rw[hA];rfl
theorem Tg(op:Int)(hop:1<=op/\op<=4)(xs ys:List Int)(hxy:xs.length=ys.length)(hn:xs.length<=4096)(hx:∀n∈xs,BJ n)(hy:∀n∈ys,BJ n)(h:EH) :
  Tri Tryz.prog gs 6 [.lit (.int .i64 op),fL,.isl 2 none (dC xs.length (Bj (Bq xs))++dC ys.length (Bj (Bq ys)))] h fun v h'=>v = .tup [.agg (dC xs.length (Bj (Bq (B8 op xs ys)))),.lit (.int .i64 0),.lit (.int .i64 0)]/\h'=h:=by
 have hzl:=IQ (op:=op) hxy
 have k1:=Ug op hop
 have k2:=Uo op hop
 obtain⟨N,hN⟩:∃N:Int,N=xs.length:=⟨_,rfl⟩
 obtain⟨M,hM⟩:∃M,M=8*xs.length:=⟨_,rfl⟩
 have k3:=SP xs ys hxy hn hx hy N hN M hM
 have kO:=T1 (B8 op xs ys) (by omega) (PQ xs ys)
 have hg1:=Hid.mk (E3 xs)
 have hg2:=Hid.mk (E3 ys)
 have hzg:=Hid.mk (fun i=>KN (op:=op) (l:=xs) (m:=ys) i hxy)
 have hD1:dC xs.length (Bj (Bq xs))=dX N M (Bj (Bq xs)):=by rw[hN,hM];rfl
 have hD2:dC ys.length (Bj (Bq ys))=dX N M (Bj (Bq ys)):=by rw[hN,hM,<-hxy];rfl
 rw[hD1,hD2]
 rw[hzl]at kO
 unfold dL at k3
 obtain⟨DL,hDL⟩:∃q,q=dX N M (Bj (Bq xs))++dX N M (Bj (Bq ys)):=⟨_,rfl⟩
 rw[<-hDL]at k3 ⊢
 obtain⟨len,hlen⟩:∃q,q=xs.length:=⟨_,rfl⟩
 obtain⟨C1,hC1⟩:∃q,q=Bu xs:=⟨_,rfl⟩
 obtain⟨C2,hC2⟩:∃q,q=Bu ys:=⟨_,rfl⟩
 obtain⟨zs,hzs⟩:∃q,q=B8 op xs ys:=⟨_,rfl⟩
 rw[<-hzs]at kO hzg hzl ⊢
 rw[<-hlen]at kO k3 hzl hn hN ⊢
 rw[<-hC1,<-hC2]at k3
 obtain⟨RB,hRB⟩:∃R,R=Bj (Bq zs):=⟨_,rfl⟩
 have hDR:dC len RB=dX N M RB:=by rw[hN,hM,hlen];rfl
 rw[<-hRB,hDR]at kO ⊢
 refine Tri.valA rfl rfl (Bk F6_ok fun I0 ρ0 w0 Q hρ hQ=>?_) h
 obtain⟨A,hA⟩:∃A,A=stdA:=⟨_,rfl⟩
 unfold fL at *
 obtain⟨FL,hFL⟩:∃q,q=fC++fC:=⟨_,rfl⟩
 rw[<-hFL]at k2 k3 ⊢
 unfold ruC fC at *
 with_reducible refine Bf hA hd hQ 200 ?hk ?_
 case hk=>trivial
 conv=>arg 9;cbv
 try simp only[OK]
 repeat' first|(with_reducible refine OKK.loop ?_)|((with_reducible refine⟨fun hbr=>?_,fun hbr=>?_⟩)<;>(try simp(disch:=omega)only[hA,Ba]at hbr)<;>(try (with_reducible exfalso;omega)))|((with_reducible refine Be hA hd hQ 200 ?hk ?_);(case hk=>trivial);(conv=>arg 9;cbv);(try simp only[OK]))|((with_reducible refine Bn ?hn ?_);(case hn=>((simp(disch:=omega)only[hA,Ba])<;>omega)))|((refine⟨_,_,?l1,Ct hA _ _,rfl,?_⟩);(case l1=>exact rfl))|((with_reducible refine cO ?hg ?_);(case hg=>with_reducible exact Bi F11_ok);refine tM (k1 _) ?_;rintro _ _ ⟨rfl,rfl⟩)|((with_reducible refine cO ?hg ?_);(case hg=>with_reducible exact Bi F12_ok);refine tM (k2 _) ?_;rintro _ _ ⟨rfl,rfl⟩)|((with_reducible refine cO ?hg ?_);(case hg=>with_reducible exact Bi F13_ok);refine tM (k3 _) ?_;rintro _ _ ⟨rfl,rfl⟩)
 have kK:=lkK hA
 unfold fC at kK
 rw[show ([.lit (.string ⟨#[120]⟩),.lit (.bool false),.lit (.int .i64 11),.lit (.int .i64 0),.lit (.int .i64 0),.lit (.int .i64 0),.lit (.slice none 0 0)]:List EV)++[.lit (.string ⟨#[120]⟩),.lit (.bool false),.lit (.int .i64 11),.lit (.int .i64 0),.lit (.int .i64 0),.lit (.int .i64 0),.lit (.slice none 0 0)]=FL from hFL.symm]at kK
 refine oK_ (msk 110 [6,7,8,9,10,11,13,14,15,56,57]) ?_
 refine OKs.st (s':=⟨mkT 110 [(6,.ptr 0 0),(7,.lit (.int .i64 0)),(8,.lit (.int .i64 0)),(9,.ptr 1 0),(10,.ptr 2 0),(11,.isl 2 none FL),(13,.isl 2 none [.isl len none C1,.isl len none C2]),(14,.sl 4 3 0 len (some len)),(15,.sl 4 4 0 2 (some 2)),(56,.lit (.int .i64 (A.ofn len))),(57,.lit (.int .i64 0))],[.blk o6C,.blk (ruC op),.blk fC,.blk (A.rep (nC 0) len),.blk (Bu [0,0])]⟩) (by subst hA;rfl) ?_
 refine oL_ (fun m st=>∃(z:Int) (c rw:List EV),m=((len:Int)-z).toNat/\0<=z/\z<=len/\c=cz (zs.take z.toNat) len/\rw.length=8/\clL rw=true/\
   st=⟨mkT 110 [(6,.ptr 0 0),(7,.lit (.int .i64 0)),(8,.lit (.int .i64 0)),(9,.ptr 1 0),(10,.ptr 2 0),(11,.isl 2 none FL),(13,.isl 2 none [.isl len none C1,.isl len none C2]),(14,.sl 4 3 0 len (some len)),(15,.sl 4 4 0 2 (some 2)),(56,.lit (.int .i64 (A.ofn len))),(57,.lit (.int .i64 z))],[.blk o6C,.blk (ruC op),.blk fC,.blk c,.blk rw]⟩)
  (fun m st hs' ih=>?_) ⟨0,_,_,rfl,by omega,by omega,(by rw[hA];exact RW len),rfl,rfl,rfl⟩
 obtain⟨z,c,rw,hm,hz0,hz1,hc,hrl,hrc,rfl⟩:=hs'
 have hcl:c.length=4*len:=by rw[hc];exact W3 (by rw[lK];omega)
 have hcc:clL c=true:=by rw[hc];exact P3 _ _
 by_cases hzl2:z<len
 ·obtain⟨a,ha⟩:∃a,a=xs.getD z.toNat 0:=⟨_,rfl⟩
  obtain⟨b,hb⟩:∃b,b=ys.getD z.toNat 0:=⟨_,rfl⟩;have hL1:List.take 4 (List.drop (A.idx 0 z 4) C1)=nC a:=by rw[hA,B0,Nat.zero_add,hC1,ha];exact hg1.out _ (by omega)
  have hL2:List.take 4 (List.drop (A.idx 0 z 4) C2)=nC b:=by rw[hA,B0,Nat.zero_add,hC2,hb];exact hg2.out _ (by omega)
  have hzt:zs.take (z.toNat+1)=zs.take z.toNat++[fI op a b]:=by
   rw[List.take_add_one,lE (show z.toNat<zs.length by omega),ha,hb,<-hzg.out _ (by omega),KJ zs (show z.toNat<zs.length by omega)];rfl
  have hset:Hid (A.setl c (A.idx 0 z 4) (nC (fI op a b))=cz (zs.take (z.toNat+1)) len):=Hid.mk (by
   have:=WW (zs.take z.toNat) len (fI op a b) (by rw[lK];omega)
   rw[hA,B0,hzt,<-this,hc,lK,show 0+z.toNat * 4=min z.toNat zs.length*4 by omega])
  have kf:=S5 op a b hop;have e0:=Sr hA a hrl;have e1:=Vq hA a b hrl;have kr0:=RS hA a b;have kr1:=Wh hA a b;have kn0:=YQ hA a b;have kn1:=Zp hA a b;have hr1l:(nC a++rw.drop 4).length=8:=by simp[nC];omega
  have hr2l:(nC a++nC b).length=8:=rfl;have hr2c:clL (nC a++nC b)=true:=rfl;obtain⟨rw1,hrw1⟩:∃q,q=nC a++rw.drop 4:=⟨_,rfl⟩;obtain⟨rw2,hrw2⟩:∃q,q=nC a++nC b:=⟨_,rfl⟩;rw[<-hrw1]at e0 e1 hr1l;rw[<-hrw2]at e1 kr0 kr1 kn0 kn1 hr2l hr2c;clear hg1 hg2 hzg hzt k1 k2 k3 hrw1 hrw2;unfold nV at kf;generalize fI op a b=y at *;unfold o6C ruC fC nC at *
  with_reducible refine Bf hA hd hQ 200 ?hk ?_
  case hk=>trivial
  conv=>arg 9;cbv
  try simp only[OK]
  repeat' first|(with_reducible refine OKK.loop ?_)|((with_reducible refine⟨fun hbr=>?_,fun hbr=>?_⟩)<;>(try simp(disch:=omega)only[hA,Ba]at hbr)<;>(try (with_reducible exfalso;omega)))|((with_reducible refine Be hA hd hQ 200 ?hk ?_);(case hk=>trivial);(conv=>arg 9;cbv);(try simp only[OK]))
  refine OKs.loopU ?_
  with_reducible refine Bf hA hd hQ 200 ?hk ?_
  case hk=>trivial
  conv=>arg 9;cbv
  try simp only[OK]
  repeat' first|(with_reducible refine OKK.again ?_)|((with_reducible refine⟨fun hbr=>?_,fun hbr=>?_⟩)<;>(try simp(disch:=omega)only[hA,Ba]at hbr)<;>(try (with_reducible exfalso;omega)))|((with_reducible refine Be hA hd hQ 200 ?hk ?_);(case hk=>trivial);(conv=>arg 9;cbv);(try simp only[OK]))|((with_reducible refine Bn ?hn ?_);(case hn=>((simp(disch:=omega)only[hA,Ba,Int.reduceToNat])<;>omega)))|((refine⟨_,_,?l1,(Ct hA _ _),rfl,?_⟩);(case l1=>exact rfl))|((refine⟨_,_,?l1,hL1,rfl,?_⟩);(case l1=>exact rfl))
  refine oK_ (msk 110 [6,7,8,9,10,11,13,14,15,16,56,57,61,62]) ?_;refine OKs.st (s':=⟨mkT 110 [(6,.ptr 0 0),(7,.lit (.int .i64 0)),(8,.lit (.int .i64 0)),(9,.ptr 1 0),(10,.ptr 2 0),(11,.isl 2 none FL),(13,.isl 2 none [.isl len none C1,.isl len none C2]),(14,.sl 4 3 0 len (some len)),(15,.sl 4 4 0 2 (some 2)),(16,.lit (.int .i64 z)),(56,.lit (.int .i64 (A.ofn len))),(57,.lit (.int .i64 z)),(61,.lit (.int .i64 2)),(62,.lit (.int .i64 1))],[.blk o6C,.blk (ruC op),.blk fC,.blk c,.blk rw1]⟩) (by rw[<-e0];subst hA;rfl) ?_
  unfold o6C ruC fC;refine OKs.lpU ?_
  with_reducible refine Bf hA hd hQ 200 ?hk ?_
  case hk=>trivial
  conv=>arg 9;cbv
  try simp only[OK]
  repeat' first|(with_reducible refine OKK.again ?_)|((with_reducible refine⟨fun hbr=>?_,fun hbr=>?_⟩)<;>(try simp(disch:=omega)only[hA,Ba]at hbr)<;>(try (with_reducible exfalso;omega)))|((with_reducible refine Be hA hd hQ 200 ?hk ?_);(case hk=>trivial);(conv=>arg 9;cbv);(try simp only[OK]))|((with_reducible refine Bn ?hn ?_);(case hn=>((simp(disch:=omega)only[hA,Ba,Int.reduceToNat])<;>omega)))|((refine⟨_,_,?l1,(C5 hA _ _),rfl,?_⟩);(case l1=>exact rfl))|((refine⟨_,_,?l1,hL2,rfl,?_⟩);(case l1=>exact rfl))
  refine oK_ (msk 110 [6,7,8,9,10,11,13,14,15,16,56,57,61,62]) ?_;refine OKs.st (s':=⟨mkT 110 [(6,.ptr 0 0),(7,.lit (.int .i64 0)),(8,.lit (.int .i64 0)),(9,.ptr 1 0),(10,.ptr 2 0),(11,.isl 2 none FL),(13,.isl 2 none [.isl len none C1,.isl len none C2]),(14,.sl 4 3 0 len (some len)),(15,.sl 4 4 0 2 (some 2)),(16,.lit (.int .i64 z)),(56,.lit (.int .i64 (A.ofn len))),(57,.lit (.int .i64 z)),(61,.lit (.int .i64 2)),(62,.lit (.int .i64 2))],[.blk o6C,.blk (ruC op),.blk fC,.blk c,.blk rw2]⟩) (by rw[<-e1];subst hA;rfl) ?_
  unfold o6C ruC fC;refine OKs.lpU ?_
  with_reducible refine Bf hA hd hQ 200 ?hk ?_
  case hk=>trivial
  conv=>arg 9;cbv
  try simp only[OK]
  repeat' first|((with_reducible refine⟨fun hbr=>?_,fun hbr=>?_⟩)<;>(try simp(disch:=omega)only[hA,Ba]at hbr)<;>(try (with_reducible exfalso;omega)))|((with_reducible refine Be hA hd hQ 200 ?hk ?_);(case hk=>trivial);(conv=>arg 9;cbv);(try simp only[OK]))
  have hQ1:=hQ;refine cO (Bi F14_ok) (Bk F14_ok fun I0 ρ0 w0 Q hρ2 hQ=>?_)
  with_reducible refine Bf hA hd hQ 200 ?hk ?_
  case hk=>trivial
  conv=>arg 9;cbv
  try simp only[OK]
  repeat' first|(with_reducible refine OKK.loop ?_)
  refine OKs.loopU ?_
  with_reducible refine Bf hA hd hQ 200 ?hk ?_
  case hk=>trivial
  conv=>arg 9;cbv
  try simp only[OK]
  repeat' first|(with_reducible refine OKK.again ?_)|((with_reducible refine⟨fun hbr=>?_,fun hbr=>?_⟩)<;>(try simp(disch:=omega)only[hA,Ba]at hbr)<;>(try (with_reducible exfalso;omega)))|((with_reducible refine Be hA hd hQ 200 ?hk ?_);(case hk=>trivial);(conv=>arg 9;cbv);(try simp only[OK]))|((with_reducible refine Bn ?hn ?_);(case hn=>((simp(disch:=omega)only[hA,Ba])<;>omega)))|((refine⟨_,_,?l1,kr0,rfl,?_⟩);(case l1=>exact rfl))
  refine oK_ (msk 14 [5,6,7]) ?_;refine OKs.st (s':=⟨mkT 14 [(5,.sl 4 4 0 2 (some 2)),(6,.lit (.int .i64 2)),(7,.lit (.int .i64 1))],[.blk o6C,.blk (ruC op),.blk fC,.blk c,.blk rw2,.blk (nC a)]⟩) (by subst hA;rfl) ?_
  unfold o6C ruC fC nC;refine OKs.lpU ?_
  with_reducible refine Bf hA hd hQ 200 ?hk ?_
  case hk=>trivial
  conv=>arg 9;cbv
  try simp only[OK]
  repeat' first|(with_reducible refine OKK.again ?_)|((with_reducible refine⟨fun hbr=>?_,fun hbr=>?_⟩)<;>(try simp(disch:=omega)only[hA,Ba]at hbr)<;>(try (with_reducible exfalso;omega)))|((with_reducible refine Be hA hd hQ 200 ?hk ?_);(case hk=>trivial);(conv=>arg 9;cbv);(try simp only[OK]))|((with_reducible refine Bn ?hn ?_);(case hn=>((simp(disch:=omega)only[hA,Ba])<;>omega)))|((refine⟨_,_,?l1,kr1,rfl,?_⟩);(case l1=>exact rfl))
  refine oK_ (msk 14 [5,6,7]) ?_;refine OKs.st (s':=⟨mkT 14 [(5,.sl 4 4 0 2 (some 2)),(6,.lit (.int .i64 2)),(7,.lit (.int .i64 2))],[.blk o6C,.blk (ruC op),.blk fC,.blk c,.blk rw2,.blk (nC a),.blk (nC b)]⟩) (by subst hA;rfl) ?_
  unfold o6C ruC fC nC;refine OKs.lpU ?_
  with_reducible refine Bf hA hd hQ 200 ?hk ?_
  case hk=>trivial
  conv=>arg 9;cbv
  try simp only[OK]
  repeat' first|((with_reducible refine⟨fun hbr=>?_,fun hbr=>?_⟩)<;>(try simp(disch:=omega)only[hA,Ba]at hbr)<;>(try (with_reducible exfalso;omega)))|((with_reducible refine Be hA hd hQ 200 ?hk ?_);(case hk=>trivial);(conv=>arg 9;cbv);(try simp only[OK]))
  refine fI_ rfl ?_;replace hQ:=hQ1
  with_reducible refine Be hA hd hQ 1 ?hk ?_
  case hk=>trivial
  conv=>arg 9;cbv
  try simp only[OK]
  repeat' first|((with_reducible refine Be hA hd hQ 200 ?hk ?_);(case hk=>trivial);(conv=>arg 9;cbv);(try simp only[OK]))
  replace hQ1:=hQ;refine cO (Bi F77_ok) (Bk F77_ok fun I0 ρ0 w0 Q hρ2 hQ=>?_)
  have kop:List.take 1 (List.drop 0 [EV.lit (.int .i64 op)])=[EV.lit (.int .i64 op)]:=rfl
  with_reducible refine Bf hA hd hQ 200 ?hk ?_
  case hk=>trivial
  conv=>arg 9;cbv
  try simp only[OK]
  repeat' first|((with_reducible refine⟨fun hbr=>?_,fun hbr=>?_⟩)<;>(try simp(disch:=omega)only[hA,Ba]at hbr)<;>(try (with_reducible exfalso;omega)))|((with_reducible refine Be hA hd hQ 200 ?hk ?_);(case hk=>trivial);(conv=>arg 9;cbv);(try simp only[OK]))|((with_reducible refine Bn ?hn ?_);(case hn=>((simp(disch:=omega)only[hA,Ba])<;>omega)))|((refine⟨_,_,?l1,kK,rfl,?_⟩);(case l1=>exact rfl))|((refine⟨_,_,?l1,kn0,rfl,?_⟩);(case l1=>exact rfl))|((refine⟨_,_,?l1,kn1,rfl,?_⟩);(case l1=>exact rfl))|((refine⟨_,_,?l1,kop,rfl,?_⟩);(case l1=>exact rfl))
  refine cO TH (tM (kf _) fun v hh hx=>?_)
  obtain⟨hv,hh'⟩:=hx;subst hv;subst hh'
  with_reducible refine Be hA hd hQ 1 ?hk ?_
  case hk=>trivial
  conv=>arg 9;cbv
  try simp only[OK]
  repeat' first|((with_reducible refine Be hA hd hQ 200 ?hk ?_);(case hk=>trivial);(conv=>arg 9;cbv);(try simp only[OK]))
  refine fI_ rfl ?_;replace hQ:=hQ1
  with_reducible refine Be hA hd hQ 1 ?hk ?_
  case hk=>trivial
  conv=>arg 9;cbv
  try simp only[OK]
  repeat' first|(with_reducible refine OKK.again ?_)|((with_reducible refine⟨fun hbr=>?_,fun hbr=>?_⟩)<;>(try simp(disch:=omega)only[hA,Ba]at hbr)<;>(try (with_reducible exfalso;omega)))|((with_reducible refine Be hA hd hQ 200 ?hk ?_);(case hk=>trivial);(conv=>arg 9;cbv);(try simp only[OK]))|((with_reducible refine Bn ?hn ?_);(case hn=>((simp(disch:=omega)only[hA,Ba])<;>omega)))
  refine oK_ (msk 110 [6,7,8,9,10,11,13,14,15,56,57]) (OKs.mv [0,1,2,3,4] [] (by rw[hρ];rfl) ⟨by decide,by simp[Bd],by simp⟩ (ih _ _ ⟨A.ib .add .i64 z 1,_,_,rfl,by simp(disch:=omega)only[hA,Ba]<;>omega,by simp(disch:=omega)only[hA,Ba]<;>omega,?_,?_,?_,rfl⟩ (by simp(disch:=omega)only[hA,Ba]<;>omega)))
  ·rw[show (A.ib .add .i64 z 1).toNat=z.toNat+1 by simp(disch:=omega)only[hA,Ba]<;>omega]
   refine(BA _ _ _ ?_).trans hset.out;exact(congrArg clL hset.out).trans (P3 _ _)
  ·exact(congrArg List.length (BA _ _ _ hr2c)).trans hr2l
  ·exact(congrArg clL (BA _ _ _ hr2c)).trans hr2c
 ·have hzn:z.toNat=zs.length:=by omega
  have hcz:c=Bu zs:=by
   rw[hc,hzn,lT (Nat.le_refl _)];unfold cz;rw[hzl,Nat.sub_self];exact List.append_nil _
  refine OKs.mv [0,1,2] [3] (by rw[hρ];rfl) ⟨by decide,by simp[Bd],fun id hid=>by simp at hid;subst hid;exact⟨_,rfl,hcc⟩⟩ ?_
  refine OKs.up 14 (.isl len none c) (Up.cap _ _ _) ?_;rw[<-hcz]at kO;unfold o6C ruC fC dX at *
  with_reducible refine Bf hA hd hQ 200 ?hk ?_
  case hk=>trivial
  conv=>arg 9;cbv
  try simp only[OK]
  repeat' first|((with_reducible refine⟨fun hbr=>?_,fun hbr=>?_⟩)<;>(try simp(disch:=omega)only[hA,Ba]at hbr)<;>(try (with_reducible exfalso;omega)))|((with_reducible refine Be hA hd hQ 200 ?hk ?_);(case hk=>trivial);(conv=>arg 9;cbv);(try simp only[OK]))|((with_reducible refine cO ?hg ?_);(case hg=>with_reducible exact Bi F15_ok);refine tM (kO _) ?_;rintro _ _ ⟨rfl,rfl⟩)
  all_goals exact fI_ rfl rfl
theorem Y6(h:EH):Tri Tryz.prog gs 20 [.lit (.slice none 0 0),.lit (.slice none 0 0)] h fun v h'=>v = .lit (.bool true)/\h'=h:=closedA (by kernel_rfl) rfl rfl h
theorem YG(N:Int)(M:Nat)(B:List EV)(hB:stdA.byt M B=true)(h:EH):Tri Tryz.prog gs 8 [.agg (dX N M B),.agg (dX N M B)] h fun v h'=>IsP True v/\h'=h:=by
 refine Tri.boolC rfl (Bk F8_ok fun I0 ρ0 w0 Q hρ hQ=>?_) h
 obtain⟨A,hA⟩:∃A,A=stdA:=⟨_,rfl⟩
 have k1:=Y6
 rw[<-hA]at hB
 have hB0:A.byt 0 []=true:=by rw[hA];rfl
 unfold dX at *
 with_reducible refine Bf hA hd hQ 200 ?hk ?_
 case hk=>trivial
 conv=>arg 9;cbv
 try simp only[OK]
 repeat' first|(with_reducible refine OKK.loop ?_)|((with_reducible refine⟨fun hbr=>?_,fun hbr=>?_⟩)<;>(try simp(disch:=omega)only[hA,Ba,not_true_eq_false,not_false_eq_true,ne_eq]at hbr)<;>(try (with_reducible exfalso;omega)))|((with_reducible refine Be hA hd hQ 200 ?hk ?_);(case hk=>trivial);(conv=>arg 9;cbv);(try simp only[OK]))
 refine OKs.loopU ?_
 with_reducible refine Bf hA hd hQ 200 ?hk ?_
 case hk=>trivial
 conv=>arg 9;cbv
 try simp only[OK]
 repeat' first|(with_reducible refine OKK.again ?_)|((with_reducible refine⟨fun hbr=>?_,fun hbr=>?_⟩)<;>(try simp(disch:=omega)only[hA,Ba,not_true_eq_false,not_false_eq_true,ne_eq]at hbr)<;>(try (with_reducible exfalso;omega)))|((with_reducible refine Be hA hd hQ 200 ?hk ?_);(case hk=>trivial);(conv=>arg 9;cbv);(try simp only[OK]))|((with_reducible refine Bn ?hn ?_);(case hn=>((simp(disch:=omega)only[hA,Ba])<;>omega)))|((refine⟨_,_,?l1,(Ct hA _ _),rfl,?_⟩);(case l1=>exact rfl))|(with_reducible refine Bn hB0 ?_)
 refine oK_ (msk 66 [2,3,5]) ?_
 refine OKs.st (s':=⟨mkT 66 [(2,.ptr 0 0),(3,.ptr 1 0),(5,.lit (.int .i64 1))],[.blk (dX N M B),.blk (dX N M B)]⟩) (by subst hA;rfl) ?_
 unfold dX
 refine OKs.lpU ?_
 with_reducible refine Bf hA hd hQ 200 ?hk ?_
 case hk=>trivial
 conv=>arg 9;cbv
 try simp only[OK]
 repeat' first|(with_reducible refine OKK.again ?_)|((with_reducible refine⟨fun hbr=>?_,fun hbr=>?_⟩)<;>(try simp(disch:=omega)only[hA,Ba,not_true_eq_false,not_false_eq_true,ne_eq]at hbr)<;>(try (with_reducible exfalso;omega)))|((with_reducible refine Be hA hd hQ 200 ?hk ?_);(case hk=>trivial);(conv=>arg 9;cbv);(try simp only[OK]))|((with_reducible refine Bn ?hn ?_);(case hn=>((simp(disch:=omega)only[hA,Ba])<;>omega)))|((refine⟨_,_,?l1,(C5 hA _ _),rfl,?_⟩);(case l1=>exact rfl))|(with_reducible refine Bn hB ?_)
 refine oK_ (msk 66 [2,3,5]) ?_
 refine OKs.st (s':=⟨mkT 66 [(2,.ptr 0 0),(3,.ptr 1 0),(5,.lit (.int .i64 2))],[.blk (dX N M B),.blk (dX N M B)]⟩) (by subst hA;rfl) ?_
 unfold dX
 refine OKs.lpU ?_
 with_reducible refine Bf hA hd hQ 200 ?hk ?_
 case hk=>trivial
 conv=>arg 9;cbv
 try simp only[OK]
 repeat' first|((with_reducible refine⟨fun hbr=>?_,fun hbr=>?_⟩)<;>(try simp(disch:=omega)only[hA,Ba]at hbr)<;>(try (with_reducible exfalso;omega)))|((with_reducible refine Be hA hd hQ 200 ?hk ?_);(case hk=>trivial);(conv=>arg 9;cbv);(try simp only[OK]))|((with_reducible refine cO ?hg ?_);(case hg=>with_reducible exact Bi F20_ok);refine tM (k1 _) ?_;rintro _ _ ⟨rfl,rfl⟩)
 all_goals (try (with_reducible refine FinR.self ?_;first|refine FinR.bl rfl ?_|refine FinR.bs rfl ?_|refine FinR.blh rfl ?_ rfl|refine FinR.bsh rfl ?_ rfl))
 all_goals (try simp(disch:=omega)only[eq_self])
 all_goals trivial
theorem Vi(ns:List Int)(h:EH):Tri Tryz.prog gs 8 [.agg (dC ns.length (Bj (Bq ns))),.agg (dC ns.length (Bj (Bq ns)))] h fun v h'=>IsP True v/\h'=h:=
 YG ns.length (8*ns.length) _ (YK (IF ns) (by rw[C3];exact Nat.le_refl _)) h
theorem LR(h:EH):Tri Tryz.prog gs 4 [] h fun v h'=>v = .agg fC/\h'=h:=closedA (by kernel_rfl) rfl rfl h
def CD(ws:List Int):List EV:=ws.map fun x=>.lit (.int .u64 x)
theorem NZ(ws:List Int):(CD ws).length=ws.length:=by simp[CD]
theorem Ww(l:List Int)(i:Nat)(h:i<l.length):List.take 1 (List.drop i (CD l))=[.lit (.int .u64 (l.getD i 0))]:=by
 have e:CD l=CD (l.take i)++(.lit (.int .u64 (l.getD i 0))::CD (l.drop (i+1))):=by
  conv=>lhs;rw[<-List.take_append_drop i l,List.drop_eq_getElem_cons h]
  unfold CD;rw[List.map_append,List.map_cons,lG,lE h];rfl
 rw[e,List.drop_left' (by rw[NZ,lK];omega)];rfl
def C7(k:Nat)(ws:List Int):List Int:=(ws.take k).map (stdA.wr .i64)
theorem Hi{k:Nat}{ws:List Int}(h:k<=ws.length):(C7 k ws).length=k:=by simp[C7];omega
theorem Io(k:Nat)(ws:List Int):∀n∈C7 k ws,BJ n:=fun n hn=>by
 obtain⟨x,_,rfl⟩:=List.mem_map.1 hn
 exact Pc x
theorem TT{k:Nat}{ws:List Int}(h:k<=ws.length)(i:Nat)(hi:i<k):(C7 k ws).getD i 0=stdA.wr .i64 (ws.getD i 0):=by
 rw[KJ _ (by rw[Hi h];exact hi),KJ _ (show i<ws.length by omega)]
 simp[C7]
theorem Rf(k:Nat)(ws:List Int)(hk:k<=ws.length)(hk2:k<=4096)(h:EH):Tri Tryz.prog gs 5 [.isl k none (CD ws)] h fun v h'=>v = .agg (dC k (Bj (Bq (C7 k ws))))/\h'=h:=by
 have kO:=RH (.inl rfl) (C7 k ws) (by rw[Hi hk];omega)
 have hm:=Hid.mk (HQ (C7 k ws))
 have hg:=Hid.mk (Ww ws)
 have hn:=Hid.mk (TT hk)
 have hkl:=Hi hk
 rw[hkl]at kO
 obtain⟨vs,hvs⟩:∃q,q=C7 k ws:=⟨_,rfl⟩
 rw[<-hvs]at kO hm hn hkl ⊢
 obtain⟨C,hC⟩:∃q,q=CD ws:=⟨_,rfl⟩
 rw[<-hC]at hg ⊢
 obtain⟨RB,hRB⟩:∃q,q=Bj (Bq vs):=⟨_,rfl⟩
 rw[<-hRB]at kO ⊢
 have hDR:dC k RB=dX k (8*k) RB:=rfl
 obtain⟨M,hM⟩:∃q,q=8*k:=⟨_,rfl⟩
 obtain⟨N,hN⟩:∃q:Int,q=k:=⟨_,rfl⟩
 rw[<-hM,<-hN]at hDR
 rw[hDR]at kO ⊢
 refine Tri.valA rfl rfl (Bk F5_ok fun I0 ρ0 w0 Q hρ hQ=>?_) h
 obtain⟨A,hA⟩:∃A,A=stdA:=⟨_,rfl⟩
 have k1:=LR
 unfold dX at *
 with_reducible refine Bf hA hd hQ 200 ?hk ?_
 case hk=>trivial
 conv=>arg 9;cbv
 try simp only[OK]
 repeat' first|(with_reducible refine OKK.loop ?_)
 refine oK_ (msk 32 [0,2,3,4]) ?_
 refine oL_ (fun m st=>∃(z:Int) (Z:Nat) (cp:Option Nat) (c:List EV),m=((k:Int)-z).toNat/\0<=z/\z<=k/\Z=z.toNat/\c=Bu (vs.take Z)/\((z=0/\cp=some 0)\/(1<=z/\cp=none))/\
   st=⟨mkT 32 [(0,.isl k none C),(2,.ptr 0 0),(3,.sl 4 1 0 Z cp),(4,.lit (.int .i64 z))],[.blk o6C,.blk c]⟩)
  (fun m st hs' ih=>?_) ⟨0,0,some 0,[],rfl,by omega,by omega,rfl,rfl,.inl ⟨rfl,rfl⟩,rfl⟩
 obtain⟨z,Z,cp,c,hm2,hz0,hz1,hZ,hc,hcp,rfl⟩:=hs'
 have hcl:c.length=Z*4:=by rw[hc,Dw,lK];omega
 have hcc:clL c=true:=by rw[hc];exact CO _
 by_cases hzl:z<k
 ·obtain⟨x,hx⟩:∃x,x=ws.getD z.toNat 0:=⟨_,rfl⟩
  have hL:List.take 1 (List.drop (A.idx 0 z 1) C)=[.lit (.int .u64 x)]:=by rw[hA,B0,Nat.zero_add,Nat.mul_one,hx];exact hg.out _ (by omega)
  have hmr:Hid (Bu (vs.take (z.toNat+1))=c++nC (A.wr .i64 x)):=Hid.mk (by rw[hm.out _ (by omega),hn.out _ (by omega),hc,hZ,hx,hA])
  clear hm hn hg;unfold o6C;rcases hcp with ⟨hz2,rfl⟩|⟨hz2,rfl⟩
  all_goals
   with_reducible refine Bf hA hd hQ 200 ?hk ?_
   case hk=>trivial
   conv=>arg 9;cbv
   try simp only[OK]
   repeat' first|(with_reducible refine OKK.again ?_)|((with_reducible refine⟨fun hbr=>?_,fun hbr=>?_⟩)<;>(try simp(disch:=omega)only[hA,Ba]at hbr)<;>(try (with_reducible exfalso;omega)))|((with_reducible refine Be hA hd hQ 200 ?hk ?_);(case hk=>trivial);(conv=>arg 9;cbv);(try simp only[OK]))|((with_reducible refine Bn ?hn ?_);(case hn=>((simp(disch:=omega)only[hA,Ba])<;>omega)))|((refine⟨_,_,?l1,hL,rfl,?_⟩);(case l1=>exact rfl))
   refine oK_ (msk 32 [0,2,3,4]) (OKs.mv [0,3] [] (by rw[hρ];rfl) ⟨by decide,by simp[Bd],by simp⟩ (ih _ _ ⟨A.ib .add .i64 z 1,A.add Z 1,_,_,rfl,by simp(disch:=omega)only[hA,Ba]<;>omega,by simp(disch:=omega)only[hA,Ba]<;>omega,?_,?_,.inr ⟨by simp(disch:=omega)only[hA,Ba]<;>omega,rfl⟩,rfl⟩ (by simp(disch:=omega)only[hA,Ba]<;>omega)))
   ·simp(disch:=omega)only[hA,Ba]<;>omega
   ·refine(DN hA hcl rfl hcc rfl _ _).trans ?_
    rw[show A.add Z 1=z.toNat+1 by rw[hA];show Z+1=_;omega,hmr.out];rfl
 ·refine OKs.mv [0] [1] (by rw[hρ];rfl) ⟨by decide,by simp[Bd],fun id hid=>by simp at hid;subst hid;exact⟨_,rfl,hcc⟩⟩ ?_
  refine OKs.up 3 (.isl Z none c) (Up.cap _ _ _) ?_;obtain rfl:Z=k:=by omega
  rw[lT (by omega)]at hc
  rw[<-hc]at kO;unfold o6C fC at *
  with_reducible refine Bf hA hd hQ 200 ?hk ?_
  case hk=>trivial
  conv=>arg 9;cbv
  try simp only[OK]
  repeat' first|((with_reducible refine⟨fun hbr=>?_,fun hbr=>?_⟩)<;>(try simp(disch:=omega)only[hA,Ba]at hbr)<;>(try (with_reducible exfalso;omega)))|((with_reducible refine Be hA hd hQ 200 ?hk ?_);(case hk=>trivial);(conv=>arg 9;cbv);(try simp only[OK]))|((with_reducible refine cO ?hg ?_);(case hg=>with_reducible exact Bi F4_ok);refine tM (k1 _) ?_;rintro _ _ ⟨rfl,rfl⟩)|((with_reducible refine cO ?hg ?_);(case hg=>with_reducible exact Bi F10_ok);refine tM (kO _) ?_;rintro _ _ ⟨rfl,rfl⟩)
  all_goals exact fI_ rfl rfl
theorem Tv(wa wb:List Int)(ha:wa.length<=140737488351232)(hb:wb.length<=140737488351232) :
  Tri Tryz.prog gs 3 [.isl wa.length none (CD wa),.isl wb.length none (CD wb)] [] Kn:=by
 obtain⟨CA,hCA⟩:∃q,q=CD wa:=⟨_,rfl⟩
 obtain⟨CB,hCB⟩:∃q,q=CD wb:=⟨_,rfl⟩
 obtain⟨la,hla⟩:∃q,q=wa.length:=⟨_,rfl⟩
 obtain⟨lb,hlb⟩:∃q,q=wb.length:=⟨_,rfl⟩
 rw[<-hCA,<-hCB,<-hla,<-hlb]
 refine Bk F3_ok fun I0 ρ0 w0 Q hρ hQ=>?_
 obtain⟨A,hA⟩:∃A,A=stdA:=⟨_,rfl⟩
 have hK2:∀K,K=A.imin (A.imin (A.ofn la) (A.ofn lb)) 4096->0<=K/\K<=la/\K<=lb/\K<=4096:=fun K hK=>by
  rw[hK,hA,Nj,Nj,show stdA.ofn la=(la:Int)from rfl,show stdA.ofn lb=(lb:Int)from rfl];split<;>split<;>omega
 obtain⟨k,hk⟩:∃k,k=(A.imin (A.imin (A.ofn la) (A.ofn lb)) 4096).toNat:=⟨_,rfl⟩
 have hk1:k<=la/\k<=lb/\k<=4096:=by have:=hK2 _ rfl;omega
 have hs1:A.slb 0 (A.imin (A.imin (A.ofn la) (A.ofn lb)) 4096) la=true:=by have:=hK2 _ rfl;generalize A.imin (A.imin (A.ofn la) (A.ofn lb)) 4096=K at *;simp(disch:=omega)only[hA,Ba]<;>omega
 have hs2:A.slb 0 (A.imin (A.imin (A.ofn la) (A.ofn lb)) 4096) lb=true:=by have:=hK2 _ rfl;generalize A.imin (A.imin (A.ofn la) (A.ofn lb)) 4096=K at *;simp(disch:=omega)only[hA,Ba]<;>omega
 obtain⟨xs,hxs⟩:∃q,q=C7 k wa:=⟨_,rfl⟩
 obtain⟨ys,hys⟩:∃q,q=C7 k wb:=⟨_,rfl⟩
 have hxl:xs.length=k:=by rw[hxs,Hi (by omega)]
 have hyl:ys.length=k:=by rw[hys,Hi (by omega)]
 have e1:EV.isl (A.sub (A.tn (A.imin (A.imin (A.ofn la) (A.ofn lb)) 4096)) (A.tn 0)) none (A.drp (A.mul (A.tn 0) 1) CA) = .isl k none CA:=by
  rw[show A.tn (A.imin (A.imin (A.ofn la) (A.ofn lb)) 4096)=k by rw[hk];rw[hA];rfl,hA];rfl
 have e2:EV.isl (A.sub (A.tn (A.imin (A.imin (A.ofn la) (A.ofn lb)) 4096)) (A.tn 0)) none (A.drp (A.mul (A.tn 0) 1) CB) = .isl k none CB:=by
  rw[show A.tn (A.imin (A.imin (A.ofn la) (A.ofn lb)) 4096)=k by rw[hk];rw[hA];rfl,hA];rfl
 have k1:=Rf k wa (by omega) (by omega)
 have k2:=Rf k wb (by omega) (by omega)
 rw[<-hCA,<-e1,<-hxs]at k1
 rw[<-hCB,<-e2,<-hys]at k2
 have d1:=fun op (hop:1<=op/\op<=4)=>Tg op hop xs ys (by omega) (by omega) (by rw[hxs];exact Io _ _) (by rw[hys];exact Io _ _)
 have d2:=fun op (hop:1<=op/\op<=4)=>SO op hop xs ys (by omega) (by omega) (by rw[hxs];exact Io _ _) (by rw[hys];exact Io _ _)
 have dq:=fun op=>Vi (B8 op xs ys)
 have dl:∀op,(B8 op xs ys).length=k:=fun op=>by rw[IQ (by omega),hxl]
 simp only[dl]at dq
 rw[hxl,hyl]at d1 d2
 obtain⟨N,hN⟩:∃q:Int,q=k:=⟨_,rfl⟩
 obtain⟨M,hM⟩:∃q,q=8*k:=⟨_,rfl⟩
 have hD:∀B,dC k B=dX N M B:=fun B=>by rw[hN,hM];rfl
 simp only[hD]at k1 k2 d1 d2 dq
 obtain⟨B1,hB1⟩:∃q,q=Bj (Bq xs):=⟨_,rfl⟩
 obtain⟨B2,hB2⟩:∃q,q=Bj (Bq ys):=⟨_,rfl⟩
 obtain⟨RB,hRB⟩:∃q:Int->List EV,q=fun op=>Bj (Bq (B8 op xs ys)):=⟨_,rfl⟩
 have hRB2:∀op,Bj (Bq (B8 op xs ys))=RB op:=fun op=>by rw[hRB]
 rw[<-hB1]at k1 d1 d2
 rw[<-hB2]at k2 d1 d2
 simp only[hRB2]at d1 d2 dq
 have k0:=LR
 have kf:=Uj
 clear hRB hRB2 hB1 hB2 hD dl e1 e2 hK2
 replace d1:=Hid.mk d1
 replace d2:=Hid.mk d2
 unfold fC dX at *
 with_reducible refine Bf hA hd hQ 200 ?hk ?_
 case hk=>trivial
 conv=>arg 9;cbv
 try simp only[OK]
 repeat' first|(with_reducible refine OKK.loop ?_)|((with_reducible refine Be hA hd hQ 200 ?hk ?_);(case hk=>trivial);(conv=>arg 9;cbv);(try simp only[OK]))|((with_reducible refine cO ?hg ?_);(case hg=>with_reducible exact Bi F4_ok);refine tM (k0 _) ?_;rintro _ _ ⟨rfl,rfl⟩)|((with_reducible refine cO ?hg ?_);(case hg=>with_reducible exact Bi F5_ok);refine tM (k1 _) ?_;rintro _ _ ⟨rfl,rfl⟩)|((with_reducible refine cO ?hg ?_);(case hg=>with_reducible exact Bi F5_ok);refine tM (k2 _) ?_;rintro _ _ ⟨rfl,rfl⟩)|(with_reducible refine Bn hs1 ?_)|(with_reducible refine Bn hs2 ?_)
 refine oK_ (msk 68 [6,7,8,9]) ?_
 refine oL_ (fun m st=>∃z:Int,m=((5:Int)-z).toNat/\1<=z/\z<=5/\st=⟨mkT 68 [(6,.ptr 0 0),(7,.ptr 1 0),(8,.ptr 2 0),(9,.lit (.int .i64 z))],[.blk fC,.blk (dX N M B1),.blk (dX N M B2)]⟩)
  (fun m st hs' ih=>?_) ⟨1,rfl,by omega,by omega,rfl⟩
 obtain⟨z,hm,hz0,hz1,rfl⟩:=hs'
 unfold fC dX
 by_cases hz5:z<=4
 ·have d1:=d1.out z (by omega)
  have d2:=d2.out z (by omega)
  have dq:=dq z;generalize RB z=R at *
  with_reducible refine Bf hA hd hQ 200 ?hk ?_
  case hk=>trivial
  conv=>arg 9;cbv
  try simp only[OK]
  repeat' first|((with_reducible refine⟨fun hbr=>?_,fun hbr=>?_⟩)<;>(try simp(disch:=omega)only[hA,Ba]at hbr)<;>(try (with_reducible exfalso;omega)))|((with_reducible refine Be hA hd hQ 200 ?hk ?_);(case hk=>trivial);(conv=>arg 9;cbv);(try simp only[OK]))
  refine cO (Bi F6_ok) (tM (Tri.freeze 5 rfl [3,4] ⟨by decide,by simp[Bd],fun id hid=>by simp at hid;rcases hid with rfl|rfl<;>exact⟨_,rfl,rfl⟩⟩ (Tri.args (d1 _) (UpL.cons (Up.refl _) (UpL.cons (Up.cap _ _ _) (UpL.cons (Up.cap _ _ _) UpL.nil))))) fun v hh hx=>?_)
  obtain⟨hv,hh'⟩:=hx;subst hv;subst hh'
  with_reducible refine Be hA hd hQ 1 ?hk ?_
  case hk=>trivial
  conv=>arg 9;cbv
  try simp only[OK]
  repeat' first|((with_reducible refine Be hA hd hQ 200 ?hk ?_);(case hk=>trivial);(conv=>arg 9;cbv);(try simp only[OK]))
  refine cO (Bi F7_ok) (tM (Tri.freeze 8 rfl [6,7] ⟨by decide,by simp[Bd],fun id hid=>by simp at hid;rcases hid with rfl|rfl<;>exact⟨_,rfl,rfl⟩⟩ (Tri.args (d2 _) (UpL.cons (Up.refl _) (UpL.cons (Up.cap _ _ _) (UpL.cons (Up.cap _ _ _) UpL.nil))))) fun v hh hx=>?_)
  obtain⟨hv,hh'⟩:=hx;subst hv;subst hh'
  with_reducible refine Be hA hd hQ 1 ?hk ?_
  case hk=>trivial
  conv=>arg 9;cbv
  try simp only[OK]
  repeat' first|(with_reducible refine OKK.again ?_)|((with_reducible refine⟨fun hbr=>?_,fun hbr=>?_⟩)<;>(try simp(disch:=omega)only[hA,Ba,reduceCtorEq]at hbr)<;>(try (with_reducible exfalso;omega)))|((with_reducible refine Be hA hd hQ 200 ?hk ?_);(case hk=>trivial);(conv=>arg 9;cbv);(try simp only[OK]))|((with_reducible refine cO ?hg ?_);(case hg=>with_reducible exact Bi F8_ok);(refine tM (dq _) fun v hh hx=>?_);(obtain⟨⟨b,hv,hb⟩,he⟩:=hx;subst hv;subst he;cases b<;>simp(disch:=omega)only[not_true_eq_false,bF,false_iff,eq_self]at hb)<;>(try (with_reducible exfalso;omega)))
  all_goals exact oK_ (msk 68 [6,7,8,9]) (OKs.mv [0,1,2] [] (by rw[hρ];rfl) ⟨by decide,by simp[Bd],by simp⟩ (ih _ _ ⟨A.ib .add .i64 z 1,rfl,by simp(disch:=omega)only[hA,Ba]<;>omega,by simp(disch:=omega)only[hA,Ba]<;>omega,rfl⟩ (by simp(disch:=omega)only[hA,Ba]<;>omega)))
 ·clear d1 d2 dq
  with_reducible refine Bf hA hd hQ 200 ?hk ?_
  case hk=>trivial
  conv=>arg 9;cbv
  try simp only[OK]
  repeat' first|((with_reducible refine⟨fun hbr=>?_,fun hbr=>?_⟩)<;>(try simp(disch:=omega)only[hA,Ba]at hbr)<;>(try (with_reducible exfalso;omega)))|((with_reducible refine Be hA hd hQ 200 ?hk ?_);(case hk=>trivial);(conv=>arg 9;cbv);(try simp only[OK]))|((with_reducible refine cO ?hg ?_);(case hg=>with_reducible exact Bi F9_ok);refine tM (kf _) ?_;rintro _ _ ⟨rfl,rfl⟩)
  all_goals exact fI_ rfl (.inl rfl)
end Go.Proofs.YtkjhfefbklcciaaGreatDoor.Stats
