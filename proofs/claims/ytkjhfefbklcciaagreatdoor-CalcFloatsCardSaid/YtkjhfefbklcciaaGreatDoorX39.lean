/- No conditions. -/
import Derived.Test.YtkjhfefbklcciaaGreatDoorX38
set_option linter.unusedVariables false
set_option linter.unusedSimpArgs false
namespace Go.Proofs.YtkjhfefbklcciaaGreatDoor.Em
open Go
section
variable {P:Program} {G:List (List EV)} {ro:Option Nat} {I0:Imm} {ρ0:Ren} {w0:World} {Q:Exit->Act->World->Prop}
theorem OKK.nilS{s:St}(h:OKs P G ro I0 ρ0 w0 Q [] s):OKK P G ro I0 ρ0 w0 Q [] s:=h
theorem OKK.rfS{x:Operand}{ps:List Nat}{a b:EC}{k:List KI}{s:St}(h:OKs P G ro I0 ρ0 w0 Q (.c (.rf x ps a b)::k) s):OKK P G ro I0 ρ0 w0 Q (.c (.rf x ps a b)::k) s:=h
theorem EndsQ.no:EndsQ P G I0 ρ0 w0 Q (fun _=>False):=fun _ h=>h.elim
end
section
variable {P:Program} {G:List (List EV)}
theorem Nd{id:Nat}{as:List EV}{h:EH}{t0 t1:List EV}{ps ps1:List Nat}{asg body a1 b1:EC}{pd pd1 how:PD}{s1:St}{S2:St->Prop}(hg:Bh h id = .lp t0 ps asg body 0 pd)(hl:as.length=ps.length)
  (h1:∀(ro:Option Nat) (I0:Imm) (ρ0:Ren) (w0:World) (Q:Exit->Act->World->Prop),ρ0.length=Bd h->ro.isSome=true->(∀a w,SimX P G I0 ρ0 w0 s1 a w->Q .normal a w)->OKs P G ro I0 ρ0 w0 Q [.c asg] ⟨Cw t0 ps as,h⟩)
  (hg1:Bh s1.h id = .lp t1 ps1 a1 b1 0 pd1)
  (h2:∀(ro:Option Nat) (I0:Imm) (ρ0:Ren) (w0:World) (Q:Exit->Act->World->Prop),ρ0.length=Bd h->ro.isSome=true->(∀s2,S2 s2->∀a w,SimX P G I0 ρ0 w0 s2 a w->QX how Q a w)->OKs P G ro I0 ρ0 w0 Q [.c body] ⟨s1.t,Br s1.h id (.lp t1 ps1 a1 b1 1 pd1)⟩)
  (hg2:∀s2,S2 s2->∃t2 ps2 a2 b2 st2 pd2,Bh s2.h id = .lp t2 ps2 a2 b2 st2 pd2) :
  TriY P G id as h fun v h'=>v = .lit (.bool how.isNone)/\∃s2 t2 ps2 a2 b2 st2 pd2,S2 s2/\Bh s2.h id = .lp t2 ps2 a2 b2 st2 pd2/\h'=Br s2.h id (.lp t2 ps2 a2 b2 (if how.isNone then 0 else 2) how):=by
 refine⟨⟨_,_,_,_,_,_,hg⟩,fun I ρ w cargs hI hs ha hgl ro l r hρ hr=>?_⟩
 have hlive:=hs.live id
 rw[hg]at hlive
 obtain⟨b,r0,k1,k2,k3,k4,k5,k6,k7,k8⟩:=hlive
 rw[hρ]at k1;cases k1
 rw[hr]at k3;cases k3
 rw[hgl.2]at k6 k7
 have hsz:cargs.size=r.params.size:=by
  have e1:as.length=cargs.size:=by simpa using ha.length
  have e2:r.params.size=ps.length:=by rw[<-k5];simp
  omega
 refine⟨hsz,roundIn_of_wpIn trivial ?_⟩
 have hsim0:SimX P G I.bare ρ w ⟨Cw t0 ps as,h⟩ { tmps:=(r.params.zip cargs).foldl (fun tmps (t,a)=>tmps.setIfInBounds t a) r.tmps,defers:=[] } w:=by
  refine⟨I,[],Imm.le.bare I,hI,by simpa using hs,?_,⟨[],rfl,trivial⟩,Keep.refl I.bare w,hgl⟩
  have:((r.params.zip cargs).foldl (fun tmps (t,a)=>tmps.setIfInBounds t a) r.tmps).toList=(ps.zip cargs.toList).foldl (fun us (p:Nat×Value)=>us.set p.1 p.2) r.tmps.toList:=by
   rw[<-Array.foldl_toList,KK,Array.toList_zip,k5]
  simp only[List.append_nil];rw[this];exact JS ha k4
 refine h1 (some l) I.bare ρ w _ hs.len rfl (fun a₁ w₁ hs1=>?_) _ (KW.c k6 KW.nil) _ w hsim0
 obtain⟨I1,ρ1,q1,q2,q3,q4,q5,q6,q7⟩:=hs1
 have hl1:=q3.live id
 rw[hg1]at hl1
 obtain⟨b,r1,m1,m2,m3,m4,m5,m6,m7,m8⟩:=hl1
 rw[getElem?_app hρ]at m1;cases m1
 obtain⟨m9,m10⟩:=m8
 refine⟨_,run_beginRound m3 m9,?_⟩
 obtain⟨hk1,hw1⟩:=H8 (r':={ r1 with state:=.busy }) (st':=1) (pd':=pd1) q3 hg1 (getElem?_app hρ) m3 rfl rfl rfl rfl ⟨rfl,m10⟩
 have hsim1:SimX P G I.bare ρ w ⟨s1.t,Br s1.h id (.lp t1 ps1 a1 b1 1 pd1)⟩ a₁ (w₁.putObj l (.loop { r1 with state:=.busy })):=
  ⟨I1,ρ1,q1,fun b hb=>by simpa using q2 b hb,hw1,q4.map fun _ _ x=>x.keep hk1,q5.keep hk1 (Imm.le.refl I1),q6.trans (hk1.mono q1.k),q7.keep hk1 (Imm.le.refl I1)⟩
 refine h2 (some l) I.bare ρ w _ hs.len rfl (fun s2 hS2 a₂ w₂ hs2=>?_) _ (KW.c k7 KW.nil) _ _ hsim1
 obtain⟨I2,ρ2,p1,p2,p3,p4,p5,p6,p7⟩:=hs2
 have hl2:=p3.live id
 obtain⟨t2,ps2,a2,b2,st2,pd2,hg2⟩:=hg2 s2 hS2
 rw[hg2]at hl2
 obtain⟨b,r2,n1,n2,n3,n4,n5,n6,n7,n8⟩:=hl2
 rw[getElem?_app hρ]at n1;cases n1
 have fin:∀(jump:Option Code),jump=how.map (fun|none=>Code.ret|some id=>Code.exit id)->∃v w',(Instr.endRound l jump).run P w₂ = .ok v w'/\
   ∃v' cv h' I' ρ1,Ending.returned v = .returned cv/\(v' = .lit (.bool how.isNone)/\∃s2 t2 ps2 a2 b2 st2 pd2,S2 s2/\Bh s2.h id = .lp t2 ps2 a2 b2 st2 pd2/\h'=Br s2.h id (.lp t2 ps2 a2 b2 (if how.isNone then 0 else 2) how))/\Imm.le I I'/\(∀b,I' b->b<w'.heap.size)/\HSim I' w' (ρ++ρ1) h'/\Rep w' I' (ρ++ρ1) v' cv/\Keep I w w':=by
  intro jump hj;have hjn:jump.isNone=how.isNone:=by rw[hj];cases how<;>rfl
  obtain⟨hk2,hw2⟩:=H8 (r':={ r2 with state:=if jump.isNone then .ready else .done,pending:=jump }) (st':=if how.isNone then 0 else 2) (pd':=how) p3 hg2 (getElem?_app hρ) n3 rfl rfl rfl rfl ⟨by
   rw[hjn];cases how<;>rfl,hj⟩
  exact⟨_,_,run_endRound jump n3,.lit (.bool how.isNone),.bool how.isNone,_,I2,ρ2,by rw[hjn],⟨rfl,s2,t2,ps2,a2,b2,st2,pd2,hS2,hg2,rfl⟩,p1.unbare,fun b hb=>by simpa using p2 b hb,hw2,.lit _ _,p6.unbare.trans (hk2.mono p1.k)⟩
 cases how with
 |none=>exact fin none rfl
 |some o=>cases o with
  |none=>exact fin (some .ret) rfl
  |some e=>exact fin (some (.exit e)) rfl
end
end Go.Proofs.YtkjhfefbklcciaaGreatDoor.Em
