/- No conditions. -/
import Derived.Test.YtehgpabfgjofhaaGreatDoorX13
set_option linter.unusedVariables false
set_option linter.unusedSimpArgs false
namespace Go.Proofs.YtehgpabfgjofhaaGreatDoor.Em
open Go
theorem R2:∀(t:List EV) (d e:Nat) (v:EV),d≠e->BC (BN t d v) e=BC t e
 |[],_,_,_,_=>rfl
 |x::t,0,0,v,h=>absurd rfl h
 |x::t,0,e+1,v,h=>rfl
 |x::t,d+1,0,v,h=>rfl
 |x::t,d+1,e+1,v,h=>R2 t d e v (by omega)
theorem VA:∀(t:List EV) (d:Nat) (v:EV),(BN t d v).length=t.length
 |[],_,_=>rfl
 |_::t,0,_=>rfl
 |_::t,d+1,v=>by simp[BN,VA t d v]
theorem UQ:∀(t:List EV) (d:Nat) (v u:EV),BN (BN t d v) d u=BN t d u
 |[],_,_,_=>rfl
 |_::t,0,_,_=>rfl
 |_::t,d+1,v,u=>by simp[BN,UQ t d v u]
theorem LR:∀(t:List EV) (d:Nat),BN t d (BC t d)=t
 |[],_=>rfl
 |_::t,0=>rfl
 |_::t,d+1=>by simp[BN,BC,LR t d]
theorem SK:∀(t:List EV) (d e:Nat) (v u:EV),d≠e->BN (BN t d v) e u=BN (BN t e u) d v
 |[],_,_,_,_,_=>rfl
 |_::t,0,0,_,_,h=>absurd rfl h
 |_::t,0,e+1,_,_,_=>rfl
 |_::t,d+1,0,_,_,_=>rfl
 |_::t,d+1,e+1,v,u,h=>by simp[BN,SK t d e v u (by omega)]
def toB:EV->EV
 | .sb b=>.lit (.bool b)
 |x=>x
def TE(t t':List EV):Prop:=t.map toB=t'.map toB
theorem TE.refl(t:List EV):TE t t:=rfl
theorem TE.symm{t t':List EV}(h:TE t t'):TE t' t:=Eq.symm h
theorem TE.trans{a b c:List EV}(h:TE a b)(k:TE b c):TE a c:=Eq.trans h k
theorem TE.length{t t':List EV}(h:TE t t'):t.length=t'.length:=by simpa using congrArg List.length h
theorem Ko:∀(t:List EV) (d:Nat) (v:EV),(BN t d v).map toB=BN (t.map toB) d (toB v)
 |[],_,_=>rfl
 |_::t,0,_=>rfl
 |_::t,d+1,v=>by simp[BN,Ko t d v]
theorem Kt:∀(t:List EV) (d:Nat),toB (BC t d)=BC (t.map toB) d
 |[],_=>rfl
 |_::t,0=>rfl
 |_::t,d+1=>by simp[BC,Kt t d]
theorem TE.get{t t':List EV}(h:TE t t')(d:Nat):toB (BC t d)=toB (BC t' d):=by rw[Kt,Kt,h]
theorem TE.set{t t':List EV}(h:TE t t')(d:Nat){v v':EV}(hv:toB v=toB v'):TE (BN t d v) (BN t' d v'):=by
 unfold TE;rw[Ko,Ko,h,hv]
theorem PG:∀(t:List EV) (d:Nat) (v:EV),t.length<=d->BN t d v=t
 |[],_,_,_=>rfl
 |_::t,0,v,h=>by simp at h
 |_::t,d+1,v,h=>by simp[BN,PG t d v (by simpa using h)]
def VE(n:Nat)(dst:Option Nat)(v u:EV):Prop:=∀d,dst=some d->d<n->toB v=toB u
theorem TE.put{t t':List EV}(h:TE t t'){dst:Option Nat}{v u:EV}(hv:VE t.length dst v u):TE (Bq t dst v) (Bq t' dst u):=by
 cases dst with
 |none=>exact h
 |some d=>
  by_cases hd:d<t.length
  ·exact h.set d (hv d rfl hd)
  ·simp only[Bq]
   rw[PG t d v (by omega),PG t' d u (by have:=h.length;omega)]
   exact h
theorem VE.refl(n:Nat)(dst:Option Nat)(v:EV):VE n dst v v:=fun _ _ _=>rfl
theorem J8(t:List EV)(dst:Option Nat)(v:EV):(Bq t dst v).length=t.length:=by
 cases dst with
 |none=>rfl
 |some d=>exact VA t d v
theorem toB_rep{w:World}{I:Imm}{ρ:Ren}{e:EV}{v:Value}:Rep w I ρ (toB e) v↔Rep w I ρ e v:=by
 cases e with
 |sb b=>exact⟨fun h=>by cases h;exact .sb _ _,fun h=>by cases h;exact .lit _ _⟩
 |_=>exact Iff.rfl
theorem RepL.bool{w:World}{I:Imm}{ρ:Ren}:∀{t t':List EV} {us:List Value},TE t t'->RepL w I ρ t us->RepL w I ρ t' us
 |[],[],us,_,h=>h
 |[],_::_,_,h,_=>by simp[TE]at h
 |_::_,[],_,h,_=>by simp[TE]at h
 |x::t,y::t',[],_,h=>h.elim
 |x::t,y::t',u::us,hte,h=>by
  simp only[TE,List.map_cons,List.cons.injEq]at hte;exact⟨toB_rep.1 (hte.1▸toB_rep.2 h.1),RepL.bool hte.2 h.2⟩
theorem SimX.bool{P:Program}{G:List (List EV)}{I0:Imm}{ρ0:Ren}{w0:World}{t t':List EV}{h:EH}{a:Act}{w:World}(hs:SimX P G I0 ρ0 w0 ⟨t,h⟩ a w)(e:TE t t') :
  SimX P G I0 ρ0 w0 ⟨t',h⟩ a w:=by
 obtain⟨I,ρ1,h1,h2,h3,h4,h5,h6,h7⟩:=hs
 exact⟨I,ρ1,h1,h2,h3,h4.bool e,h5,h6,h7⟩
section
variable {G:List (List EV)} {A:Ar}
theorem zB6{t t':List EV}{x:Operand}(h:∀d,x = .tmp d->BC t d=BC t' d):Bu G t x=Bu G t' x:=by
 cases x with
 |tmp d=>exact h d rfl
 |_=>rfl
theorem H7{t t':List EV}:∀{l:List Operand},(∀x∈l,Bu G t x=Bu G t' x)->CL G t l=CL G t' l
 |[],_=>rfl
 |x::l,h=>by simp[CL,h x (by simp),H7 (l:=l) fun y hy=>h y (by simp[hy])]
theorem NC{t t':List EV}:∀{l:List (Nat×Nat×Operand)} {cs:List EV},(∀x∈l.map (fun p=>p.2.2),Bu G t x=Bu G t' x)->Dw G t cs l=Dw G t' cs l
 |[],_,_=>rfl
 |(o,n,x)::l,cs,h=>by
  have ih:=fun cs=>NC (t:=t) (t':=t') (l:=l) (cs:=cs) fun y hy=>h y (by simp at hy ⊢;exact .inr hy)
  simp[Dw,h x (by simp),ih]
theorem V6{t t':List EV}{h:EH}{i:EI}(hx:∀x∈JA i,Bu G t x=Bu G t' x):BD A G t h i=BD A G t' h i:=by
 cases i<;>simp only[JA]at hx<;>simp only[BD]
 case build z ps=>rw[NC hx]
 case buildSlice es n z ps=>rw[NC hx]
 case mkFunc f a b=>rw[H7 fun x m=>hx x (by simp[m]),H7 (l:=b) fun x m=>hx x (by simp[m])]
 case slice es x lo hi mx=>cases lo<;>cases hi<;>cases mx<;>simp_all [Dd]
 case sliceStr x lo hi=>cases lo<;>cases hi<;>simp_all [Dd]
 case call f args=>rw[H7 hx]
 case callv x args=>rw[hx x (by simp),H7 fun y m=>hx y (by simp[m])]
 case invoke x _ c args=>rw[hx x (by simp),H7 fun y m=>hx y (by simp[m])]
 case minmax m x l=>rw[hx x (by simp),H7 fun y m=>hx y (by simp[m])]
 case again d agg n x=>
  have h1:=hx (.tmp d) (by simp)
  simp only[Bu]at h1;rw[h1,hx x (by simp)]
 all_goals (first|rfl|(simp_all;done))
def SR.onto(h:EH):SR->SR
 | .stuck=>.stuck
 | .ret v _=>.ret v h
 | .need b r=>.need b (r.onto h)
 | .look c off n agg _=>.look c off n agg h
 | .br b v1 _ v2 _=>.br b v1 h v2 h
 | .opt o ok z _=>.opt o ok z h
 | .call _ _=>.stuck
 | .same v w _=>.same v w h
 | .lookS c off n agg w _=>.lookS c off n agg w h
theorem Y0 {t : List EV} {h : EH} {i : EI} (hx : isX i = false) : (BD A G t h i).onto h = BD A G t h i := by
  cases i <;> simp only [isX, Bool.true_eq_false] at hx <;> simp only [BD]
  all_goals first
    | rfl
    | (try simp only [H6, D3, GB, Hh, Kg, unE, GI, HM, HF, Hw, GO, Hf, Hk, GE, GK, GJ, Hc, GQ, GL, HT, Hj, E7, Hg, HS, HX]
       repeat' split
       all_goals rfl)
theorem zCB {t : List EV} {h h' : EH} {i : EI} (hx : isX i = false) (hr : DR i = false) :
    BD A G t h' i = (BD A G t h i).onto h' := by
  cases i <;> simp only [isX, DR, Bool.true_eq_false] at hx hr <;> simp only [BD]
  case len k x =>
    rcases k with _ | _ | k
    · simp only [E7]; split <;> rfl
    · simp only [E7]; split <;> rfl
    · simp at hr
  all_goals first
    | rfl
    | (try simp only [H6, GB, Hh, Kg, unE, GI, HM, GO, Hf, Hk, GE, GK, GJ, Hc, GQ, GL, Hj, Hg, HX]
       repeat' split
       all_goals first | rfl | contradiction | simp_all)
end
end Go.Proofs.YtehgpabfgjofhaaGreatDoor.Em
