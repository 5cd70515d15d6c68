/- No conditions. -/
import Derived.Test.YtkjhfefbklcciaaGreatDoorX13
set_option linter.unusedVariables false
set_option linter.unusedSimpArgs false
namespace Go.Proofs.YtkjhfefbklcciaaGreatDoor.Em
open Go
theorem K0:∀(t:List EV) (d e:Nat) (v:EV),d≠e->Bo (Bs t d v) e=Bo t e
 |[],_,_,_,_=>rfl
 |x::t,0,0,v,h=>absurd rfl h
 |x::t,0,e+1,v,h=>rfl
 |x::t,d+1,0,v,h=>rfl
 |x::t,d+1,e+1,v,h=>K0 t d e v (by omega)
theorem Pr:∀(t:List EV) (d:Nat) (v:EV),(Bs t d v).length=t.length
 |[],_,_=>rfl
 |_::t,0,_=>rfl
 |_::t,d+1,v=>by simp[Bs,Pr t d v]
theorem Rh:∀(t:List EV) (d:Nat) (v u:EV),Bs (Bs t d v) d u=Bs t d u
 |[],_,_,_=>rfl
 |_::t,0,_,_=>rfl
 |_::t,d+1,v,u=>by simp[Bs,Rh t d v u]
theorem I6:∀(t:List EV) (d:Nat),Bs t d (Bo t d)=t
 |[],_=>rfl
 |_::t,0=>rfl
 |_::t,d+1=>by simp[Bs,Bo,I6 t d]
theorem Ph:∀(t:List EV) (d e:Nat) (v u:EV),d≠e->Bs (Bs t d v) e u=Bs (Bs t e u) d v
 |[],_,_,_,_,_=>rfl
 |_::t,0,0,_,_,h=>absurd rfl h
 |_::t,0,e+1,_,_,_=>rfl
 |_::t,d+1,0,_,_,_=>rfl
 |_::t,d+1,e+1,v,u,h=>by simp[Bs,Ph t d e v u (by omega)]
def toB:EV->EV
 | .sb b=>.lit (.bool b)
 |x=>x
def TE(t t':List EV):Prop:=t.map toB=t'.map toB
theorem TE.refl(t:List EV):TE t t:=rfl
theorem TE.symm{t t':List EV}(h:TE t t'):TE t' t:=Eq.symm h
theorem TE.trans{a b c:List EV}(h:TE a b)(k:TE b c):TE a c:=Eq.trans h k
theorem TE.length{t t':List EV}(h:TE t t'):t.length=t'.length:=by simpa using congrArg List.length h
theorem G8:∀(t:List EV) (d:Nat) (v:EV),(Bs t d v).map toB=Bs (t.map toB) d (toB v)
 |[],_,_=>rfl
 |_::t,0,_=>rfl
 |_::t,d+1,v=>by simp[Bs,G8 t d v]
theorem It:∀(t:List EV) (d:Nat),toB (Bo t d)=Bo (t.map toB) d
 |[],_=>rfl
 |_::t,0=>rfl
 |_::t,d+1=>by simp[Bo,It t d]
theorem TE.get{t t':List EV}(h:TE t t')(d:Nat):toB (Bo t d)=toB (Bo t' d):=by rw[It,It,h]
theorem TE.set{t t':List EV}(h:TE t t')(d:Nat){v v':EV}(hv:toB v=toB v'):TE (Bs t d v) (Bs t' d v'):=by
 unfold TE;rw[G8,G8,h,hv]
theorem JE:∀(t:List EV) (d:Nat) (v:EV),t.length<=d->Bs t d v=t
 |[],_,_,_=>rfl
 |_::t,0,v,h=>by simp at h
 |_::t,d+1,v,h=>by simp[Bs,JE t d v (by simpa using h)]
def VE(n:Nat)(dst:Option Nat)(v u:EV):Prop:=∀d,dst=some d->d<n->toB v=toB u
theorem TE.put{t t':List EV}(h:TE t t'){dst:Option Nat}{v u:EV}(hv:VE t.length dst v u):TE (Bl t dst v) (Bl t' dst u):=by
 cases dst with
 |none=>exact h
 |some d=>
  by_cases hd:d<t.length
  ·exact h.set d (hv d rfl hd)
  ·simp only[Bl]
   rw[JE t d v (by omega),JE t' d u (by have:=h.length;omega)]
   exact h
theorem VE.refl(n:Nat)(dst:Option Nat)(v:EV):VE n dst v v:=fun _ _ _=>rfl
theorem HB(t:List EV)(dst:Option Nat)(v:EV):(Bl t dst v).length=t.length:=by
 cases dst with
 |none=>rfl
 |some d=>exact Pr t d v
theorem toB_rep{w:World}{I:Imm}{ρ:Ren}{e:EV}{v:Value}:Rep w I ρ (toB e) v↔Rep w I ρ e v:=by
 cases e with
 |sb b=>exact⟨fun h=>by cases h;exact .sb _ _,fun h=>by cases h;exact .lit _ _⟩
 |_=>exact Iff.rfl
theorem RepL.bool{w:World}{I:Imm}{ρ:Ren}:∀{t t':List EV} {us:List Value},TE t t'->RepL w I ρ t us->RepL w I ρ t' us
 |[],[],us,_,h=>h
 |[],_::_,_,h,_=>by simp[TE]at h
 |_::_,[],_,h,_=>by simp[TE]at h
 |x::t,y::t',[],_,h=>h.elim
 |x::t,y::t',u::us,hte,h=>by
  simp only[TE,List.map_cons,List.cons.injEq]at hte;exact⟨toB_rep.1 (hte.1▸toB_rep.2 h.1),RepL.bool hte.2 h.2⟩
theorem SimX.bool{P:Program}{G:List (List EV)}{I0:Imm}{ρ0:Ren}{w0:World}{t t':List EV}{h:EH}{a:Act}{w:World}(hs:SimX P G I0 ρ0 w0 ⟨t,h⟩ a w)(e:TE t t') :
  SimX P G I0 ρ0 w0 ⟨t',h⟩ a w:=by
 obtain⟨I,ρ1,h1,h2,h3,h4,h5,h6,h7⟩:=hs
 exact⟨I,ρ1,h1,h2,h3,h4.bool e,h5,h6,h7⟩
section
variable {G:List (List EV)} {A:Ar}
theorem Ul{t t':List EV}{x:Operand}(h:∀d,x = .tmp d->Bo t d=Bo t' d):Bm G t x=Bm G t' x:=by
 cases x with
 |tmp d=>exact h d rfl
 |_=>rfl
theorem EF{t t':List EV}:∀{l:List Operand},(∀x∈l,Bm G t x=Bm G t' x)->BX G t l=BX G t' l
 |[],_=>rfl
 |x::l,h=>by simp[BX,h x (by simp),EF (l:=l) fun y hy=>h y (by simp[hy])]
theorem Jn{t t':List EV}:∀{l:List (Nat×Nat×Operand)} {cs:List EV},(∀x∈l.map (fun p=>p.2.2),Bm G t x=Bm G t' x)->Cx G t cs l=Cx G t' cs l
 |[],_,_=>rfl
 |(o,n,x)::l,cs,h=>by
  have ih:=fun cs=>Jn (t:=t) (t':=t') (l:=l) (cs:=cs) fun y hy=>h y (by simp at hy ⊢;exact .inr hy)
  simp[Cx,h x (by simp),ih]
theorem NS{t t':List EV}{h:EH}{i:EI}(hx:∀x∈Hf i,Bm G t x=Bm G t' x):Bp A G t h i=Bp A G t' h i:=by
 cases i<;>simp only[Hf]at hx<;>simp only[Bp]
 case build z ps=>rw[Jn hx]
 case buildSlice es n z ps=>rw[Jn hx]
 case mkFunc f a b=>rw[EF fun x m=>hx x (by simp[m]),EF (l:=b) fun x m=>hx x (by simp[m])]
 case slice es x lo hi mx=>cases lo<;>cases hi<;>cases mx<;>simp_all [Ci]
 case sliceStr x lo hi=>cases lo<;>cases hi<;>simp_all [Ci]
 case call f args=>rw[EF hx]
 case callv x args=>rw[hx x (by simp),EF fun y m=>hx y (by simp[m])]
 case invoke x _ c args=>rw[hx x (by simp),EF fun y m=>hx y (by simp[m])]
 case minmax m x l=>rw[hx x (by simp),EF fun y m=>hx y (by simp[m])]
 case again d agg n x=>
  have h1:=hx (.tmp d) (by simp)
  simp only[Bm]at h1;rw[h1,hx x (by simp)]
 all_goals (first|rfl|(simp_all;done))
def SR.onto(h:EH):SR->SR
 | .stuck=>.stuck
 | .ret v _=>.ret v h
 | .need b r=>.need b (r.onto h)
 | .look c off n agg _=>.look c off n agg h
 | .br b v1 _ v2 _=>.br b v1 h v2 h
 | .opt o ok z _=>.opt o ok z h
 | .call _ _=>.stuck
 | .same v w _=>.same v w h
 | .lookS c off n agg w _=>.lookS c off n agg w h
theorem Th {t : List EV} {h : EH} {i : EI} (hx : isX i = false) : (Bp A G t h i).onto h = Bp A G t h i := by
  cases i <;> simp only [isX, Bool.true_eq_false] at hx <;> simp only [Bp]
  all_goals first
    | rfl
    | (try simp only [E5, CS, DW, DY, Hv, unE, DT, Eu, E0, DQ, D7, Eb, DK, En, D4, Er, Ej, DO, DX, EL, D2, Dq, Ei, EG, EY]
       repeat' split
       all_goals rfl)
theorem Se {t : List EV} {h h' : EH} {i : EI} (hx : isX i = false) (hr : CM i = false) :
    Bp A G t h' i = (Bp A G t h i).onto h' := by
  cases i <;> simp only [isX, CM, Bool.true_eq_false] at hx hr <;> simp only [Bp]
  case len k x =>
    rcases k with _ | _ | k
    · simp only [Dq]; split <;> rfl
    · simp only [Dq]; split <;> rfl
    · simp at hr
  all_goals first
    | rfl
    | (try simp only [E5, DW, DY, Hv, unE, DT, Eu, DQ, D7, Eb, DK, En, D4, Er, Ej, DO, DX, D2, Dq, Ei, EY]
       repeat' split
       all_goals first | rfl | contradiction | simp_all)
end
end Go.Proofs.YtkjhfefbklcciaaGreatDoor.Em
