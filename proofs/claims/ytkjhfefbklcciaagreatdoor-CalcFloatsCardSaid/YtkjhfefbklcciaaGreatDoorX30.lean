/- No conditions. -/
import Derived.Test.YtkjhfefbklcciaaGreatDoorX29
set_option linter.unusedVariables false
set_option linter.unusedSimpArgs false
namespace Go.Proofs.YtkjhfefbklcciaaGreatDoor.Em
open Go
inductive Eff where
 |no
 |set (id:Nat) (o:EO)
 |push (o:EO)
 |both (id:Nat) (o1 o2:EO)
def Eff.app(h:EH):Eff->EH
 | .no=>h
 | .set id o=>Br h id o
 | .push o=>Bx h o
 | .both id o1 o2=>Bx (Br h id o1) o2
inductive XE where
 |stuck
 |ret (v:EV) (e:Eff)
 |need (b:Bool) (r:XE)
 |br (b:Bool) (v1:EV) (e1:Eff) (v2:EV) (e2:Eff)
 |opt (o:Option EV) (ok:Bool) (z:EV)
 |same (v w:EV)
 |lookS (c:List EV) (off n:Nat) (agg:Bool) (w:EV)
def XE.to(h:EH):XE->SR
 | .stuck=>.stuck
 | .ret v e=>.ret v (e.app h)
 | .need b r=>.need b (r.to h)
 | .br b v1 e1 v2 e2=>.br b v1 (e1.app h) v2 (e2.app h)
 | .opt o ok z=>.opt o ok z h
 | .same v w=>.same v w h
 | .lookS c off n agg w=>.lookS c off n agg w h
section
variable (A:Ar)
def GJ(es:Nat)(g:Nat->EO):EV->Option (Nat×List EV)
 | .lit (.slice none 0 0)=>some (0,[])
 | .isl n _ c=>some (n,A.tak (A.mul n es) c)
 | .sl es' id off n _=>if es'=es then match g id with
  | .blk c=>some (n,A.tak (A.mul n es) (A.drp off c))
  |_=>none else none
 | .lit (.string s)=>if es=1 then some (A.bsz s,A.enc s)else none
 |_=>none
theorem RP(es:Nat)(h:EH)(y:EV):Dv A es h y=GJ A es (Bh h) y:=by unfold Dv GJ;rfl
def Kx(es bytes:Nat)(x y:EV)(g:Nat->EO)(s:Nat):XE:=
 match GJ A es g y with
 |none=>.stuck
 |some (n,ys)=>
  .need (A.le (A.mul n es) (A.len ys))
  (match x with
  | .lit (.slice none 0 0)=>
   .need (A.room n bytes) (.br (A.isz n) (.lit (.slice none 0 0)) .no (.sl es s 0 n none) (.push (.blk ys)))
  | .sl es' id off len cap=>
   if es'=es then
    match g id,cap with
    | .blk c,none=>
     .need (A.le (A.add off (A.mul len es)) (A.len c)) (.need (A.room (A.add len n) bytes)
      (.ret (.sl es s 0 (A.add len n) none) (.both id .dead (.blk (A.app (A.tak (A.mul len es) (A.drp off c)) ys)))))
    | .blk c,some k=>
     .need (A.le (A.add off (A.mul k es)) (A.len c)) (.need (A.le len k) (.need (A.room (A.add len n) bytes)
      (.br (A.le (A.add len n) k)
       (.sl es id off (A.add len n) (some k)) (.set id (.blk (A.setl c (A.add off (A.mul len es)) ys)))
       (.sl es s 0 (A.add len n) none) (.push (.blk (A.app (A.tak (A.mul len es) (A.drp off c)) ys))))))
    |_,_=>.stuck
   else .stuck
  | .isl len (some k) c=>
   .need (A.le (A.mul len es) (A.len c)) (.need (A.room (A.add len n) bytes) (.need (A.bnot (A.le (A.add len n) k))
    (.ret (.sl es s 0 (A.add len n) none) (.push (.blk (A.app (A.tak (A.mul len es) c) ys))))))
  |_=>.stuck)
theorem Wm(es bytes:Nat)(x y:EV)(h:EH):Hq A es bytes x y h=(Kx A es bytes x y (Bh h) (Bd h)).to h:=by
 unfold Hq Kx
 rw[RP]
 cases GJ A es (Bh h) y with
 |none=>rfl
 |some p=>
  obtain⟨n,ys⟩:=p;simp only[XE.to];congr 1;cases x with
  |lit v=>
   cases v with
   |slice a n k=>cases a<;>cases n<;>cases k<;>rfl
   |_=>rfl
  |isl len cap c=>cases cap<;>rfl
  |sl es' id off len cap=>
   simp only
   by_cases he:es'=es
   ·simp only[he,if_true]
    cases Bh h id<;>cases cap<;>rfl
   ·simp only[he,if_false];rfl
  |_=>rfl
def J9(n:Nat)(x v:EV)(g:Nat->EO):XE:=
 if Dt (BH v)==n then if Ce (BH v)then
  match x with
  | .ptr id off=>match g id with
   | .blk c=>match wrt c off (BH v)with
    |some c'=>.ret Bt (.set id (.blk c'))
    |none=>.stuck
   |_=>.stuck
  | .eptr id off=>match g id with
   | .blk c=>.need (A.le (A.add off n) (A.len c)) (.ret Bt (.set id (.blk (A.setl c off (BH v)))))
   |_=>.stuck
  |_=>.stuck
 else .stuck else .stuck
theorem Yt(n:Nat)(x v:EV)(h:EH):Dm A n x v h=(J9 A n x v (Bh h)).to h:=by
 unfold Dm J9
 repeat' split
 all_goals first|rfl|simp_all [XE.to,Eff.app]
def Ki(x:EV)(g:Nat->EO):XE:=
 match x with
 | .lit (.slice none 0 0)=>.ret (.lit (.string ByteArray.empty)) .no
 | .isl n _ c=>.need (A.byt n c) (.ret (.lit (.string (A.dec (A.tak n c)))) .no)
 | .sl es id off n _=>if es=1 then match g id with
  | .blk c=>.need (A.byt n (A.drp off c)) (.ret (.lit (.string (A.dec (A.tak n (A.drp off c))))) .no)
  |_=>.stuck else .stuck
 |_=>.stuck
theorem U2(x:EV)(h:EH):E0 A x h=(Ki A x (Bh h)).to h:=by
 unfold E0 Ki
 cases x with
 |lit v=>
  cases v with
  |slice a n k=>cases a<;>cases n<;>cases k<;>rfl
  |_=>rfl
 |sl es id off n cap=>
  simp only
  by_cases he:es=1
  ·simp only[he,if_true]
   cases Bh h id<;>rfl
  ·simp only[he,if_false];rfl
 |_=>rfl
def KV(x:EV)(g:Nat->EO):XE:=
 match x with
 | .sl es id off n cap=>match g id with
  | .blk _=>.need (A.bnot (A.isz n)) (.ret (.sl es id off n cap) .no)
  |_=>.stuck
 |_=>.stuck
theorem Yb(x:EV)(h:EH):DQ A x h=(KV A x (Bh h)).to h:=by
 unfold DQ KV
 cases x with
 |sl es id off n cap=>simp only;cases Bh h id<;>rfl
 |_=>rfl
def J6(ks:Nat)(z:List Value)(isA ok:Bool)(x k:EV)(g:Nat->EO):XE:=
 match x with
 | .mp id=>match g id with
  | .emap es=>.need (A.keyed ks es k) (.opt (A.find es k) ok (zvE z isA))
  |_=>.stuck
 | .lit (.map none)=>.need (A.keyed ks [] k) (.ret (if ok then .tup [zvE z isA,.lit (.bool false)]else zvE z isA) .no)
 |_=>.stuck
theorem Su(ks:Nat)(z:List Value)(isA ok:Bool)(x k:EV)(h:EH):EL A ks z isA ok x k h=(J6 A ks z isA ok x k (Bh h)).to h:=by
 unfold EL J6
 split<;>(try split)<;>first|rfl|simp_all [XE.to,Eff.app]
def J2(ks:Nat)(x k v:EV)(g:Nat->EO):XE:=
 match x with
 | .mp id=>match g id with
  | .emap es=>.need (A.keyed ks es k) (.ret Bt (.set id (.emap (A.mset es k v))))
  |_=>.stuck
 |_=>.stuck
theorem VQ(ks:Nat)(x k v:EV)(h:EH):Hz A ks x k v h=(J2 A ks x k v (Bh h)).to h:=by
 unfold Hz J2
 repeat' split
 all_goals first|rfl|simp_all [XE.to,Eff.app]
def J3(k:Nat)(x:EV)(g:Nat->EO):XE:=
 match k with
 |0=>match x with
  | .lit (.string s)=>.ret (.lit (.int .i64 (A.ofn (A.bsz s)))) .no
  |_=>.stuck
 |1=>match x with
  | .lit (.slice none 0 0)=>.ret (.lit (.int .i64 0)) .no
  | .sl _ _ _ n _=>.ret (.lit (.int .i64 (A.ofn n))) .no
  | .isl n _ _=>.ret (.lit (.int .i64 (A.ofn n))) .no
  |_=>.stuck
 |_=>match x with
  | .lit (.map none)=>.ret (.lit (.int .i64 0)) .no
  | .mp id=>match g id with
   | .emap es=>.ret (.lit (.int .i64 (A.ofn (A.mlen es)))) .no
   |_=>.stuck
  |_=>.stuck
theorem Yd(k:Nat)(x:EV)(h:EH):Dq A k x h=(J3 A k x (Bh h)).to h:=by
 unfold Dq J3
 split
 ·split<;>first|rfl|simp_all [XE.to,Eff.app]
 ·split<;>first|rfl|simp_all [XE.to,Eff.app]
 ·split<;>(try split)<;>first|rfl|simp_all [XE.to,Eff.app]
def KS(es:Nat)(x y:EV)(g:Nat->EO):XE:=
 match GJ A es g y with
 |some (n,ys)=>match x with
  | .sl es' id off len _=>if es'=es then match g id with
   | .blk c=>.need (A.le (A.add off (A.mul len es)) (A.len c)) (.need (A.le (A.mul n es) (A.len ys))
     (.ret (.lit (.int .i64 (A.ofn (A.nmin n len)))) (.set id (.blk (A.setl c off (A.tak (A.mul (A.nmin n len) es) ys))))))
   |_=>.stuck else .stuck
  | .lit (.slice none 0 0)=>.ret (.lit (.int .i64 0)) .no
  |_=>.stuck
 |none=>.stuck
theorem U1(es:Nat)(x y:EV)(h:EH):Hp A es x y h=(KS A es x y (Bh h)).to h:=by
 unfold Hp KS
 rw[RP]
 cases GJ A es (Bh h) y with
 |none=>rfl
 |some p=>
  obtain⟨n,ys⟩:=p;simp only;cases x with
  |lit v=>
   cases v with
   |slice a n k=>cases a<;>cases n<;>cases k<;>rfl
   |_=>rfl
  |sl es' id off len cap=>
   simp only
   by_cases he:es'=es
   ·simp only[he,if_true]
    cases Bh h id<;>rfl
   ·simp only[he,if_false];rfl
  |_=>rfl
def Kl(w:EV)(agg:Bool)(n:Nat)(x:EV)(g:Nat->EO):XE:=
 match x with
 | .ptr id off=>match g id with
  | .blk c=>match rd c off n with
   |some cs=>match mkV agg cs with
    |some v=>.same v w
    |none=>.stuck
   |none=>.stuck
  |_=>.stuck
 | .eptr id off=>match g id with
  | .blk c=>.lookS c off n agg w
  |_=>.stuck
 | .iptr _ _=>.ret Bt .no
 |_=>.stuck
theorem Ss(w:EV)(agg:Bool)(n:Nat)(x:EV)(h:EH):EG w agg n x h=(Kl w agg n x (Bh h)).to h:=by
 unfold EG Kl
 repeat' split
 all_goals first|rfl|simp_all [XE.to,Eff.app]
def IJ(v:EV)(s:Nat):XE:=
 if Ce (BH v)then .ret (.ptr s 0) (.push (.blk (BH v)))else .stuck
theorem Ra(v:EV)(h:EH):DE v h=(IJ v (Bd h)).to h:=by
 unfold DE IJ;split<;>rfl
def Ka(x:EV)(s0:Nat):XE:=
 match x with
 | .lit (.string s)=>.need (A.room (A.bsz s) 1) (.ret (.sl 1 s0 0 (A.bsz s) none) (.push (.blk (A.enc s))))
 |_=>.stuck
theorem Wb(x:EV)(h:EH):GV A x h=(Ka A x (Bd h)).to h:=by
 unfold GV Ka
 cases x with
 |lit v=>cases v<;>rfl
 |_=>rfl
def KB(es bytes:Nat)(z:List EV)(l c:EV)(s:Nat):XE:=
 match l,c with
 | .lit (.int _ n),.lit (.int _ m)=>
  .need (A.mks bytes n m) (.ret (.sl es s 0 (A.tn n) (some (A.tn m))) (.push (.blk (A.rep z (A.tn m)))))
 |_,_=>.stuck
theorem Yj(es bytes:Nat)(z:List EV)(l c:EV)(h:EH):HK A es bytes z l c h=(KB A es bytes z l c (Bd h)).to h:=by
 unfold HK KB
 cases l with
 |lit v=>
  cases v with
  |int k n=>
   cases c with
   |lit u=>cases u<;>rfl
   |_=>rfl
  |_=>rfl
 |_=>rfl
/-! the instructions that leave the heap -/
section
variable {h:EH}
theorem Wx (c a b : EV) : AllH h (E5 c a b h) := by unfold E5; repeat' split
                                                    all_goals simp [AllH]
theorem Zn (x : EV) : AllH h (DW x h) := by unfold DW; repeat' split
                                            all_goals simp [AllH]
theorem Tm(op:BinOp)(x y:EV)(td:Option TypeDesc):AllH h (DY A op x y td h):=by
 unfold DY Hv
 repeat' split
 all_goals simp[AllH]
theorem SI(op:UnOp)(x:EV):AllH h (unE A op x h):=by
 unfold unE
 repeat' split
 all_goals simp[AllH]
theorem Wv(k:IntKind)(x:EV):AllH h (DT A k x h):=by
 unfold DT
 repeat' split
 all_goals simp[AllH]
theorem S3(x:EV):AllH h (Eu x h):=by
 unfold Eu
 repeat' split
 all_goals simp[AllH]
theorem Sc(es:Nat)(x:EV)(a b c:Option Int):AllH h (D7 A es x a b c h):=by
 unfold D7
 repeat' split
 all_goals simp[AllH]
theorem W0(x:EV)(a b:Option Int):AllH h (Eb A x a b h):=by
 unfold Eb
 repeat' split
 all_goals simp[AllH]
theorem Vo(n:Nat)(x:EV):AllH h (DK A n x h):=by
 unfold DK
 repeat' split
 all_goals simp[AllH]
theorem WA(o:Nat)(x:EV):AllH h (En A o x h):=by
 unfold En
 repeat' split
 all_goals simp[AllH]
theorem Yp(agg:Bool)(o n:Nat)(x:EV):AllH h (D4 agg o n x h):=by
 unfold D4
 repeat' split
 all_goals simp[AllH]
theorem Tr(es:Nat)(x i:EV):AllH h (Er A es x i h):=by
 unfold Er
 repeat' split
 all_goals simp[AllH]
theorem U5(es len:Nat)(x i:EV):AllH h (Ej A es len x i h):=by
 unfold Ej
 repeat' split
 all_goals simp[AllH]
theorem R6(agg:Bool)(es len:Nat)(x i:EV):AllH h (DO A agg es len x i h):=by
 unfold DO
 repeat' split
 all_goals simp[AllH]
theorem V2(x i:EV):AllH h (DX A x i h):=by
 unfold DX
 repeat' split
 all_goals simp[AllH]
theorem WT(x:EV)(i:Nat):AllH h (D2 x i h):=by
 unfold D2
 repeat' split
 all_goals simp[AllH]
theorem Zv(mx:Bool)(x:EV)(l:List EV):AllH h (Ei A mx x l h):=by
 unfold Ei
 repeat' split
 all_goals simp[AllH]
theorem Ub(x y:EV):AllH h (EY x y h):=by
 unfold EY
 repeat' split
 all_goals simp[AllH]
theorem Un(x:EV)(l:List EV):AllH h (Gu x l):=by
 unfold Gu
 repeat' split
 all_goals simp[AllH]
theorem Ye(x:EV)(cands:List (TypeId×FuncId))(l:List EV):AllH h (Ge x cands l):=by
 unfold Ge
 repeat' split
 all_goals simp[AllH]
end
end
end Go.Proofs.YtkjhfefbklcciaaGreatDoor.Em
