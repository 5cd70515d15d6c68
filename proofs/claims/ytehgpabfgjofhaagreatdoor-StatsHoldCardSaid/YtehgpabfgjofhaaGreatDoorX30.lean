/- No conditions. -/
import Derived.Test.YtehgpabfgjofhaaGreatDoorX29
set_option linter.unusedVariables false
set_option linter.unusedSimpArgs false
namespace Go.Proofs.YtehgpabfgjofhaaGreatDoor.Em
open Go
inductive Eff where
 |no
 |set (id:Nat) (o:EO)
 |push (o:EO)
 |both (id:Nat) (o1 o2:EO)
def Eff.app(h:EH):Eff->EH
 | .no=>h
 | .set id o=>BG h id o
 | .push o=>B0 h o
 | .both id o1 o2=>B0 (BG h id o1) o2
inductive XE where
 |stuck
 |ret (v:EV) (e:Eff)
 |need (b:Bool) (r:XE)
 |br (b:Bool) (v1:EV) (e1:Eff) (v2:EV) (e2:Eff)
 |opt (o:Option EV) (ok:Bool) (z:EV)
 |same (v w:EV)
 |lookS (c:List EV) (off n:Nat) (agg:Bool) (w:EV)
def XE.to(h:EH):XE->SR
 | .stuck=>.stuck
 | .ret v e=>.ret v (e.app h)
 | .need b r=>.need b (r.to h)
 | .br b v1 e1 v2 e2=>.br b v1 (e1.app h) v2 (e2.app h)
 | .opt o ok z=>.opt o ok z h
 | .same v w=>.same v w h
 | .lookS c off n agg w=>.lookS c off n agg w h
section
variable (A:Ar)
def IV(es:Nat)(g:Nat->EO):EV->Option (Nat×List EV)
 | .lit (.slice none 0 0)=>some (0,[])
 | .isl n _ c=>some (n,A.tak (A.mul n es) c)
 | .sl es' id off n _=>if es'=es then match g id with
  | .blk c=>some (n,A.tak (A.mul n es) (A.drp off c))
  |_=>none else none
 | .lit (.string s)=>if es=1 then some (A.bsz s,A.enc s)else none
 |_=>none
theorem UG(es:Nat)(h:EH)(y:EV):Gm A es h y=IV A es (Bh h) y:=by unfold Gm IV;rfl
def Rm(es bytes:Nat)(x y:EV)(g:Nat->EO)(s:Nat):XE:=
 match IV A es g y with
 |none=>.stuck
 |some (n,ys)=>
  .need (A.le (A.mul n es) (A.len ys))
  (match x with
  | .lit (.slice none 0 0)=>
   .need (A.room n bytes) (.br (A.isz n) (.lit (.slice none 0 0)) .no (.sl es s 0 n none) (.push (.blk ys)))
  | .sl es' id off len cap=>
   if es'=es then
    match g id,cap with
    | .blk c,none=>
     .need (A.le (A.add off (A.mul len es)) (A.len c)) (.need (A.room (A.add len n) bytes)
      (.ret (.sl es s 0 (A.add len n) none) (.both id .dead (.blk (A.app (A.tak (A.mul len es) (A.drp off c)) ys)))))
    | .blk c,some k=>
     .need (A.le (A.add off (A.mul k es)) (A.len c)) (.need (A.le len k) (.need (A.room (A.add len n) bytes)
      (.br (A.le (A.add len n) k)
       (.sl es id off (A.add len n) (some k)) (.set id (.blk (A.setl c (A.add off (A.mul len es)) ys)))
       (.sl es s 0 (A.add len n) none) (.push (.blk (A.app (A.tak (A.mul len es) (A.drp off c)) ys))))))
    |_,_=>.stuck
   else .stuck
  | .isl len (some k) c=>
   .need (A.le (A.mul len es) (A.len c)) (.need (A.room (A.add len n) bytes) (.need (A.bnot (A.le (A.add len n) k))
    (.ret (.sl es s 0 (A.add len n) none) (.push (.blk (A.app (A.tak (A.mul len es) c) ys))))))
  |_=>.stuck)
theorem WK(es bytes:Nat)(x y:EV)(h:EH):J6 A es bytes x y h=(Rm A es bytes x y (Bh h) (Bc h)).to h:=by
 unfold J6 Rm
 rw[UG]
 cases IV A es (Bh h) y with
 |none=>rfl
 |some p=>
  obtain⟨n,ys⟩:=p;simp only[XE.to];congr 1;cases x with
  |lit v=>
   cases v with
   |slice a n k=>cases a<;>cases n<;>cases k<;>rfl
   |_=>rfl
  |isl len cap c=>cases cap<;>rfl
  |sl es' id off len cap=>
   simp only
   by_cases he:es'=es
   ·simp only[he,if_true]
    cases Bh h id<;>cases cap<;>rfl
   ·simp only[he,if_false];rfl
  |_=>rfl
def Rb(n:Nat)(x v:EV)(g:Nat->EO):XE:=
 if Gs (Cf v)==n then if CW (Cf v)then
  match x with
  | .ptr id off=>match g id with
   | .blk c=>match wrt c off (Cf v)with
    |some c'=>.ret BO (.set id (.blk c'))
    |none=>.stuck
   |_=>.stuck
  | .eptr id off=>match g id with
   | .blk c=>.need (A.le (A.add off n) (A.len c)) (.ret BO (.set id (.blk (A.setl c off (Cf v)))))
   |_=>.stuck
  |_=>.stuck
 else .stuck else .stuck
theorem Z7(n:Nat)(x v:EV)(h:EH):EP A n x v h=(Rb A n x v (Bh h)).to h:=by
 unfold EP Rb
 repeat' split
 all_goals first|rfl|simp_all [XE.to,Eff.app]
def N7(x:EV)(g:Nat->EO):XE:=
 match x with
 | .lit (.slice none 0 0)=>.ret (.lit (.string ByteArray.empty)) .no
 | .isl n _ c=>.need (A.byt n c) (.ret (.lit (.string (A.dec (A.tak n c)))) .no)
 | .sl es id off n _=>if es=1 then match g id with
  | .blk c=>.need (A.byt n (A.drp off c)) (.ret (.lit (.string (A.dec (A.tak n (A.drp off c))))) .no)
  |_=>.stuck else .stuck
 |_=>.stuck
theorem zCb(x:EV)(h:EH):HF A x h=(N7 A x (Bh h)).to h:=by
 unfold HF N7
 cases x with
 |lit v=>
  cases v with
  |slice a n k=>cases a<;>cases n<;>cases k<;>rfl
  |_=>rfl
 |sl es id off n cap=>
  simp only
  by_cases he:es=1
  ·simp only[he,if_true]
   cases Bh h id<;>rfl
  ·simp only[he,if_false];rfl
 |_=>rfl
def RT(x:EV)(g:Nat->EO):XE:=
 match x with
 | .sl es id off n cap=>match g id with
  | .blk _=>.need (A.bnot (A.isz n)) (.ret (.sl es id off n cap) .no)
  |_=>.stuck
 |_=>.stuck
theorem zC2(x:EV)(h:EH):Hw A x h=(RT A x (Bh h)).to h:=by
 unfold Hw RT
 cases x with
 |sl es id off n cap=>simp only;cases Bh h id<;>rfl
 |_=>rfl
def NM(ks:Nat)(z:List Value)(isA ok:Bool)(x k:EV)(g:Nat->EO):XE:=
 match x with
 | .mp id=>match g id with
  | .emap es=>.need (A.keyed ks es k) (.opt (A.find es k) ok (zvE z isA))
  |_=>.stuck
 | .lit (.map none)=>.need (A.keyed ks [] k) (.ret (if ok then .tup [zvE z isA,.lit (.bool false)]else zvE z isA) .no)
 |_=>.stuck
theorem zBn(ks:Nat)(z:List Value)(isA ok:Bool)(x k:EV)(h:EH):HT A ks z isA ok x k h=(NM A ks z isA ok x k (Bh h)).to h:=by
 unfold HT NM
 split<;>(try split)<;>first|rfl|simp_all [XE.to]
def Rt(ks:Nat)(x k v:EV)(g:Nat->EO):XE:=
 match x with
 | .mp id=>match g id with
  | .emap es=>.need (A.keyed ks es k) (.ret BO (.set id (.emap (A.mset es k v))))
  |_=>.stuck
 |_=>.stuck
theorem Yf(ks:Nat)(x k v:EV)(h:EH):JT A ks x k v h=(Rt A ks x k v (Bh h)).to h:=by
 unfold JT Rt
 repeat' split
 all_goals first|rfl|simp_all [XE.to,Eff.app]
def RP(k:Nat)(x:EV)(g:Nat->EO):XE:=
 match k with
 |0=>match x with
  | .lit (.string s)=>.ret (.lit (.int .i64 (A.ofn (A.bsz s)))) .no
  |_=>.stuck
 |1=>match x with
  | .lit (.slice none 0 0)=>.ret (.lit (.int .i64 0)) .no
  | .sl _ _ _ n _=>.ret (.lit (.int .i64 (A.ofn n))) .no
  | .isl n _ _=>.ret (.lit (.int .i64 (A.ofn n))) .no
  |_=>.stuck
 |_=>match x with
  | .lit (.map none)=>.ret (.lit (.int .i64 0)) .no
  | .mp id=>match g id with
   | .emap es=>.ret (.lit (.int .i64 (A.ofn (A.mlen es)))) .no
   |_=>.stuck
  |_=>.stuck
theorem ZV(k:Nat)(x:EV)(h:EH):E7 A k x h=(RP A k x (Bh h)).to h:=by
 unfold E7 RP
 split
 ·split<;>first|rfl|simp_all [XE.to]
 ·split<;>first|rfl|simp_all [XE.to]
 ·split<;>(try split)<;>first|rfl|simp_all [XE.to,Eff.app]
def ND(es:Nat)(x y:EV)(g:Nat->EO):XE:=
 match IV A es g y with
 |some (n,ys)=>match x with
  | .sl es' id off len _=>if es'=es then match g id with
   | .blk c=>.need (A.le (A.add off (A.mul len es)) (A.len c)) (.need (A.le (A.mul n es) (A.len ys))
     (.ret (.lit (.int .i64 (A.ofn (A.nmin n len)))) (.set id (.blk (A.setl c off (A.tak (A.mul (A.nmin n len) es) ys))))))
   |_=>.stuck else .stuck
  | .lit (.slice none 0 0)=>.ret (.lit (.int .i64 0)) .no
  |_=>.stuck
 |none=>.stuck
theorem zDp(es:Nat)(x y:EV)(h:EH):Kp A es x y h=(ND A es x y (Bh h)).to h:=by
 unfold Kp ND
 rw[UG]
 cases IV A es (Bh h) y with
 |none=>rfl
 |some p=>
  obtain⟨n,ys⟩:=p;simp only;cases x with
  |lit v=>
   cases v with
   |slice a n k=>cases a<;>cases n<;>cases k<;>rfl
   |_=>rfl
  |sl es' id off len cap=>
   simp only
   by_cases he:es'=es
   ·simp only[he,if_true]
    cases Bh h id<;>rfl
   ·simp only[he,if_false];rfl
  |_=>rfl
def Rz(w:EV)(agg:Bool)(n:Nat)(x:EV)(g:Nat->EO):XE:=
 match x with
 | .ptr id off=>match g id with
  | .blk c=>match rd c off n with
   |some cs=>match mkV agg cs with
    |some v=>.same v w
    |none=>.stuck
   |none=>.stuck
  |_=>.stuck
 | .eptr id off=>match g id with
  | .blk c=>.lookS c off n agg w
  |_=>.stuck
 | .iptr _ _=>.ret BO .no
 |_=>.stuck
theorem WZ(w:EV)(agg:Bool)(n:Nat)(x:EV)(h:EH):HS w agg n x h=(Rz w agg n x (Bh h)).to h:=by
 unfold HS Rz
 repeat' split
 all_goals first|rfl|simp_all [XE.to]
def KF(v:EV)(s:Nat):XE:=
 if CW (Cf v)then .ret (.ptr s 0) (.push (.blk (Cf v)))else .stuck
theorem Uh(v:EV)(h:EH):E8 v h=(KF v (Bc h)).to h:=by
 unfold E8 KF;split<;>rfl
def Rp(x:EV)(s0:Nat):XE:=
 match x with
 | .lit (.string s)=>.need (A.room (A.bsz s) 1) (.ret (.sl 1 s0 0 (A.bsz s) none) (.push (.blk (A.enc s))))
 |_=>.stuck
theorem zDq(x:EV)(h:EH):Kq A x h=(Rp A x (Bc h)).to h:=by
 unfold Kq Rp
 cases x with
 |lit v=>cases v<;>rfl
 |_=>rfl
def Rg(es bytes:Nat)(z:List EV)(l c:EV)(s:Nat):XE:=
 match l,c with
 | .lit (.int _ n),.lit (.int _ m)=>
  .need (A.mks bytes n m) (.ret (.sl es s 0 (A.tn n) (some (A.tn m))) (.push (.blk (A.rep z (A.tn m)))))
 |_,_=>.stuck
theorem zBG(es bytes:Nat)(z:List EV)(l c:EV)(h:EH):Jk A es bytes z l c h=(Rg A es bytes z l c (Bc h)).to h:=by
 unfold Jk Rg
 cases l with
 |lit v=>
  cases v with
  |int k n=>
   cases c with
   |lit u=>cases u<;>rfl
   |_=>rfl
  |_=>rfl
 |_=>rfl
/-! the instructions that leave the heap -/
section
variable {h:EH}
theorem Yb (c a b : EV) : AllH h (H6 c a b h) := by unfold H6; repeat' split
                                                    all_goals simp [AllH]
theorem zDZ (x : EV) : AllH h (GB x h) := by unfold GB; repeat' split
                                             all_goals simp [AllH]
theorem Zk(op:BinOp)(x y:EV)(td:Option TypeDesc):AllH h (Hh A op x y td h):=by
 unfold Hh Kg
 repeat' split
 all_goals simp[AllH]
theorem zCF(op:UnOp)(x:EV):AllH h (unE A op x h):=by
 unfold unE
 repeat' split
 all_goals simp[AllH]
theorem YS(k:IntKind)(x:EV):AllH h (GI A k x h):=by
 unfold GI
 repeat' split
 all_goals simp[AllH]
theorem zDw(x:EV):AllH h (HM x h):=by
 unfold HM
 repeat' split
 all_goals simp[AllH]
theorem zA4(es:Nat)(x:EV)(a b c:Option Int):AllH h (GO A es x a b c h):=by
 unfold GO
 repeat' split
 all_goals simp[AllH]
theorem zCY(x:EV)(a b:Option Int):AllH h (Hf A x a b h):=by
 unfold Hf
 repeat' split
 all_goals simp[AllH]
theorem WH(n:Nat)(x:EV):AllH h (Hk A n x h):=by
 unfold Hk
 repeat' split
 all_goals simp[AllH]
theorem Z2(o:Nat)(x:EV):AllH h (GE A o x h):=by
 unfold GE
 repeat' split
 all_goals simp[AllH]
theorem zBy(agg:Bool)(o n:Nat)(x:EV):AllH h (GK agg o n x h):=by
 unfold GK
 repeat' split
 all_goals simp[AllH]
theorem zBS(es:Nat)(x i:EV):AllH h (GJ A es x i h):=by
 unfold GJ
 repeat' split
 all_goals simp[AllH]
theorem WM(es len:Nat)(x i:EV):AllH h (Hc A es len x i h):=by
 unfold Hc
 repeat' split
 all_goals simp[AllH]
theorem zDb(agg:Bool)(es len:Nat)(x i:EV):AllH h (GQ A agg es len x i h):=by
 unfold GQ
 repeat' split
 all_goals simp[AllH]
theorem zEh(x i:EV):AllH h (GL A x i h):=by
 unfold GL
 repeat' split
 all_goals simp[AllH]
theorem zCn(x:EV)(i:Nat):AllH h (Hj x i h):=by
 unfold Hj
 repeat' split
 all_goals simp[AllH]
theorem zC4(mx:Bool)(x:EV)(l:List EV):AllH h (Hg A mx x l h):=by
 unfold Hg
 repeat' split
 all_goals simp[AllH]
theorem zBq(x y:EV):AllH h (HX x y h):=by
 unfold HX
 repeat' split
 all_goals simp[AllH]
theorem zCm(x:EV)(l:List EV):AllH h (IzO x l):=by
 unfold IzO
 repeat' split
 all_goals simp[AllH]
theorem ZZ(x:EV)(cands:List (TypeId×FuncId))(l:List EV):AllH h (IZ x cands l):=by
 unfold IZ
 repeat' split
 all_goals simp[AllH]
end
end
end Go.Proofs.YtehgpabfgjofhaaGreatDoor.Em
