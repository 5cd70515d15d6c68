/- No conditions. -/
import Derived.Test.YtkjhfefbklcciaaGreatDoorX31
set_option linter.unusedVariables false
set_option linter.unusedSimpArgs false
namespace Go.Proofs.YtkjhfefbklcciaaGreatDoor.Em
open Go
structure XR where
 t:List EV
 n:Nat
 l:EH
 how:PD
abbrev XI:=Bool->List KI->List EV->Nat->EH->Option XR
section
variable (G:List (List EV)) (F:Tab)
noncomputable def fnX(ih:XI)(n:Nat)(l:EH)(f:FuncId)(args:List EV)(k:EV->Nat->EH->Option XR):Option XR:=
 match F.f f with
 |some fc=>fS args fun args=>fS (BK args fc.ntmps) fun t=>match ih false [.c fc.body] t n l with
  |some ⟨t1,n1,l1,how⟩=>match how with
   |some (some _)=>none
   |_=>match BP fc.rs t1 l1.reverse with
    |some v=>gE v fun v=>k v n1 l1
    |none=>none
  |none=>none
 |none=>match F.d f with
  |none=>none
  |some df=>fS args fun args=>fS (BK args df.ntmps) fun t=>match ih false (Co df.pre) t n l with
   |some ⟨t0,n0,l0,none⟩=>match ih false [.ops df.ops] t0 n0 l0 with
    |some ⟨t1,n1,l1,none⟩=>match Bm G t1 df.tgt with
     | .fn (.func g) av bv=>match F.r g with
      |some rf=>fS (BS av (BS (BX G t1 df.args) bv)) fun dargs=>match ih false (Co df.rest) t1 n1 l1 with
       |some ⟨t2,n2,l2,how2⟩=>match how2 with
        |some (some _)=>none
        |_=>fS (match rf.dst with|some d=>Bl (BK dargs rf.ntmps) d (.lit .nilIface)|none=>BK dargs rf.ntmps) fun t3=>match ih false (.ops rf.ops::Co rf.rest) t3 n2 l2 with
         |some ⟨t4,n4,l4,how4⟩=>match how4 with
          |some (some _)=>none
          |_=>match BP rf.rs t4 l4.reverse with
           |some _=>match BP df.rs t2 l4.reverse with
            |some v=>gE v fun v=>k v n4 l4
            |none=>none
           |none=>none
         |none=>none
       |none=>none
      |none=>none
     |_=>none
    |_=>none
   |_=>none
noncomputable def KQ(ih:XI)(n:Nat)(l:EH)(f:FuncId)(args:List EV)(k:EV->Nat->EH->Option XR):Option XR:=
 match Nat.beq f Cj with
 |true=>match args with
  | .yl id::as=>match gX n l id with
   | .lp t0 ps asg body 0 _=>match Nat.beq as.length ps.length with
    |true=>fS (Cw t0 ps as) fun t=>match ih true [.c asg] t n l with
     |some ⟨t1,n1,l1,none⟩=>match gX n1 l1 id with
      | .lp t1' ps1 a1 b1 0 pd1=>Gg (.set id (.lp t1' ps1 a1 b1 1 pd1)) n1 l1 fun n1 l1=>match ih true [.c body] t1 n1 l1 with
       |some ⟨t2,n2,l2,how⟩=>match gX n2 l2 id with
        | .lp t2' ps2 a2 b2 _ _=>match how with
         |none=>Gg (.set id (.lp t2' ps2 a2 b2 0 none)) n2 l2 fun n2 l2=>k (.lit (.bool true)) n2 l2
         |some x=>Gg (.set id (.lp t2' ps2 a2 b2 2 (some x))) n2 l2 fun n2 l2=>k (.lit (.bool false)) n2 l2
        |_=>none
       |none=>none
      |_=>none
     |_=>none
    |false=>none
   |_=>none
  |_=>none
 |false=>fnX G F ih n l f args k
end
section
variable {G:List (List EV)} {F:Tab}
def IHX(ihX:XI)(ih:Bool->List KI->List EV->EH->Option (St×PD)):Prop:=
 ∀rd k t n l r,n=l.length->ihX rd k t n l=some r->ih rd k t l.reverse=some (⟨r.t,r.l.reverse⟩,r.how)/\r.n=r.l.length
theorem Ii{ihX:XI}{ih:Bool->List KI->List EV->EH->Option (St×PD)}(hi:IHX ihX ih){n:Nat}{l:EH}(hn:n=l.length){f:FuncId}{args:List EV}{k:EV->Nat->EH->Option XR}{r:XR}
  (he:fnX G F ihX n l f args k=some r):∃v n' l',De G F ih l.reverse f args=some (v,l'.reverse)/\n'=l'.length/\k v n' l'=some r:=by
 have fin:∀{rs:List ER} {t:List EV} {n1:Nat} {l1:EH},(match BP rs t l1.reverse with|some v=>gE v fun v=>k v n1 l1|none=>none)=some r->
   ∃v,BP rs t l1.reverse=some v/\k v n1 l1=some r:=by
  intro rs t n1 l1 h;split at h
  ·rename_i v hv
   rw[Gh]at h;exact⟨v,hv,h⟩
  ·cases h
 unfold fnX at he
 unfold De
 cases hfc:F.f f with
 |some fc=>
  rw[hfc]at he;simp only[Gk,Dg]at he ⊢;cases h1:ihX false [.c fc.body] (BK args fc.ntmps) n l with
  |none=>rw[h1]at he;cases he
  |some s1=>
   obtain⟨t1,n1,l1,how⟩:=s1;obtain⟨q1,q2⟩:=hi _ _ _ _ _ _ hn h1;rw[h1]at he;rw[q1];rcases how with _|_|e
   ·obtain⟨v,hv,hk⟩:=fin he
    exact⟨v,n1,l1,by simp only[hv],q2,hk⟩
   ·obtain⟨v,hv,hk⟩:=fin he
    exact⟨v,n1,l1,by simp only[hv],q2,hk⟩
   ·cases he
 |none=>
  rw[hfc]at he;simp only at he ⊢;cases hdf:F.d f with
  |none=>rw[hdf]at he;cases he
  |some df=>
   rw[hdf]at he;simp only[Gk,Dg]at he ⊢;cases h0:ihX false (Co df.pre) (BK args df.ntmps) n l with
   |none=>rw[h0]at he;cases he
   |some s0=>
    obtain⟨t0,n0,l0,how0⟩:=s0;obtain⟨q0,e0⟩:=hi _ _ _ _ _ _ hn h0;rw[h0]at he;cases how0 with
    |some x=>cases he
    |none=>
     rw[q0];simp only at he ⊢;cases h1:ihX false [.ops df.ops] t0 n0 l0 with
     |none=>rw[h1]at he;cases he
     |some s1=>
      obtain⟨t1,n1,l1,how1⟩:=s1;obtain⟨q1,e1⟩:=hi _ _ _ _ _ _ e0 h1;rw[h1]at he;cases how1 with
      |some x=>cases he
      |none=>
       rw[q1];simp only at he ⊢;split at he
       ·rename_i g av bv hev
        rw[hev];simp only;cases hrf:F.r g with
        |none=>rw[hrf]at he;cases he
        |some rf=>
         rw[hrf]at he;simp only at he ⊢;cases h2:ihX false (Co df.rest) t1 n1 l1 with
         |none=>rw[h2]at he;cases he
         |some s2=>
          obtain⟨t2,n2,l2,how2⟩:=s2;obtain⟨q2,e2⟩:=hi _ _ _ _ _ _ e1 h2;rw[h2]at he;rw[q2]
          have last:(match ihX false (.ops rf.ops::Co rf.rest) (match rf.dst with|some d=>Bl (BK (BS av (BS (BX G t1 df.args) bv)) rf.ntmps) d (.lit .nilIface)|none=>BK (BS av (BS (BX G t1 df.args) bv)) rf.ntmps) n2 l2 with
            |some ⟨t4,n4,l4,how4⟩=>match how4 with
             |some (some _)=>none
             |_=>match BP rf.rs t4 l4.reverse with
              |some _=>match BP df.rs t2 l4.reverse with
               |some v=>gE v fun v=>k v n4 l4
               |none=>none
              |none=>none
            |none=>none)=some r->∃v n' l',(match ih false (.ops rf.ops::Co rf.rest) (match rf.dst with|some d=>Bl (BK (BS av (BS (BX G t1 df.args) bv)) rf.ntmps) d (.lit .nilIface)|none=>BK (BS av (BS (BX G t1 df.args) bv)) rf.ntmps) l2.reverse with
            |some (_,some (some _))=>none
            |some (s3,_)=>match BP rf.rs s3.t s3.h with
             |some _=>match BP df.rs t2 s3.h with
              |some v=>some (v,s3.h)
              |none=>none
             |none=>none
            |none=>none)=some (v,l'.reverse)/\n'=l'.length/\k v n' l'=some r:=by
           intro he;cases h4:ihX false (.ops rf.ops::Co rf.rest) (match rf.dst with|some d=>Bl (BK (BS av (BS (BX G t1 df.args) bv)) rf.ntmps) d (.lit .nilIface)|none=>BK (BS av (BS (BX G t1 df.args) bv)) rf.ntmps) n2 l2 with
           |none=>rw[h4]at he;cases he
           |some s4=>
            obtain⟨t4,n4,l4,how4⟩:=s4;obtain⟨q4,e4⟩:=hi _ _ _ _ _ _ e2 h4;rw[h4]at he;rw[q4]
            have fin2:(match BP rf.rs t4 l4.reverse with
              |some _=>match BP df.rs t2 l4.reverse with
               |some v=>gE v fun v=>k v n4 l4
               |none=>none
              |none=>none)=some r->∃u v,BP rf.rs t4 l4.reverse=some u/\BP df.rs t2 l4.reverse=some v/\k v n4 l4=some r:=by
             intro h;split at h
             ·rename_i u hu
              obtain⟨v,hv,hk⟩:=fin h;exact⟨u,v,hu,hv,hk⟩
             ·cases h
            rcases how4 with _|_|e
            ·obtain⟨u,v,hu,hv,hk⟩:=fin2 he
             exact⟨v,n4,l4,by simp only[hu,hv],e4,hk⟩
            ·obtain⟨u,v,hu,hv,hk⟩:=fin2 he
             exact⟨v,n4,l4,by simp only[hu,hv],e4,hk⟩
            ·cases he
          rcases how2 with _|_|e
          ·exact last he
          ·exact last he
          ·cases he
       ·cases he
theorem V9{γ:Type}{Q:Option (St×PD)->Prop}{ihX:XI}{ih:Bool->List KI->List EV->EH->Option (St×PD)}(hi:IHX ihX ih){n:Nat}{l:EH}(hn:n=l.length){f:FuncId}{args:List EV}
  {k:EV->Nat->EH->Option XR} {K:EV->EH->Option (St×PD)} {r:XR} (hk:∀v n' l',n'=l'.length->k v n' l'=some r->Q (K v l'.reverse))
  (he:KQ G F ihX n l f args k=some r):Q (GN G F ih l.reverse K f args):=by
 unfold KQ at he
 unfold GN
 split at he
 ·rename_i hb
  rw[hb];simp only;split at he
  ·rename_i id as
   simp only;rw[G1 hn]at he;split at he
   ·rename_i t0 ps asg body pd0 hg0
    rw[hg0];simp only;split at he
    ·rename_i hlen
     rw[hlen];simp only[KE];rw[Gk]at he;split at he
     ·rename_i t1 n1 l1 h1
      obtain⟨q1,e1⟩:=hi _ _ _ _ _ _ hn h1;rw[q1];simp only;rw[G1 e1]at he;split at he
      ·rename_i t1' ps1 a1 b1 pd1 hg1
       rw[hg1];simp only;obtain⟨n1',l1',e1',r1',a1'⟩:=Hx (β:=XR) e1 (.set id (.lp t1' ps1 a1 b1 1 pd1));rw[a1']at he;split at he
       ·rename_i t2 n2 l2 how h2
        obtain⟨q2,e2⟩:=hi _ _ _ _ _ _ e1' h2;rw[r1']at q2;simp only[Eff.app]at q2;rw[q2];simp only;rw[G1 e2]at he;split at he
        ·rename_i t2' ps2 a2 b2 st2 pd2 hg2
         rw[hg2];simp only;split at he
         ·obtain⟨n3,l3,e3,r3,a3⟩:=Hx (β:=XR) e2 (.set id (.lp t2' ps2 a2 b2 0 none))
          rw[a3]at he;have:=hk _ _ _ e3 he;rw[r3]at this;exact this
         ·rename_i x
          obtain⟨n3,l3,e3,r3,a3⟩:=Hx (β:=XR) e2 (.set id (.lp t2' ps2 a2 b2 2 (some x)));rw[a3]at he;have:=hk _ _ _ e3 he;rw[r3]at this;exact this
        ·cases he
       ·cases he
      ·cases he
     ·cases he
    ·cases he
   ·cases he
  ·cases he
 ·rename_i hb
  rw[hb];simp only;obtain⟨v,n',l',h1,h2,h3⟩:=Ii hi hn he;rw[h1];exact hk v n' l' h2 h3
end
/-! control -/
noncomputable def rfX(ih:XI)(G:List (List EV))(F:Tab)(x:Operand)(ps:List Nat)(asg body:EC)(k:List KI)(t:List EV)(n:Nat)(l:EH):Option XR:=
 Bv x G t fun v=>match v with
  | .fn (.func f) a b=>match Nat.beq f Cj with
   |true=>none
   |false=>fnX G F ih (Nat.succ n) (.lp t ps asg body 0 none::l) f (BS a (.yl n::b)) fun _ n1 l1=>match gX n1 l1 n with
    | .lp _ _ _ _ st pd=>match Nat.beq st 1 with
     |true=>none
     |false=>Gg (.set n .dead) n1 l1 fun n2 l2=>match pd with
      |none=>ih false k t n2 l2
      |some none=>some ⟨t,n2,l2,some none⟩
      |some (some e)=>match BQ e k with
       |some k'=>ih false k' t n2 l2
       |none=>some ⟨t,n2,l2,some (some e)⟩
    |_=>none
  |_=>none
noncomputable def Jw(ih:XI)(rd:Bool)(x:Operand)(a b:EC)(k:List KI)(t:List EV)(n:Nat)(l:EH)(v:EV):Option XR:=
 match v with
 | .lit (.bool true)=>ih rd (.c a::k) t n l
 | .lit (.bool false)=>ih rd (.c b::k) t n l
 | .sb true=>(match x with | .tmp i=>GE t i (.lit (.bool true)) fun t=>ih rd (.c a::k) t n l|_=>ih rd (.c a::k) t n l)
 | .sb false=>(match x with | .tmp i=>GE t i (.lit (.bool false)) fun t=>ih rd (.c b::k) t n l|_=>ih rd (.c b::k) t n l)
 |_=>none
noncomputable def ecX:EC->XI->List (List EV)->Tab->Bool->List KI->List EV->Nat->EH->Option XR:=
 @EC.rec (fun _=>XI->List (List EV)->Tab->Bool->List KI->List EV->Nat->EH->Option XR)
  (fun ih _ _ rd k t n l=>ih rd k t n l)
  (fun ops ih _ _ rd k t n l=>ih rd (.ops ops::k) t n l)
  (fun a b _ _ ih _ _ rd k t n l=>ih rd (.c a :: .c b::k) t n l)
  (fun x a b _ _ ih G _ rd k t n l=>Bv x G t fun v=>Jw ih rd x a b k t n l v)
  (fun id c _ ih _ _ rd k t n l=>ih rd (.c c :: .blk id::k) t n l)
  (fun c _ ih _ _ rd k t n l=>ih rd (.c c :: .lp c::k) t n l)
  (fun id ih _ _ rd k t n l=>match BQ id k with|some k'=>ih rd k' t n l|none=>some ⟨t,n,l,some (some id)⟩)
  (fun ih _ _ rd k t n l=>some ⟨t,n,l,some none⟩)
  (fun x ps asg body _ _ ih G F rd k t n l=>match rd with|true=>none|false=>rfX ih G F x ps asg body k t n l)
  (fun _ _ _ _ _ _ _ _ _=>none)
noncomputable def goX(ih:XI)(G:List (List EV))(F:Tab)(rd:Bool)(k:List KI)(dst:Option Nat)(i:EI)(t:List EV)(n:Nat)(l:EH):Option XR:=
 Jy i G t n l (fun v e=>Gs t dst v fun t=>Gg e n l fun n l=>ih rd k t n l) (fun f args=>KQ G F ih n l f args fun v n l=>Gs t dst v fun t=>ih rd k t n l)
noncomputable def gdX(ih:XI)(G:List (List EV))(F:Tab)(rd:Bool)(k:List KI)(dst:Option Nat)(i:EI)(g:Nat)(want:Bool)(t:List EV)(n:Nat)(l:EH)(gv:EV):Option XR:=
 match gv with
 | .lit (.bool b)=>match (b==want)with
  |true=>goX ih G F rd k dst i t n l
  |false=>Gs t dst Bt fun t=>ih rd k t n l
 | .lit (.tuple _)=>Gs t dst Bt fun t=>ih rd k t n l
 | .sb b=>match (b==want)with
  |true=>GE t g (.lit (.bool b)) fun t=>goX ih G F rd k dst i t n l
  |false=>GE t g (.lit (.bool b)) fun t=>Gs t dst Bt fun t=>ih rd k t n l
 |_=>none
noncomputable def opX:EOp->XI->List (List EV)->Tab->Bool->List KI->List EV->Nat->EH->Option XR:=
 @EOp.rec (fun _=>XI->List (List EV)->Tab->Bool->List KI->List EV->Nat->EH->Option XR)
  (fun dst i guard ih G F rd k t n l=>@Option.rec (Nat×Bool) (fun _=>Option XR) (goX ih G F rd k dst i t n l)
   (fun p=>Gl t p.1 fun gv=>gdX ih G F rd k dst i p.1 p.2 t n l gv) guard)
noncomputable def Ly:List EOp->XI->List (List EV)->Tab->Bool->List KI->List EV->Nat->EH->Option XR:=
 @List.rec EOp (fun _=>XI->List (List EV)->Tab->Bool->List KI->List EV->Nat->EH->Option XR)
  (fun ih _ _ rd k t n l=>ih rd k t n l)
  (fun o os _ ih G F rd k t n l=>opX o ih G F rd (.ops os::k) t n l)
noncomputable def kiX:KI->XI->List (List EV)->Tab->Bool->List KI->List EV->Nat->EH->Option XR:=
 @KI.rec (fun _=>XI->List (List EV)->Tab->Bool->List KI->List EV->Nat->EH->Option XR)
  (fun ec=>ecX ec) (fun ops=>Ly ops) (fun _ ih _ _ rd k t n l=>ih rd k t n l) (fun _ _ _ _ _ _ _ _ _=>none) (fun c ih _ _ rd k t n l=>ih rd (.c c :: .lp c::k) t n l)
noncomputable def stX(G:List (List EV))(F:Tab)(ih:XI)(rd:Bool)(k:List KI)(t:List EV)(n:Nat)(l:EH):Option XR:=
 @List.rec KI (fun _=>Option XR) (some ⟨t,n,l,none⟩) (fun x k _=>kiX x ih G F rd k t n l) k
noncomputable def KT(G:List (List EV))(F:Tab)(n:Nat):XI:=@Nat.rec (fun _=>XI) (fun _ _ _ _ _=>none) (fun _ ih=>stX G F ih) n
section
variable {G:List (List EV)} {F:Tab}
theorem Ry(t:List EV)(i:Nat)(b:Bool):GB t (.tmp i) b=Bs t i (.lit (.bool b)):=rfl
theorem JP{ihX:XI}{ih:Bool->List KI->List EV->EH->Option (St×PD)}(hi:IHX ihX ih){rd:Bool}{k:List KI}{dst:Option Nat}{i:EI}{t:List EV}{n:Nat}{l:EH}{r:XR}(hn:n=l.length)
  (he:goX ihX G F rd k dst i t n l=some r) :
  BF kA (fun v h=>ih rd k (Bl t dst v) h) (GN G F ih l.reverse fun v h=>ih rd k (Bl t dst v) h) (Bp kA G t l.reverse i)=some (⟨r.t,r.l.reverse⟩,r.how)/\r.n=r.l.length:=by
 unfold goX at he
 refine Ts (Q:=fun o=>o=some ((⟨r.t,r.l.reverse⟩:St),r.how)/\r.n=r.l.length) hn (fun v e h1=>?_) (fun f args h1=>?_) i he
 ·rw[Hu]at h1
  obtain⟨n',l',e1,e2,e3⟩:=Hx (β:=XR) hn e;rw[e3]at h1;have:=hi _ _ _ _ _ _ e1 h1
  rwa [e2]at this
 ·refine V9 (γ:=Unit) (Q:=fun o=>o=some ((⟨r.t,r.l.reverse⟩:St),r.how)/\r.n=r.l.length) hi hn (fun v n' l' e1 h2=>?_) h1
  rw[Hu]at h2;exact hi _ _ _ _ _ _ e1 h2
theorem Tk{ihX:XI}{ih:Bool->List KI->List EV->EH->Option (St×PD)}(hi:IHX ihX ih):IHX (stX G F ihX) (CV kA G F ih):=by
 intro rd k t n l r hn he
 cases k with
 |nil=>cases he;exact⟨rfl,hn⟩
 |cons x k=>
  have he:kiX x ihX G F rd k t n l=some r:=he;cases x with
  |c ec=>
   have he:ecX ec ihX G F rd k t n l=some r:=he;cases ec with
   |skip=>exact hi _ _ _ _ _ _ hn he
   |ops os=>exact hi _ _ _ _ _ _ hn he
   |seq a b=>exact hi _ _ _ _ _ _ hn he
   |cond x a b=>
    have he:(Bv x G t fun v=>Jw ihX rd x a b k t n l v)=some r:=he
    rw[BD]at he;unfold Jw at he;simp only[CV];split at he
    ·rename_i h1;rw[h1];exact hi _ _ _ _ _ _ hn he
    ·rename_i h1;rw[h1];exact hi _ _ _ _ _ _ hn he
    ·rename_i h1
     rw[h1];simp only;cases x with
     |tmp i=>simp only[Gv]at he;rw[Ry];exact hi _ _ _ _ _ _ hn he
     |_=>exact hi _ _ _ _ _ _ hn he
    ·rename_i h1
     rw[h1];simp only;cases x with
     |tmp i=>simp only[Gv]at he;rw[Ry];exact hi _ _ _ _ _ _ hn he
     |_=>exact hi _ _ _ _ _ _ hn he
    ·cases he
   |block id c=>exact hi _ _ _ _ _ _ hn he
   |loop c=>exact hi _ _ _ _ _ _ hn he
   |exit id=>
    have he:(match BQ id k with|some k'=>ihX rd k' t n l|none=>some ⟨t,n,l,some (some id)⟩)=some r:=he
    simp only[CV];split at he
    ·rename_i k' h1;rw[h1];exact hi _ _ _ _ _ _ hn he
    ·rename_i h1;rw[h1];cases he;exact⟨rfl,hn⟩
   |ret=>cases he;exact⟨rfl,hn⟩
   |rf x ps asg body=>
    cases rd with
    |true=>cases he
    |false=>
     have he:rfX ihX G F x ps asg body k t n l=some r:=he;simp only[CV];unfold rfX at he;rw[BD]at he;split at he
     ·rename_i f a b h1
      rw[h1];simp only;split at he
      ·cases he
      ·rename_i hb
       rw[hb];simp only;obtain⟨v,n1,l1,q1,q2,q3⟩:=Ii hi (by simp[hn]) he
       rw[List.reverse_cons,<-G7]at q1;have hs:Bd l.reverse=n:=by rw[JT];simp[hn]
       rw[hs,q1];simp only;rw[G1 q2]at q3;split at q3
       ·rename_i t5 ps5 a5 b5 st pd hg
        rw[hg];simp only;split at q3
        ·cases q3
        ·rename_i hst
         rw[hst];simp only[G3];obtain⟨n2,l2,e2,r2,a2⟩:=Hx (β:=XR) q2 (.set n .dead);rw[a2]at q3;have r2:l2.reverse=Br l1.reverse n .dead:=r2;rw[<-r2];split at q3
         ·exact hi _ _ _ _ _ _ e2 q3
         ·cases q3;exact⟨rfl,e2⟩
         ·rename_i e
          simp only;split at q3
          ·rename_i k' hu
           rw[hu];exact hi _ _ _ _ _ _ e2 q3
          ·rename_i hu
           rw[hu];cases q3;exact⟨rfl,e2⟩
       ·cases q3
     ·cases he
   |any t=>cases he
  |ops os=>
   have he:Ly os ihX G F rd k t n l=some r:=he;cases os with
   |nil=>exact hi _ _ _ _ _ _ hn he
   |cons o os=>
    obtain⟨dst,i,guard⟩:=o
    have he:(@Option.rec (Nat×Bool) (fun _=>Option XR) (goX ihX G F rd (.ops os::k) dst i t n l)
     (fun p=>Gl t p.1 fun gv=>gdX ihX G F rd (.ops os::k) dst i p.1 p.2 t n l gv) guard)=some r:=he
    have nx:∀(t:List EV),(fun(v:EV) (h:EH)=>fE v fun v=>Df t dst v fun t=>match isX i with
      |true=>fH h fun h=>ih rd (.ops os::k) t h
      |false=>ih rd (.ops os::k) t h)=fun v h=>ih rd (.ops os::k) (Bl t dst v) h:=by
     intro t
     funext v h
     rw[HI,DV];cases isX i with
     |true=>simp only[G3]
     |false=>rfl
    simp only[CV];cases guard with
    |none=>
     have:=JP hi hn he;rw[<-nx t]at this;exact this
    |some p=>
     obtain⟨g,want⟩:=p;have he:(Gl t g fun gv=>gdX ihX G F rd (.ops os::k) dst i g want t n l gv)=some r:=he
     rw[H6]at he;unfold gdX at he;simp only;split at he
     ·rename_i b h1
      rw[h1];simp only;split at he
      ·rename_i hw
       rw[hw];have:=JP hi hn he;rw[<-nx t]at this;exact this
      ·rename_i hw
       rw[hw];rw[Hu]at he;simp only[DV];exact hi _ _ _ _ _ _ hn he
     ·rename_i h1
      rw[h1];rw[Hu]at he;simp only[DV];exact hi _ _ _ _ _ _ hn he
     ·rename_i b h1
      rw[h1];simp only;split at he
      ·rename_i hw
       rw[hw];rw[Gv]at he;simp only[GT];have:=JP hi hn he;rw[<-nx]at this;exact this
      ·rename_i hw
       rw[hw];rw[Gv,Hu]at he;simp only[GT,DV];exact hi _ _ _ _ _ _ hn he
     ·cases he
  |blk id=>exact hi _ _ _ _ _ _ hn he
  |mark R=>cases he
  |lp c=>exact hi _ _ _ _ _ _ hn he
theorem JX(G:List (List EV))(F:Tab):∀n:Nat,IHX (KT G F n) (Cn kA G F n)
 |0=>fun _ _ _ _ _ _ _ he=>by cases he
 |n+1=>Tk (JX G F n)
noncomputable def Gp(G:List (List EV))(T:Tab)(n f:Nat)(args:List EV):Option EV:=
 match fnX G T (KT G T n) 0 [] f args (fun v n l=>some ⟨[v],n,l,none⟩)with
 |some ⟨v::_,_,_,_⟩=>some v
 |_=>none
theorem L9{G:List (List EV)}{T:Tab}{n f:Nat}{args:List EV}{v:EV}(he:Gp G T n f args=some v):Im G T n f args []=some v:=by
 unfold Gp at he
 split at he
 ·rename_i v1 ts n1 l1 how h1
  cases he;obtain⟨v',n',l',q1,q2,q3⟩:=Ii (JX G T n) (l:=[]) rfl h1;cases q3;unfold Im;simp only[List.reverse_nil]at q1;rw[q1]
 ·cases he
end
end Go.Proofs.YtkjhfefbklcciaaGreatDoor.Em
