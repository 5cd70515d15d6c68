/- No conditions. -/
import Derived.Test.YtkjhfefbklcciaaGreatDoorX46
import Derived.Test.YtkjhfefbklcciaaGreatDoorX32
set_option linter.unusedVariables false
set_option linter.unusedSimpArgs false
namespace Go.Proofs.YtkjhfefbklcciaaGreatDoor.Em
open Go
noncomputable def G6(G:List (List EV))(T:Tab)(n f:Nat)(args:List EV):Option (EV×EH):=
 match fnX G T (KT G T n) 0 [] f args (fun v n l=>some ⟨[v],n,l,none⟩)with
 |some ⟨v::_,_,l,_⟩=>some (v,l.reverse)
 |_=>none
def ltB(m:Nat):List Nat->Bool
 |[]=>true
 |x::l=>(Nat.ble (x+1) m)&&ltB m l
def ndB:List Nat->Bool
 |[]=>true
 |x::l=> !inL l x&&ndB l
def frB(h:EH):List Nat->Bool
 |[]=>true
 |x::l=>(match Bh h x with | .blk c=>clL c|_=>false)&&frB h l
def Hs:EH->Nat->List Nat
 |[],_=>[]
 | .blk c::l,n=>match clL c with
  |true=>n::Hs l (n+1)
  |false=>Hs l (n+1)
 |_::l,n=>Hs l (n+1)
def mvX(σ fr:List Nat)(x:EV×EH):Option (EV×EH):=
 match ndB σ&&ltB (Bd x.2) σ&&frB x.2 fr with
 |true=>some (mvE (mvG σ fr) (mvZ fr x.2) x.1,mvH σ fr x.2 σ)
 |false=>none
def mvA(x:EV×EH):Option (EV×EH):=mvX [] (Hs x.2 0) x
theorem PG:∀(l:List Nat) (x:Nat),inL l x=false->x∉l
 |[],x,_=>by simp
 |y::l,x,h=>by
  unfold inL at h;split at h
  ·cases h
  ·rename_i hne
   intro hm;rcases List.mem_cons.1 hm with rfl|hm
   ·simp at hne
   ·exact PG l x h hm
theorem L3:∀{l:List Nat},ndB l=true->l.Nodup
 |[],_=>by simp
 |x::l,h=>by
  unfold ndB at h;simp only[Bool.and_eq_true,Bool.not_eq_true']at h;exact List.nodup_cons.2 ⟨PG _ _ h.1,L3 h.2⟩
theorem LP{m:Nat}:∀{l:List Nat},ltB m l=true->∀x∈l,x<m
 |[],_=>by simp
 |y::l,h=>by
  unfold ltB at h;simp only[Bool.and_eq_true]at h;intro x hx;rcases List.mem_cons.1 hx with rfl|hx
  ·have:=Nat.le_of_ble_eq_true h.1;omega
  ·exact LP h.2 x hx
theorem Lm{h:EH}:∀{l:List Nat},frB h l=true->∀x∈l,∃c,Bh h x = .blk c/\clL c=true
 |[],_=>by simp
 |y::l,hl=>by
  unfold frB at hl;simp only[Bool.and_eq_true]at hl;intro x hx;rcases List.mem_cons.1 hx with rfl|hx
  ·have:=hl.1
   split at this
   ·rename_i c hc;exact⟨c,hc,this⟩
   ·cases this
  ·exact Lm hl.2 x hx
variable {P:Program} {G:List (List EV)}
theorem Tri.closedH(hd:Do P G){T:Tab}(hT:T.OK P){n f:Nat}{args:List EV}{x:EV×EH}(he:G6 G T n f args=some x) :
  Tri P G f args [] fun v' h'=>v'=x.1/\h'=x.2:=by
 unfold G6 at he
 split at he
 ·rename_i v1 ts n1 l1 how h1
  cases he;obtain⟨v',n',l',q1,q2,q3⟩:=Ii (JX G T n) (l:=[]) rfl h1;cases q3;simp only[List.reverse_nil]at q1;rw[LN]at q1;exact(IL hT (fun rd k t h s' how hk he=>Rb hd hT n rd k t h s' how hk he) q1).2
 ·cases he
theorem Tri.mvX{f:Nat}{args:List EV}{x y:EV×EH}{σ fr:List Nat}(t:Tri P G f args [] fun v h=>v=x.1/\h=x.2)(he:mvX σ fr x=some y):Tri P G f args [] fun v h=>v=y.1/\h=y.2:=by
 unfold Em.mvX at he
 split at he
 ·rename_i hb
  cases he;simp only[Bool.and_eq_true]at hb;refine Tri.mv t fun v h' ⟨h1,h2⟩=>⟨σ,fr,rfl,⟨L3 hb.1.1,?_,?_⟩,?_,?_⟩
  ·rw[h2];exact LP hb.1.2
  ·rw[h2];exact Lm hb.2
  ·rw[h1,h2]
  ·rw[h2]
 ·cases he
theorem Tri.closedA(hd:Do P G){T:Tab}(hT:T.OK P){n f:Nat}{args:List EV}{V:EV}{H:EH}(he:(G6 G T n f args).bind mvA=some (V,H))(ha:clL args=true)(hV:clE V=true)(h:EH) :
  Tri P G f args h fun v h'=>v=V/\h'=h:=by
 cases h1:G6 G T n f args with
 |none=>rw[h1]at he;cases he
 |some x=>
  rw[h1]at he;have t:=Tri.mvX (Tri.closedH hd hT h1) (show Em.mvX [] (Hs x.2 0) x=some (V,H)from he);exact Tri.litC (φ:=fun v=>v=V) (fun v hv=>by rw[hv];exact hV) ha (t.mono fun v h' hx=>hx.1) h
end Go.Proofs.YtkjhfefbklcciaaGreatDoor.Em
