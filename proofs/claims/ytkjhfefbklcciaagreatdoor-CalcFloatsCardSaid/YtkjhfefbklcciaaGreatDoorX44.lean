/- No conditions. -/
import Derived.Test.YtkjhfefbklcciaaGreatDoorX43
set_option linter.unusedVariables false
set_option linter.unusedSimpArgs false
namespace Go.Proofs.YtkjhfefbklcciaaGreatDoor.Em
open Go
section
variable {P:Program} {G:List (List EV)}
theorem Ny(g:Nat->Option Nat)(z:Nat->Option (List EV)):∀l m:List EV,mvL g z (l++m)=mvL g z l++mvL g z m
 |[],m=>rfl
 |x::l,m=>by simp[mvL,Ny g z l m]
theorem Tri.stepA{f:FuncId}{pre post c:List EV}{h:EH}{id:Nat}{R:EV->List EV->Prop}(hR:∀V c',R V c'->clE V=true/\clL c'=true)
  (t:Tri P G f (pre ++ .ptr 0 0::post) [.blk c] fun v h'=>∃c',R v c'/\h'=[.blk c']) (hq:clL pre=true) (hp:clL post=true) (hc:clL c=true) (hg:Bh h id = .blk c) :
  Tri P G f (pre ++ .ptr id 0::post) h fun v h'=>∃c',R v c'/\h'=Br h id (.blk c'):=by
 have hlt:id<Bd h:=Eh (by rw[hg];simp)
 have ok:Dh [id] [] h:=⟨by simp,by simpa using hlt,by simp⟩
 have ha:mvL (mvG [id] []) (mvZ [] h) (pre ++ .ptr id 0::post)=pre ++ .ptr 0 0::post:=by
  rw[Ny,BA _ _ _ hq];simp only[mvL];rw[BA _ _ _ hp];simp[mvE,mvG,inL,ixL]
 have hh:mvH [id] [] h [id]=[.blk c]:=by simp[mvH,hg,mvO,inL,BA _ _ _ hc]
 have t2:Tri P G f (mvL (mvG [id] []) (mvZ [] h) (pre ++ .ptr id 0::post)) (mvH [id] [] h [id]) fun v h'=>∃c',R v c'/\h'=[.blk c']:=by rw[ha,hh];exact t
 refine(Tri.sub [id] [] ok (by simp) t2 (.inl rfl)).mono fun v h' ⟨v0,h0,⟨c',e1,e2⟩,e3,e4⟩=>?_
 obtain⟨k1,k2⟩:=hR _ _ e1
 subst e2;subst e3;subst e4
 rw[GF _ _ _ k1]
 refine⟨c',e1,EH.ext ?_ fun i hi=>?_⟩
 ·simp[Ez,Cs,Bd]
 ·rw[Ez]at hi
  simp only[Bd,List.length_singleton]at hi;rcases HF [id] h [.blk c'] i with ⟨h1,h2,h3⟩|⟨j,h1,h2,h3,h4⟩
  ·rw[h3,C4 _ _ _ _ (by simpa using h2)]
  ·rw[h4]
   have hi2:i<Bd h:=by omega
   have hj:j=0:=by have:=h2 hi2;simp at this;exact this
   subst hj;simp[bkG]at h1;subst h1;rw[Ds _ _ _ hlt];simp[Bh,mvO,BA _ _ _ k2]
end
end Go.Proofs.YtkjhfefbklcciaaGreatDoor.Em
