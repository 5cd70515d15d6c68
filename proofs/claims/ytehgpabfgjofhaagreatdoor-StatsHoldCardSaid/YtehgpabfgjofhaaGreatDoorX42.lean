/- No conditions. -/
import Derived.Test.YtehgpabfgjofhaaGreatDoorX41
set_option linter.unusedVariables false
set_option linter.unusedSimpArgs false
namespace Go.Proofs.YtehgpabfgjofhaaGreatDoor.Em
open Go
theorem Up.pre(n:Nat)(cap:Option Nat)(c:List EV)(k:Nat):Up (.isl n cap c) (.isl n cap (c.take k)):=fun w I ρ cv h=>by
 have hsub:∀(j:Nat) (x:EV),(c.take k)[j]?=some x->c[j]?=some x:=fun j x hx=>by
  rw[List.getElem?_take]at hx;split at hx
  ·exact hx
  ·cases hx
 cases h with
 |isl _ _ _ _ a kk vs h1 h2 h3 h4=>exact .isl _ _ _ _ a kk vs h1 h2 (fun hk=>⟨(h3 hk).1,fun j x hx=>(h3 hk).2 j x (hsub j x hx)⟩) (fun hk j x hx=>h4 hk j x (hsub j x hx))
 |isln=>exact .isln _ _
section
variable {P:Program} {G:List (List EV)}
theorem Tri.step{f:FuncId}{post c:List EV}{h:EH}{id:Nat}{R:EV->List EV->Prop}(hR:∀V c',R V c'->clE V=true/\clL c'=true)
  (t:Tri P G f (.ptr 0 0::post) [.blk c] fun v h'=>∃c',R v c'/\h'=[.blk c']) (hp:clL post=true) (hc:clL c=true) (hg:Bh h id = .blk c) :
  Tri P G f (.ptr id 0::post) h fun v h'=>∃c',R v c'/\h'=BG h id (.blk c'):=by
 have hlt:id<Bc h:=II (by rw[hg];simp)
 have ok:EM [id] [] h:=⟨by simp,by simpa using hlt,by simp⟩
 have ha:mvL (mvG [id] []) (mvZ [] h) (.ptr id 0::post) = .ptr 0 0::post:=by
  simp only[mvL];rw[BR _ _ _ hp];simp[mvE,mvG,inL,ixL]
 have hh:mvH [id] [] h [id]=[.blk c]:=by simp[mvH,hg,mvO,inL,BR _ _ _ hc]
 have t2:Tri P G f (mvL (mvG [id] []) (mvZ [] h) (.ptr id 0::post)) (mvH [id] [] h [id]) fun v h'=>∃c',R v c'/\h'=[.blk c']:=by rw[ha,hh];exact t
 refine(Tri.sub [id] [] ok (by simp) t2 (.inl rfl)).mono fun v h' ⟨v0,h0,⟨c',e1,e2⟩,e3,e4⟩=>?_
 obtain⟨k1,k2⟩:=hR _ _ e1
 subst e2;subst e3;subst e4
 rw[Gq _ _ _ k1]
 refine⟨c',e1,EH.ext ?_ fun i hi=>?_⟩
 ·simp[Je,DJ,Bc]
 ·rw[Je]at hi
  simp only[Bc,List.length_singleton]at hi;rcases KB [id] h [.blk c'] i with ⟨h1,h2,h3⟩|⟨j,h1,h2,h3,h4⟩
  ·rw[h3,Ea _ _ _ _ (by simpa using h2)]
  ·rw[h4]
   have hi2:i<Bc h:=by omega
   have hj:j=0:=by have:=h2 hi2;simp at this;exact this
   subst hj;simp[bkG]at h1;subst h1;rw[Gf _ _ _ hlt];simp[Bh,mvO,BR _ _ _ k2]
end
end Go.Proofs.YtehgpabfgjofhaaGreatDoor.Em
