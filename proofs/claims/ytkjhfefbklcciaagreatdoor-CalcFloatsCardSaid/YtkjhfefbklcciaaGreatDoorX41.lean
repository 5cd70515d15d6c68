/- No conditions. -/
import Derived.Test.YtkjhfefbklcciaaGreatDoorX40
set_option linter.unusedVariables false
set_option linter.unusedSimpArgs false
namespace Go.Proofs.YtkjhfefbklcciaaGreatDoor.Em
open Go
theorem EH.ext:∀{h k:EH},Bd h=Bd k->(∀i,i<Bd h->Bh h i=Bh k i)->h=k
 |[],[],_,_=>rfl
 |[],_::_,h,_=>by simp[Bd]at h
 |_::_,[],h,_=>by simp[Bd]at h
 |x::h,y::k,hs,hg=>by
  have h0:=hg 0 (by simp[Bd])
  have:=EH.ext (h:=h) (k:=k) (by simpa[Bd]using hs) fun i hi=>hg (i+1) (by simpa[Bd]using hi)
  rw[this,show x=y from h0]
section
variable {P:Program} {G:List (List EV)}
def Grows(P:Program)(G:List (List EV))(f:FuncId)(post:List EV)(l X:List Nat):Prop:=
 Tri P G f (.sl 1 0 0 l.length none::post) [.blk (Bj l)] fun v h'=>v = .sl 1 1 0 X.length none/\h'=[.dead,.blk (Bj X)]
def Begins(P:Program)(G:List (List EV))(f:FuncId)(post:List EV)(X:List Nat):Prop:=
 Tri P G f (.lit (.slice none 0 0)::post) [] fun v h'=>v = .sl 1 0 0 X.length none/\h'=[.blk (Bj X)]
theorem Grows.call{f:FuncId}{post:List EV}{l X:List Nat}{h:EH}{id:Nat}(t:Grows P G f post l X)(hp:clL post=true)(hg:Bh h id = .blk (Bj l)) :
  Tri P G f (.sl 1 id 0 l.length none::post) h fun v h'=>v = .sl 1 (Bd h) 0 X.length none/\h'=Bx (Br h id .dead) (.blk (Bj X)):=by
 have hlt:id<Bd h:=Eh (by rw[hg];simp)
 have ok:Dh [id] [] h:=⟨by simp,by simpa using hlt,by simp⟩
 have ha:mvL (mvG [id] []) (mvZ [] h) (.sl 1 id 0 l.length none::post) = .sl 1 0 0 l.length none::post:=by
  simp only[mvL];rw[BA _ _ _ hp];simp[mvE,mvG,inL,ixL]
 have hh:mvH [id] [] h [id]=[.blk (Bj l)]:=by simp[mvH,hg,mvO,C9,inL]
 have t2:Tri P G f (mvL (mvG [id] []) (mvZ [] h) (.sl 1 id 0 l.length none::post)) (mvH [id] [] h [id]) fun v h'=>v = .sl 1 1 0 X.length none/\h'=[.dead,.blk (Bj X)]:=by rw[ha,hh];exact t
 refine(Tri.sub [id] [] ok (by simp) t2 (.inl rfl)).mono fun v h' ⟨v0,h0,⟨e1,e2⟩,e3,e4⟩=>?_
 subst e1;subst e2;subst e3;subst e4
 refine⟨by simp[mvE,bkG],EH.ext ?_ fun i hi=>?_⟩
 ·simp[Ez,D8,Cs,Bd]
 ·rw[Ez]at hi
  simp only[Bd,List.length_singleton]at hi;rcases HF [id] h [.dead,.blk (Bj X)] i with ⟨h1,h2,h3⟩|⟨j,h1,h2,h3,h4⟩
  ·rw[h3,CZ _ _ _ (by rw[Cs];exact h1),C4 _ _ _ _ (by simpa using h2)]
  ·rw[h4]
   by_cases hi2:i<Bd h
   ·have hj:j=0:=by have:=h2 hi2;simp at this;exact this
    subst hj;simp[bkG]at h1;subst h1;rw[CZ _ _ _ (by rw[Cs];exact hlt),Ds _ _ _ hlt];rfl
   ·have hj:j=1:=by have:=h3 hi2;simp at this;omega
    subst hj;have hie:i=Bd (Br h id .dead):=by rw[Cs];omega
    rw[hie,ES];simp[Bh,mvO,C9]
theorem Grows.callV{f:FuncId}{post:List EV}{l X:List Nat}{h:EH}{id N:Nat}{c:List EV}(t:Grows P G f post l X)(hp:clL post=true)(hN:N=l.length)(hc:c=Bj l)(hg:Bh h id = .blk c) :
  Tri P G f (.sl 1 id 0 N none::post) h fun v h'=>∃M e,v = .sl 1 (Bd h) 0 M none/\h'=Bx (Br h id .dead) (.blk e)/\M=X.length/\e=Bj X:=by
 subst hN;subst hc
 exact(t.call hp hg).mono fun v h' ⟨h1,h2⟩=>⟨_,_,h1,h2,rfl,rfl⟩
theorem Begins.call{f:FuncId}{post:List EV}{X:List Nat}(t:Begins P G f post X)(hp:clL post=true)(h:EH) :
  Tri P G f (.lit (.slice none 0 0)::post) h fun v h'=>v = .sl 1 (Bd h) 0 X.length none/\h'=Bx h (.blk (Bj X)):=by
 have ok:Dh [] [] h:=⟨by simp,by simp,by simp⟩
 have ha:mvL (mvG [] []) (mvZ [] h) (.lit (.slice none 0 0)::post) = .lit (.slice none 0 0)::post:=by
  simp only[mvL];rw[BA _ _ _ hp];simp[mvE]
 have t2:Tri P G f (mvL (mvG [] []) (mvZ [] h) (.lit (.slice none 0 0)::post)) (mvH [] [] h []) fun v h'=>v = .sl 1 0 0 X.length none/\h'=[.blk (Bj X)]:=by rw[ha];exact t
 refine(Tri.sub [] [] ok (by simp) t2 (.inl rfl)).mono fun v h' ⟨v0,h0,⟨e1,e2⟩,e3,e4⟩=>?_
 subst e1;subst e2;subst e3;subst e4
 refine⟨by simp[mvE,bkG],EH.ext ?_ fun i hi=>?_⟩
 ·simp[Ez,D8,Bd]
 ·rw[Ez]at hi
  simp only[Bd,List.length_nil]at hi;rcases HF [] h [.blk (Bj X)] i with ⟨h1,h2,h3⟩|⟨j,h1,h2,h3,h4⟩
  ·rw[h3,CZ _ _ _ h1]
  ·rw[h4]
   by_cases hi2:i<Bd h
   ·have:=h2 hi2;simp at this
   ·have hj:j=0:=by have:=h3 hi2;simp at this;omega
    subst hj;have hie:i=Bd h:=by omega
    rw[hie,ES];simp[Bh,mvO,C9]
theorem Begins.callV{f:FuncId}{post:List EV}{X:List Nat}(t:Begins P G f post X)(hp:clL post=true)(h:EH) :
  Tri P G f (.lit (.slice none 0 0)::post) h fun v h'=>∃M e,v = .sl 1 (Bd h) 0 M none/\h'=Bx h (.blk e)/\M=X.length/\e=Bj X:=
 (t.call hp h).mono fun v h' ⟨h1,h2⟩=>⟨_,_,h1,h2,rfl,rfl⟩
theorem Grows.of{f:FuncId}{post:List EV}{l X:List Nat}(t:Tri P G f (.sl 1 0 0 l.length none::post) [.blk (Bj l)] fun v h'=>∃id,v = .sl 1 id 0 X.length none/\Bh h' id = .blk (Bj X)/\id≠0/\Bh h' 0 = .dead):Grows P G f post l X:=
 Tri.mv t fun v h' ⟨id,e1,e2,e3,e4⟩=>by
  have hlt:id<Bd h':=Eh (by rw[e2];simp)
  refine⟨[0,id],[],rfl,⟨by simp;exact fun h=>e3 h.symm,by simp;omega,by simp⟩,?_,?_⟩
  ·subst e1;simp[mvE,mvG,inL,ixL,fun h=>e3 h,show ¬0=id from fun h=>e3 h.symm]
  ·simp[mvH,e2,e4,mvO,C9,inL]
theorem Begins.of{f:FuncId}{post:List EV}{X:List Nat}(t:Tri P G f (.lit (.slice none 0 0)::post) [] fun v h'=>∃id,v = .sl 1 id 0 X.length none/\Bh h' id = .blk (Bj X)):Begins P G f post X:=
 Tri.mv t fun v h' ⟨id,e1,e2⟩=>by
  have hlt:id<Bd h':=Eh (by rw[e2];simp)
  refine⟨[id],[],rfl,⟨by simp,by simpa using hlt,by simp⟩,?_,?_⟩
  ·subst e1;simp[mvE,mvG,inL,ixL]
  ·simp[mvH,e2,mvO,C9,inL]
end
end Go.Proofs.YtkjhfefbklcciaaGreatDoor.Em
