/- No conditions. -/
import Derived.Test.YtehgpabfgjofhaaGreatDoorX40
set_option linter.unusedVariables false
set_option linter.unusedSimpArgs false
namespace Go.Proofs.YtehgpabfgjofhaaGreatDoor.Em
open Go
theorem EH.ext:∀{h k:EH},Bc h=Bc k->(∀i,i<Bc h->Bh h i=Bh k i)->h=k
 |[],[],_,_=>rfl
 |[],_::_,h,_=>by simp[Bc]at h
 |_::_,[],h,_=>by simp[Bc]at h
 |x::h,y::k,hs,hg=>by
  have h0:=hg 0 (by simp[Bc])
  have:=EH.ext (h:=h) (k:=k) (by simpa[Bc]using hs) fun i hi=>hg (i+1) (by simpa[Bc]using hi)
  rw[this,show x=y from h0]
section
variable {P:Program} {G:List (List EV)}
end
end Go.Proofs.YtehgpabfgjofhaaGreatDoor.Em
