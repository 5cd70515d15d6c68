/- No conditions. -/
import Derived.Test.YtkjhfefbklcciaaGreatDoorX34
set_option linter.unusedVariables false
set_option linter.unusedSimpArgs false
namespace Go.Proofs.YtkjhfefbklcciaaGreatDoor.Em
open Go
section
variable {P:Program} {G:List (List EV)}
theorem Tri.litC{f:FuncId}{args:List EV}{φ:EV->Prop}(hφ:∀v,φ v->clE v=true)(ha:clL args=true)(t:Tri P G f args [] fun v _=>φ v)(h:EH) :
  Tri P G f args h fun v h'=>φ v/\h'=h:=by
 have t1:Tri P G f args [] fun v h'=>φ v/\h'=[]:=Tri.mv t fun v h' hv=>⟨[],[],rfl,⟨by simp,by simp,by simp⟩,by rw[GF _ _ _ (hφ v hv)];exact hv,rfl⟩
 have t':Tri P G f (mvL (mvG [] []) (mvZ [] h) args) [] fun v h=>φ v/\h=[]:=by rw[BA _ _ _ ha];exact t1
 refine(Tri.frame (h:=h) [] (by simp) t' (.inl rfl)).mono fun v h' ⟨v0,h0,⟨e1,e2⟩,e3,e4⟩=>?_
 subst e2;subst e4
 rw[GF _ _ _ (hφ _ e1)]at e3
 subst e3
 exact⟨e1,rfl⟩
def IsP(p:Prop)(v:EV):Prop:=∃b:Bool,v = .sb b/\(b=true↔p)
theorem IsP.cl{p:Prop}{v:EV}(h:IsP p v):clE v=true:=by obtain⟨b,rfl,_⟩:=h;rfl
theorem Tri.boolC{f:FuncId}{args:List EV}{p:Prop}(ha:clL args=true)(t:Tri P G f args [] fun v _=>∃b:Bool,(v = .lit (.bool b)\/v = .sb b)/\(b=true↔p))(h:EH) :
  Tri P G f args h fun v h'=>IsP p v/\h'=h:=
 Tri.litC (fun v hv=>hv.cl) ha (Tri.up t fun v h' ⟨b,hv,hb⟩=>⟨.sb b,⟨b,rfl,hb⟩,by rcases hv with rfl|rfl;exact Up.sb _;exact Up.refl _⟩) h
theorem Bn{b:Bool}{X:Prop}(h:b=true)(k:X):b=true/\X:=⟨h,k⟩
theorem CallOK.of{f:FuncId}{args:List EV}{h:EH}{R:EV->EH->Prop}(hg:BU P f=true)(t:Tri P G f args h R):CallOK P G f args h R:=.inl ⟨hg,t⟩
def IsN(k:IntKind)(φ:Int->Prop)(v:EV):Prop:=∃n:Int,v = .lit (.int k n)/\φ n
theorem Tri.intC{f:FuncId}{args:List EV}{k:IntKind}{φ:Int->Prop}(ha:clL args=true)(t:Tri P G f args [] fun v _=>IsN k φ v)(h:EH) :
  Tri P G f args h fun v h'=>IsN k φ v/\h'=h:=
 Tri.litC (fun v ⟨n,hv,_⟩=>by rw[hv];rfl) ha t h
end
set_option linter.defProp false
def cO:=@CallOK.of
end Go.Proofs.YtkjhfefbklcciaaGreatDoor.Em
