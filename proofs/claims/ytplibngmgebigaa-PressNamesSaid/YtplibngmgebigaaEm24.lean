/- Em24: rules for runs over variables. No conditions beyond those written. -/
import Derived.Test.YtplibngmgebigaaEm23
set_option linter.unusedVariables false
set_option linter.unusedSimpArgs false
namespace Go.Proofs.Ytplibngmgebigaa.Em
open Go

section
variable {P : Program} {G : List (List EV)} {I0 : Imm} {ρ0 : Ren} {w0 : World} {Q : Exit → Act → World → Prop}

theorem runS {A : Ar} (hA : A = stdA) (hd : DrawSound P G) {Fin : St → Prop} (hF : EndsQ G I0 ρ0 w0 Q Fin) (n : Nat) {k : List KI} {st : St} (hk : noOps k) (ok : OK P G I0 ρ0 w0 Q Fin (run A G n k st)) : OKs P G I0 ρ0 w0 Q k st := by
  subst hA
  have := run_sound hd hF n k st hk.good ok
  rwa [hk.okk] at this

theorem runK {A : Ar} (hA : A = stdA) (hd : DrawSound P G) {Fin : St → Prop} (hF : EndsQ G I0 ρ0 w0 Q Fin) (n : Nat) {k : List KI} {st : St} (hk : goodK k) (ok : OK P G I0 ρ0 w0 Q Fin (run A G n k st)) : OKK P G I0 ρ0 w0 Q k st := by
  subst hA
  exact run_sound hd hF n k st hk ok

end
end Go.Proofs.Ytplibngmgebigaa.Em
