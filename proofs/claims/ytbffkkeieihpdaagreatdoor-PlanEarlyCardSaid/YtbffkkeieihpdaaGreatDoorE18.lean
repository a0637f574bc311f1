import Derived.Test.YtbffkkeieihpdaaGreatDoorE15
import Derived.Test.YtbffkkeieihpdaaGreatDoorE14
set_option linter.unusedSimpArgs false
set_option linter.unusedVariables false
set_option linter.constructorNameAsVariable false
set_option maxRecDepth 100000
set_option maxHeartbeats 4000000
namespace Go.Proofs.YtbffkkeieihpdaaGreatDoor
open Go Go.Eng
section
section
variable {l:List Int} {x:Nd} {i:Nat}
end
theorem zRx {e:Nat} (h:e<big):IntKind.i64.wrap (((e+1:Nat):Int)-1)=e:=by
 have:((e+1:Nat):Int)-1=e:=by omega
 rw[this];cases e with
 | zero=>rfl
 | succ m=>exact yK (by omega)
end
end Go.Proofs.YtbffkkeieihpdaaGreatDoor
