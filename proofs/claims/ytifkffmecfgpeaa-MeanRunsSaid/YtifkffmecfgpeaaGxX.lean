/-
  Calls of functions for which the model itself stands in; over any program.
-/
import Derived.Test.YtifkffmecfgpeaaGxU
import Derived.Laws.Externs
import Derived.Lib.Bytealg
namespace Go.Gx
open Go.RowKit

section
variable {P : Program} {env : Env} {M : Mem} {bs : List Bx} {rs : List Rw} {d : Option Tmp} {ty : TypeId} {pos : String} {af : Array Edge} {gd : Option (Nat × Bool)}

end
end Go.Gx
