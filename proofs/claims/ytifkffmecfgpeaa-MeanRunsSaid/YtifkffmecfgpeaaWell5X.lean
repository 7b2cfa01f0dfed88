/- Contracts of functions: what each answers at every input that its caller may hand it. No condition. -/
import Derived.Test.YtifkffmecfgpeaaWell4X
namespace Go.Proofs.Ytifkffmecfgpeaa.core
open Go.Gx Go.RowKit Go.ChangeShapes Go.WideShapes Go.ChangeAt
/-! ### A bit of the facts -/

end Go.Proofs.Ytifkffmecfgpeaa.core
