/- Contracts of functions: what each answers at every input that its caller may hand it. No condition. -/
import Derived.Test.YtleaplmdgckmkaaGreatDoorM2
namespace Go.Proofs.YtleaplmdgckmkaaGreatDoor.core
open Go.Gx Go.RowKit Go.ChangeShapes Go.WideShapes Go.ChangeAt
set_option linter.unusedVariables false
def wfS (s:qab):Prop:=(Lit.int .u64 s.w0).wf=true/\(Lit.int .u64 s.w1).wf=true/\(Lit.int .u64 s.w2).wf=true/\(Lit.int .u64 s.w3).wf=true
end Go.Proofs.YtleaplmdgckmkaaGreatDoor.core
