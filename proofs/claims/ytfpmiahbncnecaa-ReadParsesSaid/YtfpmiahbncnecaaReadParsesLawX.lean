/- For every input ReadParses answers true and leaves its arguments as they were. No condition. -/
import Derived.Test.YtfpmiahbncnecaaM3
import Derived.Test.YtfpmiahbncnecaaReadParsesT
import Derived.Test.YtfpmiahbncnecaaM4
namespace Go.Proofs.Ytfpmiahbncnecaa.lawReadParses
open Go.Gx Go.RowKit Go.ChangeShapes Go.WideShapes Go.ChangeAt
open core
set_option linter.unusedVariables false
theorem walk : WalkGoal := by
 intro H enc W s hs
 obtain ⟨e, n, x, hP⟩ := core.parse_ex s
 refine s_chafflaw_ReadParses _ _ _ ?_
 refine core.s_read_Parse _ _ _ (core.cparse_all hP _ fun M5 a _ ha => ⟨a, _, _, rfl, core.s_chaffref_Parse _ _ _ (core.rparse_all hP _ fun M10 b h10 hb => ⟨b, _, _, rfl, ?_⟩)⟩)
 refine (core.s_chaffref_Same _ _ _ _ (core.same_is _ e (Nat.lt_succ_self _) a b M10 (ha.le h10) hb)).mono fun v _ _ hv => ⟨true, hv, fun _ => ⟨fun _ => ?_, fun h => absurd rfl h⟩, fun h => absurd rfl h⟩
 simp
theorem holds : Rows.ReadParsesSaid := top walk
#print axioms holds
end Go.Proofs.Ytfpmiahbncnecaa.lawReadParses
