/- For every input GramReads answers true and leaves its arguments as they were. No condition. -/
import Derived.Test.YtfpmiahbncnecaaM3
import Derived.Test.YtfpmiahbncnecaaGramReadsT
import Derived.Test.YtfpmiahbncnecaaM5
namespace Go.Proofs.Ytfpmiahbncnecaa.lawGramReads
open Go.Gx Go.RowKit Go.ChangeShapes Go.WideShapes Go.ChangeAt
open core
set_option linter.unusedVariables false
theorem walk : WalkGoal := by
 intro H enc W s hs
 obtain ⟨rs, n, x, hP⟩ := core.read_ex s
 refine s_chafflaw_GramReads _ _ _ ?_
 refine core.s_gram_Read _ _ _ (core.cread_all hP _ fun M5 A c _ ha => ⟨A, _, c, _, _, rfl, core.s_chaffref_Read _ _ _ (core.rread_all hP _ fun M10 B d h10 hb => ⟨B, _, d, _, _, rfl, ?_⟩)⟩)
 refine (core.s_chaffref_SameGrammar _ _ _ _ _ _ _ _ (core.same_gr (ha.le h10) hb)).mono fun v _ _ hv => ⟨true, hv, fun _ => ⟨fun _ => ?_, fun h => absurd rfl h⟩, fun h => absurd rfl h⟩
 simp
theorem holds : Rows.GramReadsSaid := top walk
#print axioms holds
end Go.Proofs.Ytfpmiahbncnecaa.lawGramReads
