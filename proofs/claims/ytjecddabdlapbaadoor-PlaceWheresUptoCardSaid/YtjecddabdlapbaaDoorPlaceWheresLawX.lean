/- For every input PlaceWheres answers true and leaves its arguments as they were. No condition. -/
import Derived.Test.YtjecddabdlapbaaDoorM2
import Derived.Test.YtjecddabdlapbaaDoorPlaceWheresT
import Derived.Test.YtjecddabdlapbaaDoorM3
namespace Go.Proofs.YtjecddabdlapbaaDoor.lawPlaceWheres
open Go.Gx Go.RowKit Go.ChangeShapes Go.WideShapes Go.ChangeAt
open core
set_option linter.unusedVariables false
theorem walk : WalkGoal := by
 intro H enc W s hs at_ wat hb hL
 clear hL hs
 refine s_chafflaw_PlaceWheres _ _ _ _ ?_
 refine core.e_place_Where _ _ _ _ (core.where_is (by omega) _ _ ⟨_, _, rfl, ?_⟩)
 refine core.s_chaffref_Pos _ _ _ _ (core.pos_is (by omega) _ _ ⟨_, _, rfl, fun _ => ?_, fun h => absurd ⟨rfl, rfl⟩ h⟩)
 simp
theorem holds : Rows.PlaceWheresUptoCardSaid := card (top walk)
#print axioms holds
end Go.Proofs.YtjecddabdlapbaaDoor.lawPlaceWheres
