/- For every input PlaceBacks answers true and leaves its arguments as they were. No condition. -/
import Derived.Test.YtjecddabdlapbaaDoorM2
import Derived.Test.YtjecddabdlapbaaDoorPlaceBacksT
import Derived.Test.YtjecddabdlapbaaDoorM3
namespace Go.Proofs.YtjecddabdlapbaaDoor.lawPlaceBacks
open Go.Gx Go.RowKit Go.ChangeShapes Go.WideShapes Go.ChangeAt
open core
set_option linter.unusedVariables false
theorem walk : WalkGoal := by
 intro H enc W s hs p n0 B0 hp hb hL
 have hT := core.tabU_of (Lib.laidMet.reads hL (List.mem_cons_of_mem _ (List.mem_cons_self ..)))
 have hA := core.accM_of (Lib.laidMet.reads hL (List.mem_cons_self ..))
 clear hL hs hp
 refine s_chafflaw_PlaceBacks _ _ _ _ ?_
 refine core.s_place_Back _ _ _ _ (core.back_is (by omega) _ hT hA _ ⟨_, _, rfl, ?_⟩)
 refine core.s_chaffref_Place _ _ _ _ (core.rplace_is (by omega) _ _ ⟨_, _, rfl, fun _ => ?_, fun h => absurd rfl h⟩)
 simp
theorem holds : Rows.PlaceBacksUptoCardSaid := card (top walk)
#print axioms holds
end Go.Proofs.YtjecddabdlapbaaDoor.lawPlaceBacks
