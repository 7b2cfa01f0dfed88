/- For every input WalkAlphas answers true and leaves its arguments as they were. No condition. -/
import Derived.Test.YthljpajbcllhhaaM1
import Derived.Test.YthljpajbcllhhaaWalkAlphasT
import Derived.Test.YthljpajbcllhhaaM2
namespace Go.Proofs.Ythljpajbcllhhaa.lawWalkAlphas
open Go.Gx Go.RowKit Go.ChangeShapes Go.WideShapes Go.ChangeAt
open core
set_option linter.unusedVariables false
theorem walk : WalkGoal := by
 intro H enc W a ha s hs
 refine s_chafflaw_WalkAlphas _ _ _ _ ?_
 unfold S_chafflaw_WalkAlphas
 generalize HM W = M at *
 refine s_walk_Alpha _ _ _ (walpha_is a _ _ ⟨_, rfl, e_chaffref_Alpha _ _ _ (ralpha_is a _ _ _ fun M' _ => ⟨_, rfl, fun _ => ?_, fun hn => absurd rfl hn⟩)⟩)
 exact s_walk_Over _ _ _ _ (wover_is _ ⟨_, rfl, s_chaffref_Over _ _ _ _ (rover_is _ ⟨_, rfl, by simp⟩)⟩)
theorem holds : Rows.WalkAlphasSaid := top walk
#print axioms holds
end Go.Proofs.Ythljpajbcllhhaa.lawWalkAlphas
