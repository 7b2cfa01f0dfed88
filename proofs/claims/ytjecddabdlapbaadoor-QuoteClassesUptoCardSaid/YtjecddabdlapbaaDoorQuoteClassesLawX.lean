/- For every input QuoteClasses answers true and leaves its arguments as they were. No condition. -/
import Derived.Test.YtjecddabdlapbaaDoorM2
import Derived.Test.YtjecddabdlapbaaDoorQuoteClassesT
import Derived.Test.YtjecddabdlapbaaDoorM3
namespace Go.Proofs.YtjecddabdlapbaaDoor.lawQuoteClasses
open Go.Gx Go.RowKit Go.ChangeShapes Go.WideShapes Go.ChangeAt
open core
set_option linter.unusedVariables false
theorem cellsEq_refl (l : List Int) : cellsEq l l = true := by unfold cellsEq; simp
theorem walk : WalkGoal := by
 intro H enc W s n0 B0 hs t ht hb hL
 have hT := core.tabM_of (Lib.laidMet.reads hL (List.mem_cons_self ..))
 clear hL ht
 obtain ⟨h0, h1, h2, h3, _⟩ := hs
 have hs : core.wfS s := ⟨h0, h1, h2, h3⟩
 refine s_chafflaw_QuoteClasses _ _ _ _ ?_
 refine core.s_quote_Unclass _ _ _ (core.quncl_is (by omega) _ ⟨_, _, _, rfl, core.s_chaffref_Unclass _ _ _ (core.runcl_is (by omega) _ ⟨_, _, _, rfl, ?_⟩)⟩)
 refine core.s_quote_Class _ _ _ (core.qclass_is hs hT _ ⟨_, rfl, core.s_chaffref_Class _ _ _ (core.rclass_is hs _ ⟨_, rfl, fun _ => ⟨fun _ => ⟨fun _ => ?_, fun h => absurd rfl h⟩, fun h => absurd (cellsEq_refl _) h⟩, fun h => absurd rfl h⟩)⟩)
 simp
theorem holds : Rows.QuoteClassesUptoCardSaid := card (top walk)
#print axioms holds
end Go.Proofs.YtjecddabdlapbaaDoor.lawQuoteClasses
