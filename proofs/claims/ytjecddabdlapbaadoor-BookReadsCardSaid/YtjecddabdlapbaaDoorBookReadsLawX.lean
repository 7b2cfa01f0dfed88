/- For every input BookReads answers true and leaves its arguments as they were. No condition. -/
import Derived.Test.YtjecddabdlapbaaDoorM2
import Derived.Test.YtjecddabdlapbaaDoorBookReadsT
import Derived.Test.YtjecddabdlapbaaDoorM3
namespace Go.Proofs.YtjecddabdlapbaaDoor.lawBookReads
open Go.Gx Go.RowKit Go.ChangeShapes Go.WideShapes Go.ChangeAt
open core
set_option linter.unusedVariables false
theorem num {W : World} (hL : laidMet Tryd.prog Rows.bookReadsRow.laid W) : core.NumM (HM W) := by
 refine ⟨?_, ?_, ?_⟩
 ·exact core.pow_of (Lib.laidMet.reads hL (n := "internal/strconv.uint64pow10") (d := Rows.laid_internal_strconv_uint64pow10) (by simp [Rows.bookReadsRow]))
 ·exact core.syn_of (Lib.laidMet.reads hL (n := "strconv.ErrSyntax") (d := Rows.laid_strconv_ErrSyntax) (by simp [Rows.bookReadsRow]))
 ·exact core.rng_of (Lib.laidMet.reads hL (n := "strconv.ErrRange") (d := Rows.laid_strconv_ErrRange) (by simp [Rows.bookReadsRow]))
theorem walk : WalkGoal := by
 intro H enc W s hs hL
 have hM := num hL
 clear hL
 refine s_chafflaw_BookReads _ _ _ ?_
 refine core.s_book_Read _ _ _ (core.read_is hM _ fun v M1 hle1 ⟨A, c, hv, h1⟩ => ⟨_, _, _, _, _, hv, ?_⟩)
 refine core.s_chaffref_ReadBook _ _ _ (core.rread_is _ fun v M2 hle2 ⟨B, c', hv', h2⟩ => ⟨_, _, _, _, _, hv', ?_⟩)
 refine s_slices_Equal_Case _ _ _ _ _ _ _ _ (core.cases_equal (h1.le hle2) h2 rfl _ ⟨_, rfl, fun _ => ⟨fun _ => ?_, fun h => absurd rfl h⟩, fun h => absurd rfl h⟩)
 simp
theorem holds : Rows.BookReadsCardSaid := card (top walk)
#print axioms holds
end Go.Proofs.YtjecddabdlapbaaDoor.lawBookReads
