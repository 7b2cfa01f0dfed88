/- For every input QuoteDecs answers true and leaves its arguments as they were. No condition. -/
import Derived.Test.YtjecddabdlapbaaDoorM1
import Derived.Test.YtjecddabdlapbaaDoorQuoteDecsT
import Derived.Test.YtjecddabdlapbaaDoorM2
namespace Go.Proofs.YtjecddabdlapbaaDoor.lawQuoteDecs
open Go.Gx Go.RowKit Go.ChangeShapes Go.WideShapes Go.ChangeAt
open core
set_option linter.unusedVariables false
theorem num {W : World} (hL : laidMet Tryd.prog Rows.quoteDecsRow.laid W) : core.NumM (HM W) := by
 refine ⟨?_, ?_, ?_⟩
 ·have h := Lib.laidMet.reads hL (n := "internal/strconv.uint64pow10") (d := Rows.laid_internal_strconv_uint64pow10) (by simp [Rows.quoteDecsRow])
  exact core.pow_of h
 ·exact core.syn_of (Lib.laidMet.reads hL (n := "strconv.ErrSyntax") (d := Rows.laid_strconv_ErrSyntax) (by simp [Rows.quoteDecsRow]))
 ·exact core.rng_of (Lib.laidMet.reads hL (n := "strconv.ErrRange") (d := Rows.laid_strconv_ErrRange) (by simp [Rows.quoteDecsRow]))
theorem walk : WalkGoal := by
 intro H enc W n hn s hs hL
 have hM := num hL
 clear hL
 have hn : InI n := by
  simp only [Lit.wf, IntKind.min, IntKind.max, Bool.and_eq_true] at hn
  simp [IntKind.bits, IntKind.signed] at hn
  unfold InI; omega
 refine s_chafflaw_QuoteDecs _ _ _ _ ?_
 refine core.s_quote_Undec _ _ _ (core.undec_is hM (by omega) _ fun v hv => ?_)
 have two : ∀ v, core.undecV s v → ∃ a b, v = .tuple #[.int .i64 a, .int .i64 b] := fun v h => by
  rcases h with ⟨_, h⟩ | ⟨_, h⟩ <;> exact ⟨_, _, h⟩
 obtain ⟨a, b, rfl⟩ := two _ hv
 refine ⟨a, b, rfl, core.s_chaffref_Undec _ _ _ (core.rundec_is (by omega) _ fun v hv' => ?_)⟩
 obtain rfl := core.undecV.eq hv hv'
 refine ⟨a, b, rfl, core.s_quote_Dec _ _ _ ?_⟩
 refine (core.itoa_is hM hn).mono fun v M' _ ⟨h, _⟩ => ⟨_, h, ⟨_, rfl, ?_⟩⟩
 refine core.s_chaffref_Dec _ _ _ (core.rdec_is hn _ ⟨_, rfl, fun _ => ⟨fun _ => ?_, fun h => absurd rfl h⟩, fun h => absurd rfl h⟩)
 simp
theorem holds : Rows.QuoteDecsCardSaid := card (top walk)
#print axioms holds
end Go.Proofs.YtjecddabdlapbaaDoor.lawQuoteDecs
