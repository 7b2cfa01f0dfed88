/- Contracts of functions: what each answers at every input that its caller may hand it. No condition. -/
import Derived.Test.YtaljnkggjadonaaWell4X
namespace Go.Proofs.Ytaljnkggjadonaa.core
open Go.Gx Go.RowKit Go.ChangeShapes Go.WideShapes Go.ChangeAt
/-! ### Facts, asked from outside -/

theorem wfacts_is {rs : List Ru} {ga : Option Addr} {gl gc : Nat} {M : Mem} (hg : GrR M rs ga gl gc) (K : Value → Mem → Prop) (h1 : gramErr rs ≠ 0 → ∀ M', M.le M' → K (.tuple #[.slice none 0 0, .int .i64 (gramErr rs)]) M')
    (h2 : gramErr rs = 0 → ∀ M' ad cap kn, M.le M' → SlV M' ad rs.length cap 3 (cl X_api_Facts.cells kn) → Lfp faLe (Fof rs) rs.length kn → K (.tuple #[.slice ad rs.length cap, .int .i64 0]) M') : S_well_Facts ga gl gc M K := by
  unfold S_well_Facts
  refine s_gram_Check _ _ _ _ _ (gcheck_is hg _ ⟨_, rfl, fun h => fun M' hle => h1 h M' hle, fun h => ?_⟩)
  have h0 : gramErr rs = 0 := by simpa using h
  exact s_well_facts _ _ _ _ _ (facts_is (gram_ok h0) hg _ fun M' ad cap kn hle hsl hlfp => ⟨_, _, _, rfl, fun M'' hle' => h2 h0 M'' ad cap kn (hle.trans hle') (hsl.le hle') hlfp⟩)

theorem d4 (f : Fa) : decide (bAnd .i64 (enc f) 4 > 0) = f.Fails := by rw [Bool.eq_iff_iff, decide_eq_true_iff]; exact enc4 f
end Go.Proofs.Ytaljnkggjadonaa.core
