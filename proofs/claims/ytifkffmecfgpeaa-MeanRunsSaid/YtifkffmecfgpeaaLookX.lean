/- Contracts of functions: what each answers at every input that its caller may hand it. No condition. -/
import Derived.Test.YtifkffmecfgpeaaLookG
import Derived.Test.YtifkffmecfgpeaaWell8X
namespace Go.Proofs.Ytifkffmecfgpeaa.core
open Go.Gx Go.RowKit Go.ChangeShapes Go.WideShapes Go.ChangeAt
/-! ### Look -/

def lookP (rs : List Ru) (s : List UInt8) : Int := if (wellP rs).2 ≠ 0 then (wellP rs).2 else if (s.length : Int) > 60 then 2 else 0
theorem mlook_is {rs : List Ru} {ga : Option Addr} {gl gc : Nat} {M : Mem} (hg : GrR M rs ga gl gc) (s : List UInt8) (K : Value → Prop) (hK : K (.int .i64 (lookP rs s))) : S_mean_Look ga gl gc s M K := by
  unfold S_mean_Look
  unfold lookP at hK
  refine s_well_Well _ _ _ _ _ (wwell_is hg _ ⟨_, _, rfl, fun h => ?_, fun h => ⟨fun h2 => ?_, fun h2 => ?_⟩⟩)
  · rw [if_pos h] at hK; exact hK
  · rw [if_neg h, if_pos h2] at hK; exact hK
  · rw [if_neg h, if_neg h2] at hK; exact hK
theorem rlook_is {rs : List Ru} {ga : Option Addr} {gl gc : Nat} {M : Mem} (hg : GrR M rs ga gl gc) (s : List UInt8) (K : Value → Prop) (hK : K (.int .i64 (lookP rs s))) : S_chaffref_Look ga gl gc s M K := by
  unfold S_chaffref_Look
  unfold lookP at hK
  refine s_chaffref_Well _ _ _ _ _ (rwell_is hg _ ⟨_, _, rfl, fun h => ?_, fun h => ⟨fun h2 => ?_, fun h2 => ?_⟩⟩)
  · rw [if_pos h] at hK; exact hK
  · rw [if_neg h, if_pos h2] at hK; exact hK
  · rw [if_neg h, if_neg h2] at hK; exact hK
end Go.Proofs.Ytifkffmecfgpeaa.core
