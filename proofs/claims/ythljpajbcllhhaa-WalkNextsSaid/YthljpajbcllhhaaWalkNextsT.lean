/- The outermost frame of WalkNexts; printed by program. -/
import Derived.Test.YthljpajbcllhhaaAlphaG
import Derived.Test.YthljpajbcllhhaaM2
import Derived.Test.YthljpajbcllhhaaM1
namespace Go.Proofs.Ythljpajbcllhhaa.lawWalkNexts
open Go.Gx Go.RowKit Go.ChangeShapes Go.WideShapes Go.ChangeAt
set_option linter.unusedVariables false
open core
def WalkGoal : Prop := ∀ (H : Type) (enc : TypeId × Value → H) (W : World) (x0 : List UInt8) (_ : x0.length ≤ 140737488351232) (x1 : List UInt8) (_ : x1.length ≤ 140737488351232) (x2 : Int) (_ : (Lit.int .i64 x2).wf = true), CallE Try.prog 7 #[.string (mkS x0), .string (mkS x1), .int .i64 x2] (HM W) (fun v _ => v = .bool true)
theorem top_own : ownKnob Try.prog.godebug = none := by kernel_rfl
theorem top_laidOut : laidOutB Try.prog = true := by kernel_rfl
set_option maxRecDepth 100000 in
theorem top_lifted (walk : WalkGoal) (os : Os) (started : os.Started) (H : Type) (enc : TypeId × Value → H) :
  ReturnsInHanded {} Try.checked os 7 .any (Rows.walkNextsSpec.pre6 enc Try.prog Try.f7 Rows.walkNextsRow.domain false) (Rows.walkNextsSpec.post enc Try.prog Try.f7 false true false false) := by
 refine returnsInHanded_of_change_sized (C := Try.checked) top_own started (by kernel_rfl) Try.func7
  (ChangeSpec.witness6 (enc := enc) (C := Try.checked) false ⟨#[], #[.string (mkS []), .string (mkS []), .int .i64 0], []⟩ 9 (by kernel_rfl) (by kernel_rfl) (by kernel_rfl) (by kernel_rfl)) ?_
 intro W base args ds gs before hval0 hW hcnd hsz _; have hval : ∀ (j : Nat) t v, Try.f7.params[j]? = some t → args[j]? = some v → Value.okWide Try.prog W .any base t v := hval0; have hW' := hW; obtain ⟨p, q, hA0, hV, rfl, hfz, hnd⟩ := hW; have hA : DataW.TrodAll enc Try.prog W 0 (fun _ => true) true Try.f7.params.toList args.toList ds p := hA0; have hA1 := hA; rw [Try.params7] at hA hval; obtain ⟨v0, vs0, d0, ds0, p0, q0, hargs, rfl, rfl, h0, r0⟩ := trodAll_cons hA; obtain ⟨v1, vs1, d1, ds1, p1, q1, rfl, rfl, rfl, h1, r1⟩ := trodAll_cons r0; obtain ⟨v2, vs2, d2, ds2, p2, q2, rfl, rfl, rfl, h2, r2⟩ := trodAll_cons r1; obtain ⟨rfl, rfl, rfl⟩ := trodAll_nil r2
 obtain rfl : args = #[v0, v1, v2] := by cases args; simp_all
 obtain ⟨rfl, rfl⟩ := trodVars_none hV; obtain ⟨s0, rfl, rfl, w0⟩ := argStrB Try.underlying9 (hval 0 9 _ rfl rfl) h0; have y0 : s0.length ≤ 140737488351232 := sized_string hsz (j := 0) (t := 9) (by kernel_rfl) rfl; obtain ⟨s1, rfl, rfl, w1⟩ := argStrB Try.underlying9 (hval 1 9 _ rfl rfl) h1; have y1 : s1.length ≤ 140737488351232 := sized_string hsz (j := 1) (t := 9) (by kernel_rfl) rfl; obtain ⟨z2, rfl, w2⟩ := argInt Try.underlying3 (hval 2 3 _ rfl rfl) h2; clear hA0 hval0; refine (walk H enc W s0 y0 s1 y1 z2 w2 W (HM.on W)).mono fun e W' ⟨v, he, bel, hv⟩ => ?_; subst he; subst hv; exact ⟨_, rfl, _, _, _, [], _, [], hW', trodAll_mk1 (shut_bool Try.underlying4 _), trodAll_below top_laidOut bel (by kernel_rfl) hA1, rfl, bel.frame _, fun h => by cases h⟩
theorem top (walk : WalkGoal) : Rows.WalkNextsSaid :=
 OpenClaim.holds_of_wide 7 Try.f7 rfl rfl rfl rfl rfl rfl rfl ⟨rfl, rfl, rfl, rfl, rfl⟩ rfl rfl rfl rfl rfl (by kernel_rfl) Try.func7 (by kernel_rfl)
  (of_decide_eq_true (by kernel_rfl)) (by unfold Func.isWrapper; first | (rw [if_pos (by decide +kernel)]; kernel_rfl) | (rw [if_neg (by decide +kernel)]; exact ⟨rfl, rfl⟩))
  (fun os started H enc _ => top_lifted walk os started H enc)
end Go.Proofs.Ythljpajbcllhhaa.lawWalkNexts
