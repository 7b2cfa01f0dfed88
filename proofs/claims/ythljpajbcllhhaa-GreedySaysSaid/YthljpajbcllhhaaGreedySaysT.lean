/- The outermost frame of GreedySays; printed by program. -/
import Derived.Test.YthljpajbcllhhaaGreedyG
import Derived.Test.YthljpajbcllhhaaGreedySaysLawG
import Derived.Test.YthljpajbcllhhaaM1
namespace Go.Proofs.Ythljpajbcllhhaa.lawGreedySays
open Go.Gx Go.RowKit Go.ChangeShapes Go.WideShapes Go.ChangeAt
set_option linter.unusedVariables false
open core
def In_L_L_int {H : Type} (enc : TypeId × Value → H) (w : World) (n B : Nat) (x : Sl3) : Prop := LeafB enc Try.prog w n B (.sl 36 37) (.slice x.a x.l x.c)
def In_L_int {H : Type} (enc : TypeId × Value → H) (w : World) (n B : Nat) (x : Sl3) : Prop := LeafB enc Try.prog w n B (.sl 37 3) (.slice x.a x.l x.c)
def In_i64 {H : Type} (enc : TypeId × Value → H) (w : World) (n B : Nat) (z : Int) : Prop := (Lit.int .i64 z).wf = true
theorem open_L_int {H : Type} {enc : TypeId × Value → H} {w : World} {n B : Nat} {x : Sl3} (h : In_L_int enc w n B x) : ∃ (xs : List (Int)) (bs : List Nat), SlV (HM w) x.a x.l x.c 1 (cl iC xs) ∧ xs.length = x.l ∧ x.l ≤ maxLen ∧ All2 (fun e b => ∃ k, k < n ∧ In_i64 enc w k b e) xs bs ∧ bs.sum + 1 ≤ B := by
 obtain ⟨A, l, c, xss, bs, e, hsl, hlen, hmax, hall, hsum⟩ := open_slB (v := .slice x.a x.l x.c) (ls := [.int .i64]) 9 1 (by kernel_rfl) (by kernel_rfl) rfl (by decide) h; cases e
 obtain ⟨es, rfl, hes⟩ := typedB (f := iC) (p := fun b e => ∃ k, k < n ∧ In_i64 enc w k b e) xss bs (hall.mono fun cs b ⟨k, hk, hcs⟩ => by
  obtain ⟨_, _, _, _, _, rfl, ⟨_, z, rfl, wz⟩, rfl⟩ := hcs; exact ⟨z, rfl, k, hk, wz⟩)
 exact ⟨es, bs, hsl, by simpa using hlen, hmax, hes, hsum⟩
theorem open_L_L_int {H : Type} {enc : TypeId × Value → H} {w : World} {n B : Nat} {x : Sl3} (h : In_L_L_int enc w n B x) : ∃ (xs : List (Sl3)) (bs : List Nat), SlV (HM w) x.a x.l x.c 1 (cl slC xs) ∧ xs.length = x.l ∧ x.l ≤ maxLen ∧ All2 (fun e b => ∃ k, k < n ∧ In_L_int enc w k b e) xs bs ∧ bs.sum + 1 ≤ B := by
 obtain ⟨A, l, c, xss, bs, e, hsl, hlen, hmax, hall, hsum⟩ := open_slB (v := .slice x.a x.l x.c) (ls := [.sl 37 3]) 9 1 (by kernel_rfl) (by kernel_rfl) rfl (by decide) h; cases e
 obtain ⟨es, rfl, hes⟩ := typedB (f := slC) (p := fun b e => ∃ k, k < n ∧ In_L_int enc w k b e) xss bs (hall.mono fun cs b ⟨k, hk, hcs⟩ => by
  obtain ⟨_, _, _, _, sz, rfl, wz, rfl⟩ := hcs; obtain ⟨A, l, c, rfl, wz⟩ := wz.slice; exact ⟨⟨A, l, c⟩, rfl, k, hk, wz.mono (Nat.le_refl _) (by omega) _ _⟩)
 exact ⟨es, bs, hsl, by simpa using hlen, hmax, hes, hsum⟩
def WalkGoal : Prop := ∀ (H : Type) (enc : TypeId × Value → H) (W : World) (x0 : Sl3) (n0 B0 : Nat) (_ : In_L_L_int enc W n0 B0 x0), CallE Try.prog 5 #[.slice x0.a x0.l x0.c] (HM W) (fun v _ => v = .bool true)
theorem top_own : ownKnob Try.prog.godebug = none := by kernel_rfl
theorem top_laidOut : laidOutB Try.prog = true := by kernel_rfl
set_option maxRecDepth 100000 in
theorem top_lifted (walk : WalkGoal) (os : Os) (started : os.Started) (H : Type) (enc : TypeId × Value → H) :
  ReturnsInHanded {} Try.checked os 5 .any (Rows.greedySaysSpec.pre6 enc Try.prog Try.f5 Rows.greedySaysRow.domain false) (Rows.greedySaysSpec.post enc Try.prog Try.f5 false true false false) := by
 refine returnsInHanded_of_change_sized (C := Try.checked) top_own started (by kernel_rfl) Try.func5
  (ChangeSpec.witness6 (enc := enc) (C := Try.checked) false ⟨#[], #[.slice none 0 0], []⟩ 9 (by kernel_rfl) (by kernel_rfl) (by kernel_rfl) (by kernel_rfl)) ?_
 intro W base args ds gs before hval0 hW hcnd hsz _; have hval : ∀ (j : Nat) t v, Try.f5.params[j]? = some t → args[j]? = some v → Value.okWide Try.prog W .any base t v := hval0; have hW' := hW; obtain ⟨p, q, hA0, hV, rfl, hfz, hnd⟩ := hW; have hA : DataW.TrodAll enc Try.prog W 0 (fun _ => true) true Try.f5.params.toList args.toList ds p := hA0; have hA1 := hA; rw [Try.params5] at hA hval; obtain ⟨v0, vs0, d0, ds0, p0, q0, hargs, rfl, rfl, h0, r0⟩ := trodAll_cons hA; obtain ⟨rfl, rfl, rfl⟩ := trodAll_nil r0
 obtain rfl : args = #[v0] := by cases args; simp_all
 obtain ⟨rfl, rfl⟩ := trodVars_none hV; obtain ⟨A0, l0, c0, f0, rfl, w0⟩ := argSlB Try.underlying36 (hval 0 36 _ rfl rfl) h0; clear hA0 hval0; refine (walk H enc W ⟨A0, l0, c0⟩ f0 _ w0 W (HM.on W)).mono fun e W' ⟨v, he, bel, hv⟩ => ?_; subst he; subst hv; exact ⟨_, rfl, _, _, _, [], _, [], hW', trodAll_mk1 (shut_bool Try.underlying4 _), trodAll_below top_laidOut bel (by kernel_rfl) hA1, rfl, bel.frame _, fun h => by cases h⟩
theorem top (walk : WalkGoal) : Rows.GreedySaysSaid :=
 OpenClaim.holds_of_wide 5 Try.f5 rfl rfl rfl rfl rfl rfl rfl ⟨rfl, rfl, rfl, rfl, rfl⟩ rfl rfl rfl rfl rfl (by kernel_rfl) Try.func5 (by kernel_rfl)
  (of_decide_eq_true (by kernel_rfl)) (by unfold Func.isWrapper; first | (rw [if_pos (by decide +kernel)]; kernel_rfl) | (rw [if_neg (by decide +kernel)]; exact ⟨rfl, rfl⟩))
  (fun os started H enc _ => top_lifted walk os started H enc)
end Go.Proofs.Ythljpajbcllhhaa.lawGreedySays
