/- The outermost frame of CodeRuns; printed by program. -/
import Derived.Test.YtdlfhmdojbejkaaCodeRunsG
namespace Go.Proofs.Ytdlfhmdojbejkaa.lawCodeRuns
open Go.Gx Go.RowKit Go.ChangeShapes Go.WideShapes Go.ChangeAt
def In_L_Inst {H : Type} (enc : TypeId × Value → H) (w : World) (n : Nat) (x : Sl3) : Prop := LeafR enc Try.prog w n (.sl 36 95) (.slice x.a x.l x.c)
def In_i64 {H : Type} (enc : TypeId × Value → H) (w : World) (n : Nat) (z : Int) : Prop := (Lit.int .i64 z).wf = true
def In_u64 {H : Type} (enc : TypeId × Value → H) (w : World) (n : Nat) (z : Int) : Prop := (Lit.int .u64 z).wf = true
def In_str {H : Type} (enc : TypeId × Value → H) (w : World) (n : Nat) (z : List UInt8) : Prop := z.length ≤ maxLen
def In_api_Inst {H : Type} (enc : TypeId × Value → H) (w : World) (n : Nat) (x : X_api_Inst) : Prop := (Lit.int .i64 x.Op).wf = true ∧ (Lit.int .i64 x.N).wf = true ∧ (Lit.int .u64 x.Set.w0).wf = true ∧ (Lit.int .u64 x.Set.w1).wf = true ∧ (Lit.int .u64 x.Set.w2).wf = true ∧ (Lit.int .u64 x.Set.w3).wf = true
abbrev lv_api_Inst : List Leaf := [.int .i64, .int .i64, .int .u64, .int .u64, .int .u64, .int .u64]
theorem mk_api_Inst {H : Type} {enc : TypeId × Value → H} {w : World} {n : Nat} {cs : List Value} (h : All2 (LeafR enc Try.prog w n) lv_api_Inst cs) : ∃ x : X_api_Inst, cs = x.cells ∧ In_api_Inst enc w n x := by
  obtain ⟨_, _, rfl, ⟨z0, rfl, w0⟩, _, _, rfl, ⟨z1, rfl, w1⟩, _, _, rfl, ⟨z2, rfl, w2⟩, _, _, rfl, ⟨z3, rfl, w3⟩, _, _, rfl, ⟨z4, rfl, w4⟩, _, _, rfl, ⟨z5, rfl, w5⟩, rfl⟩ := h
  exact ⟨⟨z0, z1, ⟨z2, z3, z4, z5⟩⟩, rfl, w0, w1, w2, w3, w4, w5⟩
theorem open_L_Inst {H : Type} {enc : TypeId × Value → H} {w : World} {n : Nat} {x : Sl3} (h : In_L_Inst enc w n x) : ∃ xs : List (X_api_Inst), SlV (HM w) x.a x.l x.c 6 (cl X_api_Inst.cells xs) ∧ xs.length = x.l ∧ x.l ≤ maxLen ∧ ∀ e ∈ xs, ∃ k, k < n ∧ In_api_Inst enc w k e := by
  obtain ⟨A, l, c, xss, e, hsl, hlen, hmax, hall⟩ := open_sl (v := .slice x.a x.l x.c) (ls := lv_api_Inst) 9 6 (by kernel_rfl) (by kernel_rfl) rfl (by decide) h
  cases e
  have : ∀ cs ∈ xss, ∃ e, cs = X_api_Inst.cells e ∧ ∃ k, k < n ∧ In_api_Inst enc w k e := fun cs hcs => by
    obtain ⟨k, hk, hcs⟩ := hall cs hcs
    have : ∃ k, k < n ∧ ∃ e, cs = X_api_Inst.cells e ∧ In_api_Inst enc w k e := by
      exact ⟨k, hk, mk_api_Inst hcs⟩
    obtain ⟨k, hk, e, he, hi⟩ := this
    exact ⟨e, he, k, hk, hi⟩
  obtain ⟨es, rfl, hel, hes⟩ := typedP xss this
  exact ⟨es, hsl, by omega, hmax, hes⟩
def WalkGoal : Prop := ∀ (H : Type) (enc : TypeId × Value → H) (W : World) (x0 : Sl3) (n0 : Nat) (_ : In_L_Inst enc W n0 x0) (x1 : List UInt8) (_ : x1.length ≤ maxLen) (x2 : Int) (_ : (Lit.int .i64 x2).wf = true), CallE Try.prog 11 #[.slice x0.a x0.l x0.c, .string (mkS x1), .int .i64 x2] (HM W) (fun v _ => v = .bool true)
theorem top_own : ownKnob Try.prog.godebug = none := by kernel_rfl
theorem top_laidOut : laidOutB Try.prog = true := by kernel_rfl
set_option linter.unusedVariables false in
set_option maxRecDepth 100000 in
theorem top_lifted (walk : WalkGoal) (os : Os) (started : os.Started) (H : Type) (enc : TypeId × Value → H) :
    ReturnsInHanded {} Try.checked os 11 .any (Rows.codeRunsSpec.pre6 enc Try.prog Try.f11 Rows.codeRunsRow.domain false) (Rows.codeRunsSpec.post enc Try.prog Try.f11 false true false false) := by
  refine returnsInHanded_of_change (C := Try.checked) top_own started (by kernel_rfl) Try.func11
    (ChangeSpec.witness6 (enc := enc) (C := Try.checked) false ⟨#[], #[.slice none 0 0, .string (mkS []), .int .i64 0], []⟩ 9 (by kernel_rfl) (by kernel_rfl) (by kernel_rfl) (by kernel_rfl)) ?_
  intro W base args ds gs before hval0 hW hcnd _
  have hval : ∀ (j : Nat) t v, Try.f11.params[j]? = some t → args[j]? = some v → Value.okWide Try.prog W .any base t v := hval0
  have hW' := hW
  obtain ⟨p, q, hA0, hV, rfl, hfz, hnd⟩ := hW
  have hA : DataW.TrodAll enc Try.prog W 0 (fun _ => true) true Try.f11.params.toList args.toList ds p := hA0
  have hA1 := hA
  rw [Try.params11] at hA hval
  obtain ⟨v0, vs0, d0, ds0, p0, q0, hargs, rfl, rfl, h0, r0⟩ := trodAll_cons hA
  obtain ⟨v1, vs1, d1, ds1, p1, q1, rfl, rfl, rfl, h1, r1⟩ := trodAll_cons r0
  obtain ⟨v2, vs2, d2, ds2, p2, q2, rfl, rfl, rfl, h2, r2⟩ := trodAll_cons r1
  obtain ⟨rfl, rfl, rfl⟩ := trodAll_nil r2
  obtain rfl : args = #[v0, v1, v2] := by cases args; simp_all
  obtain ⟨rfl, rfl⟩ := trodVars_none hV
  obtain ⟨A0, l0, c0, f0, rfl, w0⟩ := argSl Try.underlying36 (hval 0 36 _ rfl rfl) h0
  obtain ⟨s1, rfl, w1⟩ := argStr Try.underlying9 (hval 1 9 _ rfl rfl) h1
  obtain ⟨z2, rfl, w2⟩ := argInt Try.underlying3 (hval 2 3 _ rfl rfl) h2
  clear hA0 hval0
  refine (walk H enc W ⟨A0, l0, c0⟩ f0 w0 s1 w1 z2 w2 W (HM.on W)).mono fun e W' ⟨v, he, bel, hv⟩ => ?_
  subst he
  subst hv
  exact ⟨_, rfl, _, _, _, [], _, [], hW', trodAll_mk1 (shut_bool Try.underlying4 _), trodAll_below top_laidOut bel (by kernel_rfl) hA1, rfl, bel.frame _, fun h => by cases h⟩
theorem top (walk : WalkGoal) : Rows.CodeRunsSaid :=
  OpenClaim.holds_of_wide 11 Try.f11 rfl rfl rfl rfl rfl rfl rfl ⟨rfl, rfl, rfl, rfl, rfl⟩ rfl rfl rfl rfl rfl (by kernel_rfl) Try.func11 (by kernel_rfl)
    (of_decide_eq_true (by kernel_rfl)) (by unfold Func.isWrapper; first | (rw [if_pos (by decide +kernel)]; kernel_rfl) | (rw [if_neg (by decide +kernel)]; exact ⟨rfl, rfl⟩))
    (fun os started H enc _ => top_lifted walk os started H enc)
end Go.Proofs.Ytdlfhmdojbejkaa.lawCodeRuns
