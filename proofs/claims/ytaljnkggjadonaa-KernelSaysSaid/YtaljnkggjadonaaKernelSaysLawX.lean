/- For every input KernelSays answers true and leaves its arguments as they were. No condition. -/
import Derived.Test.YtaljnkggjadonaaKernelSaysLawG
import Derived.Test.YtaljnkggjadonaaKernelSaysT
import Derived.Test.YtaljnkggjadonaaKernel2X
namespace Go.Proofs.Ytaljnkggjadonaa.lawKernelSays
open Go.Gx Go.RowKit Go.ChangeShapes Go.WideShapes Go.ChangeAt
open core
/-- What an argument's reading shows. -/
theorem ex_of {H : Type} {enc : TypeId × Value → H} {w : World} : ∀ (n B : Nat) (x : X_api_Expr), In_api_Expr enc w n B x → ∃ e, ExR (HM w) e x := by
  intro n
  induction n using Nat.strongRecOn with
  | _ n ih =>
    intro B x hx
    obtain ⟨b6, h1, h2, h3, h4, h5, h6, h7, _⟩ := hx
    obtain ⟨xs, bs, hsl, hl, hm, hall, _⟩ := open_L_Expr h7
    obtain ⟨es, hes⟩ := All2.choose (R := ExR (HM w)) xs fun y hy => by
      obtain ⟨b, k, hk, hin⟩ := hall.left y hy
      exact ih k hk b y hin
    have hle := hes.length
    obtain ⟨k, s, t, A, l, c⟩ := x
    have : l = es.length := by rw [← hle]; exact hl.symm
    subst this
    exact ⟨.mk k s t es, .mk h1 ⟨h2, h3, h4, h5⟩ h6 hsl hle fun i e x he hx => hes.get' he hx⟩
theorem gr_of {H : Type} {enc : TypeId × Value → H} {w : World} {n B : Nat} {A : Option Addr} {l c : Nat} (h : In_L_Rule enc w n B ⟨A, l, c⟩) : ∃ rs, GrR (HM w) rs A l c := by
  obtain ⟨xs, bs, hsl, hl, hm, hall, _⟩ := open_L_Rule h
  obtain ⟨rs, hrs⟩ := All2.choose (R := RuR (HM w)) xs fun y hy => by
    obtain ⟨b, k, hk, hin⟩ := hall.left y hy
    obtain ⟨b7, h1, h2, h3, h4, h5, h6, h7, h8, _⟩ := hin
    obtain ⟨e, he⟩ := ex_of k _ y.Body ⟨b7, h2, h3, h4, h5, h6, h7, h8, Nat.le_refl _⟩
    exact ⟨⟨y.Name, e⟩, rfl, h1, he⟩
  have := hrs.length
  simp only at hl
  exact ⟨rs, xs, hsl, hrs, by omega⟩


theorem walk : WalkGoal := by
  intro H enc W x n B hx
  obtain ⟨rs, hg⟩ := gr_of (A := x.a) (l := x.l) (c := x.c) hx
  refine s_chafflaw_KernelSays _ _ _ _ _ ?_
  unfold S_chafflaw_KernelSays
  by_cases h0 : kerErr rs = 0
  · refine s_kernel_Kernel _ _ _ _ _ (kker_is hg _ (fun h => absurd h0 h) fun _ M1 A l c hle1 hg1 => ⟨_, _, _, _, rfl, ?_⟩)
    refine s_chaffref_KernelOf _ _ _ _ _ (rkerOf_is (hg.le hle1) _ (fun h => absurd h0 h) fun _ M2 A2 l2 c2 hle2 hg2 => ⟨_, _, _, _, rfl, ?_⟩)
    exact s_chaffref_SameGrammar _ _ _ _ _ _ _ _ (samegr_is (hg1.le hle2) hg2 _ ⟨_, rfl, fun _ => by simp, fun h => absurd rfl h⟩)
  · refine s_kernel_Kernel _ _ _ _ _ (kker_is hg _ (fun _ M1 hle1 => ⟨_, _, _, _, rfl, ?_⟩) fun h => absurd h h0)
    refine s_chaffref_KernelOf _ _ _ _ _ (rkerOf_is (hg.le hle1) _ (fun _ M2 hle2 => ⟨_, _, _, _, rfl, ?_⟩) fun h => absurd h h0)
    exact s_chaffref_SameGrammar _ _ _ _ _ _ _ _ (samegr_is (gr_nil _) (gr_nil _) _ ⟨_, rfl, fun _ => by simp, fun h => absurd rfl h⟩)

theorem holds : Rows.KernelSaysSaid := top walk
#print axioms holds
end Go.Proofs.Ytaljnkggjadonaa.lawKernelSays
