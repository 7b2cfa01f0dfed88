/- For every input FirstSays answers true and leaves its arguments as they were. No condition. -/
import Derived.Test.YtaljnkggjadonaaFirstSaysLawG
import Derived.Test.YtaljnkggjadonaaFirstSaysT
import Derived.Test.YtaljnkggjadonaaFirst3X
namespace Go.Proofs.Ytaljnkggjadonaa.lawFirstSays
open Go.Gx Go.RowKit Go.ChangeShapes Go.WideShapes Go.ChangeAt
open core
/-- What an argument's reading shows. -/
theorem ex_of {H : Type} {enc : TypeId × Value → H} {w : World} : ∀ (n B : Nat) (x : X_api_Expr), In_api_Expr enc w n B x → ∃ e, ExR (HM w) e x := by
  intro n
  induction n using Nat.strongRecOn with
  | _ n ih =>
    intro B x hx
    obtain ⟨b6, h1, h2, h3, h4, h5, h6, h7, _⟩ := hx
    obtain ⟨xs, bs, hsl, hl, hm, hall, _⟩ := open_L_Expr h7
    obtain ⟨es, hes⟩ := All2.choose (R := ExR (HM w)) xs fun y hy => by
      obtain ⟨b, k, hk, hin⟩ := hall.left y hy
      exact ih k hk b y hin
    have hle := hes.length
    obtain ⟨k, s, t, A, l, c⟩ := x
    have : l = es.length := by rw [← hle]; exact hl.symm
    subst this
    exact ⟨.mk k s t es, .mk h1 ⟨h2, h3, h4, h5⟩ h6 hsl hle fun i e x he hx => hes.get' he hx⟩
theorem gr_of {H : Type} {enc : TypeId × Value → H} {w : World} {n B : Nat} {A : Option Addr} {l c : Nat} (h : In_L_Rule enc w n B ⟨A, l, c⟩) : ∃ rs, GrR (HM w) rs A l c := by
  obtain ⟨xs, bs, hsl, hl, hm, hall, _⟩ := open_L_Rule h
  obtain ⟨rs, hrs⟩ := All2.choose (R := RuR (HM w)) xs fun y hy => by
    obtain ⟨b, k, hk, hin⟩ := hall.left y hy
    obtain ⟨b7, h1, h2, h3, h4, h5, h6, h7, h8, _⟩ := hin
    obtain ⟨e, he⟩ := ex_of k _ y.Body ⟨b7, h2, h3, h4, h5, h6, h7, h8, Nat.le_refl _⟩
    exact ⟨⟨y.Name, e⟩, rfl, h1, he⟩
  have := hrs.length
  simp only at hl
  exact ⟨rs, xs, hsl, hrs, by omega⟩


theorem walk : WalkGoal := by
  intro H enc W x n B hx
  obtain ⟨rs, hg⟩ := gr_of (A := x.a) (l := x.l) (c := x.c) hx
  refine s_chafflaw_FirstSays _ _ _ _ _ ?_
  unfold S_chafflaw_FirstSays
  refine e_first_First _ _ _ _ _ (first_is hg _ (fun h M' hle => ⟨_, _, _, _, rfl, ?_⟩) fun h M' ad cap hle hsl => ⟨_, _, _, _, rfl, ?_⟩)
  · exact s_chaffref_Gram _ _ _ _ _ (rgram_is (hg.le hle) _ ⟨_, rfl, fun _ => ⟨fun _ => rfl, fun h => absurd rfl h⟩, fun h' => absurd h h'⟩)
  · have hok := gram_ok h
    refine s_chaffref_Gram _ _ _ _ _ (rgram_is (hg.le hle) _ ⟨_, rfl, fun h' => absurd h h', fun _ => ⟨fun _ => ?_, fun h' => absurd rfl h'⟩⟩)
    refine s_chaffref_First _ _ _ _ _ (rfirst_is hok (hg.le hle) _ fun M2 ad2 cap2 hle2 hsl2 => ⟨_, _, _, rfl, ?_⟩)
    exact s_slices_Equal_Set _ _ _ _ _ _ _ _ (sets_equal (hsl.le hle2) hsl2 _ ⟨_, rfl, rfl⟩)

theorem holds : Rows.FirstSaysSaid := top walk
#print axioms holds
end Go.Proofs.Ytaljnkggjadonaa.lawFirstSays
