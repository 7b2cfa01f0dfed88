/- For every input ListSays answers true and leaves its arguments as they were. No condition. -/
import Derived.Test.YtmnilbfhfjdelaaGreatM3
import Derived.Test.YtmnilbfhfjdelaaGreatListSaysT
import Derived.Test.YtmnilbfhfjdelaaGreatM5
namespace Go.Proofs.YtmnilbfhfjdelaaGreat.lawListSays
open Go.Gx Go.RowKit Go.ChangeShapes Go.WideShapes Go.ChangeAt
open core
set_option linter.unusedVariables false
theorem ex_of {H : Type} {enc : TypeId × Value → H} {w : World} : ∀ (n B : Nat) (x : X_api_Expr), In_api_Expr enc w n B x → ∃ e, ExR (HM w) e x := by
 intro n
 induction n using Nat.strongRecOn with
 | _ n ih =>
  intro B x hx
  obtain ⟨b6, h1, h2, h3, h4, h5, h6, h7, _⟩ := hx
  obtain ⟨xs, bs, hsl, hl, hm, hall, _⟩ := open_L_Expr h7
  obtain ⟨es, hes⟩ := All2.choose (R := ExR (HM w)) xs fun y hy => by
   obtain ⟨b, k, hk, hin⟩ := hall.left y hy
   exact ih k hk b y hin
  have hle := hes.length
  obtain ⟨k, s, t, A, l, c⟩ := x
  have : l = es.length := by rw [← hle]; exact hl.symm
  subst this
  exact ⟨.mk k s t es, .mk h1 ⟨h2, h3, h4, h5⟩ h6 hsl hle fun i e x he hx => hes.get' he hx⟩
theorem gr_of {H : Type} {enc : TypeId × Value → H} {w : World} {n B : Nat} {A : Option Addr} {l c : Nat} (h : In_L_Rule enc w n B ⟨A, l, c⟩) : ∃ rs, GrR (HM w) rs A l c := by
 obtain ⟨xs, bs, hsl, hl, hm, hall, _⟩ := open_L_Rule h
 obtain ⟨rs, hrs⟩ := All2.choose (R := RuR (HM w)) xs fun y hy => by
  obtain ⟨b, k, hk, hin⟩ := hall.left y hy
  obtain ⟨b7, h1, h2, h3, h4, h5, h6, h7, h8, _⟩ := hin
  obtain ⟨e, he⟩ := ex_of k _ y.Body ⟨b7, h2, h3, h4, h5, h6, h7, h8, Nat.le_refl _⟩
  exact ⟨⟨y.Name, e⟩, rfl, h1, he⟩
 have := hrs.length
 simp only at hl
 exact ⟨rs, xs, hsl, hrs, by omega⟩
theorem walk : WalkGoal := by
 intro H enc W x n B hx a ha n0 hn0 c n3 B3 hc b hb
 obtain ⟨rs, hg⟩ := gr_of (A := x.a) (l := x.l) (c := x.c) hx
 refine s_chafflaw_ListSays _ _ _ _ _ _ _ _ _ ?_
 unfold S_chafflaw_ListSays
 generalize HM W = M at *
 refine llist_is hg a n0 c b _ (fun he M1 hle => ⟨_, _, _, _, _, rfl, ?_⟩) (fun he M1 A cap hle hsl => ⟨_, _, _, _, _, rfl, ?_⟩)
 ·refine s_chaffref_List _ _ _ _ _ _ _ _ _ (rlist_is (hg.le hle) a n0 c b _ (fun _ M2 hle2 => ⟨_, _, _, _, _, rfl, ?_⟩) fun h => absurd h he)
  refine s_slices_Equal_string _ _ _ _ _ _ _ _ (strs_equal (zs := []) (ws := []) (slv_nil _) (slv_nil _) _ fun v hv => ⟨v, rfl, fun _ => ⟨fun _ => by simp, fun h => absurd ⟨rfl, rfl⟩ h⟩, fun h => absurd (hv.2 rfl) h⟩)
 ·refine s_chaffref_List _ _ _ _ _ _ _ _ _ (rlist_is (hg.le hle) a n0 c b _ (fun h => absurd he h) fun _ M2 A2 cap2 hle2 hsl2 => ⟨_, _, _, _, _, rfl, ?_⟩)
  refine s_slices_Equal_string _ _ _ _ _ _ _ _ (strs_equal (hsl.le hle2) hsl2 _ fun v hv => ⟨v, rfl, fun _ => ⟨fun _ => by simp, fun h => absurd ⟨rfl, rfl⟩ h⟩, fun h => absurd (hv.2 rfl) h⟩)
theorem holds : Rows.ListSaysSaid := top walk
#print axioms holds
end Go.Proofs.YtmnilbfhfjdelaaGreat.lawListSays
