/- For every input WellFacts answers true and leaves its arguments as they were. No condition. -/
import Derived.Test.YtaljnkggjadonaaWellFactsLawG
import Derived.Test.YtaljnkggjadonaaWellFactsT
import Derived.Test.YtaljnkggjadonaaWell5X
namespace Go.Proofs.Ytaljnkggjadonaa.lawWellFacts
open Go.Gx Go.RowKit Go.ChangeShapes Go.WideShapes Go.ChangeAt
open core
/-- What an argument's reading shows. -/
theorem ex_of {H : Type} {enc : TypeId × Value → H} {w : World} : ∀ (n B : Nat) (x : X_api_Expr), In_api_Expr enc w n B x → ∃ e, ExR (HM w) e x := by
  intro n
  induction n using Nat.strongRecOn with
  | _ n ih =>
    intro B x hx
    obtain ⟨b6, h1, h2, h3, h4, h5, h6, h7, _⟩ := hx
    obtain ⟨xs, bs, hsl, hl, hm, hall, _⟩ := open_L_Expr h7
    obtain ⟨es, hes⟩ := All2.choose (R := ExR (HM w)) xs fun y hy => by
      obtain ⟨b, k, hk, hin⟩ := hall.left y hy
      exact ih k hk b y hin
    have hle := hes.length
    obtain ⟨k, s, t, A, l, c⟩ := x
    have : l = es.length := by rw [← hle]; exact hl.symm
    subst this
    exact ⟨.mk k s t es, .mk h1 ⟨h2, h3, h4, h5⟩ h6 hsl hle fun i e x he hx => hes.get' he hx⟩
theorem gr_of {H : Type} {enc : TypeId × Value → H} {w : World} {n B : Nat} {A : Option Addr} {l c : Nat} (h : In_L_Rule enc w n B ⟨A, l, c⟩) : ∃ rs, GrR (HM w) rs A l c := by
  obtain ⟨xs, bs, hsl, hl, hm, hall, _⟩ := open_L_Rule h
  obtain ⟨rs, hrs⟩ := All2.choose (R := RuR (HM w)) xs fun y hy => by
    obtain ⟨b, k, hk, hin⟩ := hall.left y hy
    obtain ⟨b7, h1, h2, h3, h4, h5, h6, h7, h8, _⟩ := hin
    obtain ⟨e, he⟩ := ex_of k _ y.Body ⟨b7, h2, h3, h4, h5, h6, h7, h8, Nat.le_refl _⟩
    exact ⟨⟨y.Name, e⟩, rfl, h1, he⟩
  have := hrs.length
  simp only at hl
  exact ⟨rs, xs, hsl, hrs, by omega⟩


theorem walk : WalkGoal := by
  intro H enc W x n B hx
  obtain ⟨rs, hg⟩ := gr_of (A := x.a) (l := x.l) (c := x.c) hx
  refine s_chafflaw_WellFacts _ _ _ _ _ ?_
  unfold S_chafflaw_WellFacts
  refine s_well_Facts _ _ _ _ _ (wfacts_is hg _ (fun h M' hle => ⟨_, _, _, _, rfl, ?_⟩) fun h M' ad cap kn hle hsl hlfp => ⟨_, _, _, _, rfl, ?_⟩)
  · exact s_chaffref_Gram _ _ _ _ _ (rgram_is (hg.le hle) _ ⟨_, rfl, fun _ => ⟨fun _ => rfl, fun h => absurd rfl h⟩, fun h' => absurd h h'⟩)
  · have hok := gram_ok h
    refine s_chaffref_Gram _ _ _ _ _ (rgram_is (hg.le hle) _ ⟨_, rfl, fun h' => absurd h h', fun _ => ?_⟩)
    refine s_chaffref_Mays _ _ _ _ _ (mays_is hok (hg.le hle) _ fun M2 ad2 cap2 kn2 hle2 hsl2 hlfp2 => ⟨_, _, _, rfl, ?_⟩)
    have he : kn2 = kn := hlfp2.same faLat hlfp
    subst he
    have hj : S_chafflaw_WellFacts_J1 ad rs.length ad2 rs.length M2 (((rs.length : Nat) : Int) != ((rs.length : Nat) : Int)) (fun v => v = Value.bool true) := by
      unfold S_chafflaw_WellFacts_J1
      refine ⟨fun h => absurd h (by simp), fun _ => ?_⟩
      refine ⟨fun i => 0 ≤ i ∧ i ≤ rs.length, fun i => rs.length - i.toNat, ⟨by omega, by omega⟩, fun i ⟨i0, i1⟩ => ⟨fun hlt => ?_, fun _ => rfl⟩⟩
      have h10 := hok.ten
      obtain ⟨a, ha⟩ := getN (l := kn2) (i := i.toNat) (by have := hlfp.len; omega)
      obtain ⟨b, o, hb, hat⟩ := (hsl.le hle2).at Xf_len hlfp.len ha
      obtain ⟨b2, o2, hb2, hat2⟩ := hsl2.at encC_len hlfp.len ha
      refine ⟨b, o, hb, i0, hlt, a, hat, b2, o2, hb2, i0, hlt, _, hat2, b2, o2, hb2, i0, hlt, _, hat2, b2, o2, hb2, i0, hlt, _, hat2, fun h => absurd ⟨(d1 a).symm, (d2 a).symm, (d4 a).symm⟩ h, fun _ => ⟨by unfold InI; omega, ⟨by omega, by omega⟩, by dsimp only; omega⟩⟩
    exact ⟨fun h => absurd rfl h, fun _ => hj⟩

theorem holds : Rows.WellFactsSaid := top walk
#print axioms holds
end Go.Proofs.Ytaljnkggjadonaa.lawWellFacts
