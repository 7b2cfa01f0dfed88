/- For every input GramNodes answers true and leaves its arguments as they were. No condition. -/
import Derived.Test.YtaljnkggjadonaaGramNodesLawG
import Derived.Test.YtaljnkggjadonaaGramNodesT
import Derived.Test.YtaljnkggjadonaaReach2X
namespace Go.Proofs.Ytaljnkggjadonaa.lawGramNodes
open Go.Gx Go.RowKit Go.ChangeShapes Go.WideShapes Go.ChangeAt
open core
/-- What an argument's reading shows. -/
theorem ex_of {H : Type} {enc : TypeId × Value → H} {w : World} : ∀ (n B : Nat) (x : X_api_Expr), In_api_Expr enc w n B x → ∃ e, ExR (HM w) e x := by
  intro n
  induction n using Nat.strongRecOn with
  | _ n ih =>
    intro B x hx
    obtain ⟨b6, h1, h2, h3, h4, h5, h6, h7, _⟩ := hx
    obtain ⟨xs, bs, hsl, hl, hm, hall, _⟩ := open_L_Expr h7
    obtain ⟨es, hes⟩ := All2.choose (R := ExR (HM w)) xs fun y hy => by
      obtain ⟨b, k, hk, hin⟩ := hall.left y hy
      exact ih k hk b y hin
    have hle := hes.length
    obtain ⟨k, s, t, A, l, c⟩ := x
    have : l = es.length := by rw [← hle]; exact hl.symm
    subst this
    exact ⟨.mk k s t es, .mk h1 ⟨h2, h3, h4, h5⟩ h6 hsl hle fun i e x he hx => hes.get' he hx⟩
theorem gr_of {H : Type} {enc : TypeId × Value → H} {w : World} {n B : Nat} {A : Option Addr} {l c : Nat} (h : In_L_Rule enc w n B ⟨A, l, c⟩) : ∃ rs, GrR (HM w) rs A l c := by
  obtain ⟨xs, bs, hsl, hl, hm, hall, _⟩ := open_L_Rule h
  obtain ⟨rs, hrs⟩ := All2.choose (R := RuR (HM w)) xs fun y hy => by
    obtain ⟨b, k, hk, hin⟩ := hall.left y hy
    obtain ⟨b7, h1, h2, h3, h4, h5, h6, h7, h8, _⟩ := hin
    obtain ⟨e, he⟩ := ex_of k _ y.Body ⟨b7, h2, h3, h4, h5, h6, h7, h8, Nat.le_refl _⟩
    exact ⟨⟨y.Name, e⟩, rfl, h1, he⟩
  have := hrs.length
  simp only at hl
  exact ⟨rs, xs, hsl, hrs, by omega⟩


theorem walk : WalkGoal := by
  intro H enc W x n B hx
  obtain ⟨rs, hg⟩ := gr_of (A := x.a) (l := x.l) (c := x.c) hx
  refine s_chafflaw_GramNodes _ _ _ _ _ ?_
  unfold S_chafflaw_GramNodes
  by_cases h0 : gramErr rs = 0
  · have hok := gram_ok h0
    refine s_gram_Nodes _ _ _ _ _ (gnodes_is hg _ (fun h => absurd h0 h) fun _ => ⟨_, _, rfl, ?_⟩)
    refine e_gram_Reach _ _ _ _ _ (reach_is hg _ (fun h => absurd h0 h) fun _ M1 ad cap v hle hsl hvl hvis => ⟨_, _, _, _, rfl, ?_⟩)
    have hg1 := hg.le hle
    refine s_chaffref_Gram _ _ _ _ _ (rgram_is hg1 _ ⟨_, rfl, fun h => absurd h0 h, fun _ => ⟨fun _ => ⟨fun _ => ?_, fun h => absurd rfl h⟩, fun h => absurd rfl h⟩⟩)
    refine s_chaffref_All _ _ _ _ _ (rall_is hok hg1 _ fun M2 ad2 cap2 hle2 => ⟨_, _, _, rfl, fun _ => ?_, fun h => absurd rfl h⟩)
    refine s_chaffref_Reach _ _ _ _ _ (rreach_is hok (hg1.le hle2) _ fun M3 ad3 cap3 v3 hle3 hsl3 hv3l hv30 hshut3 hlow3 => ⟨_, _, _, rfl, ?_⟩)
    refine s_slices_Equal_bool _ _ _ _ _ _ _ _ (bools_equal (hsl.le (hle2.trans hle3)) hsl3 _ ⟨_, rfl, ?_⟩)
    have hshut : Shut rs v := fun j m hj hm => hvis.new j (by unfold wkB; rw [List.getElem?_replicate]; split <;> rfl) hj m hm
    have h1 := hlow3 v hvl hshut hvis.me
    have h2 := hvis.low v3 (by simp [hv3l]) hshut3 hv30 ⟨by simp [hv3l], fun i a b ha _ h => by rw [(List.mem_replicate.1 (List.mem_of_getElem? ha)).2] at h; cases h⟩
    rw [leL.anti bLat h2 h1]; simp
  · refine s_gram_Nodes _ _ _ _ _ (gnodes_is hg _ (fun h => ⟨_, _, rfl, ?_⟩) fun h => absurd h h0)
    refine e_gram_Reach _ _ _ _ _ (reach_is hg _ (fun _ M1 hle => ⟨_, _, _, _, rfl, ?_⟩) fun h => absurd h h0)
    refine s_chaffref_Gram _ _ _ _ _ (rgram_is (hg.le hle) _ ⟨_, rfl, fun _ => ⟨fun _ => ⟨fun _ => ⟨fun _ => rfl, fun h => absurd rfl h⟩, fun h => absurd rfl h⟩, fun h => absurd rfl h⟩, fun h' => absurd h h'⟩)

theorem holds : Rows.GramNodesSaid := top walk
#print axioms holds
end Go.Proofs.Ytaljnkggjadonaa.lawGramNodes
