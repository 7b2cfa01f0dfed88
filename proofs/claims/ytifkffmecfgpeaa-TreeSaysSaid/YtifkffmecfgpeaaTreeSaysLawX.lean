/- For every input TreeSays answers true and leaves its arguments as they were. No condition. -/
import Derived.Test.YtifkffmecfgpeaaTreeSaysLawG
import Derived.Test.YtifkffmecfgpeaaTreeSaysT
import Derived.Test.YtifkffmecfgpeaaM4
namespace Go.Proofs.Ytifkffmecfgpeaa.lawTreeSays
open Go.Gx Go.RowKit Go.ChangeShapes Go.WideShapes Go.ChangeAt
open core
set_option linter.unusedVariables false
theorem ex_of {H : Type} {enc : TypeId × Value → H} {w : World} : ∀ (n B : Nat) (x : X_api_Expr), In_api_Expr enc w n B x → ∃ e, ExR (HM w) e x := by
 intro n
 induction n using Nat.strongRecOn with
 | _ n ih =>
  intro B x hx
  obtain ⟨b6, h1, h2, h3, h4, h5, h6, h7, _⟩ := hx
  obtain ⟨xs, bs, hsl, hl, hm, hall, _⟩ := open_L_Expr h7
  obtain ⟨es, hes⟩ := All2.choose (R := ExR (HM w)) xs fun y hy => by
   obtain ⟨b, k, hk, hin⟩ := hall.left y hy
   exact ih k hk b y hin
  have hle := hes.length
  obtain ⟨k, s, t, A, l, c⟩ := x
  have : l = es.length := by rw [← hle]; exact hl.symm
  subst this
  exact ⟨.mk k s t es, .mk h1 ⟨h2, h3, h4, h5⟩ h6 hsl hle fun i e x he hx => hes.get' he hx⟩
theorem gr_of {H : Type} {enc : TypeId × Value → H} {w : World} {n B : Nat} {A : Option Addr} {l c : Nat} (h : In_L_Rule enc w n B ⟨A, l, c⟩) : ∃ rs, GrR (HM w) rs A l c := by
 obtain ⟨xs, bs, hsl, hl, hm, hall, _⟩ := open_L_Rule h
 obtain ⟨rs, hrs⟩ := All2.choose (R := RuR (HM w)) xs fun y hy => by
  obtain ⟨b, k, hk, hin⟩ := hall.left y hy
  obtain ⟨b7, h1, h2, h3, h4, h5, h6, h7, h8, _⟩ := hin
  obtain ⟨e, he⟩ := ex_of k _ y.Body ⟨b7, h2, h3, h4, h5, h6, h7, h8, Nat.le_refl _⟩
  exact ⟨⟨y.Name, e⟩, rfl, h1, he⟩
 have := hrs.length
 simp only at hl
 exact ⟨rs, xs, hsl, hrs, by omega⟩
theorem walk : WalkGoal := by
 intro H enc W x n B hx s hs
 obtain ⟨rs, hg⟩ := gr_of (A := x.a) (l := x.l) (c := x.c) hx
 refine s_chafflaw_TreeSays _ _ _ _ _ _ ?_
 unfold S_chafflaw_TreeSays
 generalize HM W = M at *
 have zero : ∀ M, core.TrR M (.mk 0 0 0 []) (X_api_Tree.mk 0 0 0 none 0 0) := fun M => .mk (M := M) (c := 0) (xs := []) ⟨rfl, Nat.le_refl _, by decide, fun h => by simp at h⟩ rfl fun i k x h => by simp at h
 have zz : ∀ M, CallE Try.prog 44 #[(X_api_Tree.mk 0 0 0 none 0 0).val, (X_api_Tree.mk 0 0 0 none 0 0).val] M (fun v _ => ∃ b : Bool, v = .bool b ∧ Value.bool b = .bool true) := fun M => s_chaffref_SameTree _ _ _ _ (same_is _ _ (Nat.lt_succ_self _) M _ _ _ (zero M) (zero M) ⟨_, rfl, rfl⟩)
 refine e_tree_Of _ _ _ _ _ _ (tof_is hg (fun h M' hle => ⟨_, _, rfl, ?_⟩) (fun h E hT hE M' hle => ⟨_, _, rfl, ?_⟩) fun h E hT hE r l hr hmax hmade M' y hle hy => ⟨_, _, rfl, ?_⟩)
 ·exact s_chaffref_Look _ _ _ _ _ _ (rlook_is (hg.le hle) s _ ⟨_, rfl, fun _ => ⟨fun _ => zz _, fun hn => absurd rfl hn⟩, fun hn => absurd h hn⟩)
 all_goals
  obtain ⟨hw, hs60⟩ := look_ok h
  have h11 := hw.ok.one
  have h10 := hw.ok.ten
  refine s_chaffref_Look _ _ _ _ _ _ (rlook_is (hg.le hle) s _ ⟨_, rfl, fun hn => absurd h hn, fun _ => e_chaffref_Fill _ _ _ _ _ _ (fill_is hw hs60 (hg.le hle) _ fun M15 b ea ec eb E' hle15 hT' hTab => ⟨_, rfl, ?_⟩)⟩)
  have hE2 := tab_same hw hT hT' (p := 0) (i := 0) (Nat.zero_le _) (by omega)
  obtain ⟨ra, rc, hra, hrow⟩ := hTab.row 0 (by omega) (by omega)
  obtain ⟨b3, o3, hb3, hat3⟩ := hrow.at iC_len (rowE_len E' rs.length 0) (rowE_get (i := 0) (by omega))
  refine ⟨b, 0, rfl, _, _, _, hTab.en, eb, 0, hTab.ea, by omega, by omega, ra, _, rc, by simpa using hra, b3, o3, hb3, by omega, by omega, _, hat3, ?_⟩
 ·exact ⟨fun _ => ⟨fun _ => zz _, fun hn => absurd rfl hn⟩, fun hn => absurd (hE2 ▸ hE) hn⟩
 ·refine ⟨fun hn => ?_, fun _ => ⟨fun _ => ?_, fun hn => absurd rfl hn⟩⟩
  ·rw [← hE2] at hn; omega
  ·have hE3 : ∀ p i : Nat, p ≤ s.length → i < rs.length → E p i = E' p i := fun p i hp hi => tab_same hw hT hT' hp hi
   refine s_chaffref_Table_Tree _ _ _ _ _ (rtree_is hw hT hs60 (i := 0) (p := 0) (Int.le_refl 0) hr (Int.le_refl 0) (by omega) hmax (rmade_is hw hT hs60 hmade) (tab_as hTab hE3) fun M2 z hle2 hz => ⟨z, rfl, s_chaffref_SameTree _ _ _ _ (same_is _ _ (Nat.lt_succ_self _) _ _ _ _ (hy.le (hle15.trans hle2)) hz ⟨_, rfl, rfl⟩)⟩)
theorem holds : Rows.TreeSaysSaid := top walk
#print axioms holds
end Go.Proofs.Ytifkffmecfgpeaa.lawTreeSays
