/- For every input ListAccepts answers true and leaves its arguments as they were. No condition. -/
import Derived.Test.YtifkffmecfgpeaaM4
import Derived.Test.YtifkffmecfgpeaaListAcceptsT
import Derived.Test.YtifkffmecfgpeaaM6
namespace Go.Proofs.Ytifkffmecfgpeaa.lawListAccepts
open Go.Gx Go.RowKit Go.ChangeShapes Go.WideShapes Go.ChangeAt
open core
set_option linter.unusedVariables false
theorem ex_of {H : Type} {enc : TypeId × Value → H} {w : World} : ∀ (n B : Nat) (x : X_api_Expr), In_api_Expr enc w n B x → ∃ e, ExR (HM w) e x := by
 intro n
 induction n using Nat.strongRecOn with
 | _ n ih =>
  intro B x hx
  obtain ⟨b6, h1, h2, h3, h4, h5, h6, h7, _⟩ := hx
  obtain ⟨xs, bs, hsl, hl, hm, hall, _⟩ := open_L_Expr h7
  obtain ⟨es, hes⟩ := All2.choose (R := ExR (HM w)) xs fun y hy => by
   obtain ⟨b, k, hk, hin⟩ := hall.left y hy
   exact ih k hk b y hin
  have hle := hes.length
  obtain ⟨k, s, t, A, l, c⟩ := x
  have : l = es.length := by rw [← hle]; exact hl.symm
  subst this
  exact ⟨.mk k s t es, .mk h1 ⟨h2, h3, h4, h5⟩ h6 hsl hle fun i e x he hx => hes.get' he hx⟩
theorem gr_of {H : Type} {enc : TypeId × Value → H} {w : World} {n B : Nat} {A : Option Addr} {l c : Nat} (h : In_L_Rule enc w n B ⟨A, l, c⟩) : ∃ rs, GrR (HM w) rs A l c := by
 obtain ⟨xs, bs, hsl, hl, hm, hall, _⟩ := open_L_Rule h
 obtain ⟨rs, hrs⟩ := All2.choose (R := RuR (HM w)) xs fun y hy => by
  obtain ⟨b, k, hk, hin⟩ := hall.left y hy
  obtain ⟨b7, h1, h2, h3, h4, h5, h6, h7, h8, _⟩ := hin
  obtain ⟨e, he⟩ := ex_of k _ y.Body ⟨b7, h2, h3, h4, h5, h6, h7, h8, Nat.le_refl _⟩
  exact ⟨⟨y.Name, e⟩, rfl, h1, he⟩
 have := hrs.length
 simp only at hl
 exact ⟨rs, xs, hsl, hrs, by omega⟩
theorem walk : WalkGoal := by
 intro H enc W x n B hx s hs a ha k hk
 obtain ⟨rs, hg⟩ := gr_of (A := x.a) (l := x.l) (c := x.c) hx
 refine s_chafflaw_ListAccepts _ _ _ _ _ _ _ _ ?_
 unfold S_chafflaw_ListAccepts
 generalize HM W = M at *
 refine s_list_Look _ _ _ _ _ _ _ (llook_is hg a k _ ⟨_, rfl, s_chaffref_Listable _ _ _ _ _ _ _ (rlistable_is hg a k _ ⟨_, rfl, fun hn => absurd rfl hn, fun _ => ?_⟩)⟩)
 refine s_list_Accepts _ _ _ _ _ _ (laccepts_is hg (fun h => ⟨_, _, rfl, ?_⟩) fun h => ⟨_, _, rfl, ?_⟩)
 ·exact s_chaffref_Look _ _ _ _ _ _ (rlook_is hg s _ ⟨_, rfl, fun _ => ⟨fun _ => rfl, fun hn => absurd rfl hn⟩, fun hn => absurd h hn⟩)
 ·obtain ⟨hw, hs60⟩ := look_ok h
  refine s_chaffref_Look _ _ _ _ _ _ (rlook_is hg s _ ⟨_, rfl, fun hn => absurd h hn, fun _ => ⟨fun _ => ?_, fun hn => absurd rfl hn⟩⟩)
  exact s_chaffref_Accepts _ _ _ _ _ _ (raccepts_is hw hs60 hg ⟨_, rfl, by simp⟩)
theorem holds : Rows.ListAcceptsSaid := top walk
#print axioms holds
end Go.Proofs.Ytifkffmecfgpeaa.lawListAccepts
