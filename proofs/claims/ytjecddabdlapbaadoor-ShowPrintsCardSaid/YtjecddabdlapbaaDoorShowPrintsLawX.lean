/- For every input ShowPrints answers true and leaves its arguments as they were. No condition. -/
import Derived.Test.YtjecddabdlapbaaDoorM2
import Derived.Test.YtjecddabdlapbaaDoorShowPrintsT
import Derived.Test.YtjecddabdlapbaaDoorM3
namespace Go.Proofs.YtjecddabdlapbaaDoor.lawShowPrints
open Go.Gx Go.RowKit Go.ChangeShapes Go.WideShapes Go.ChangeAt
open core
set_option linter.unusedVariables false
theorem ex_of {H : Type} {enc : TypeId × Value → H} {w : World} : ∀ (n B : Nat) (x : X_api_Expr), In_api_Expr enc w n B x → ∃ e, ExR (HM w) e x := by
 intro n
 induction n using Nat.strongRecOn with
 | _ n ih =>
  intro B x hx
  obtain ⟨b6, h1, h2, h3, h4, h5, h6, h7, _⟩ := hx
  obtain ⟨xs, bs, hsl, hl, hm, hall, _⟩ := open_L_Expr h7
  obtain ⟨es, hes⟩ := All2.choose (R := ExR (HM w)) xs fun y hy => by
   obtain ⟨b, k, hk, hin⟩ := hall.left y hy
   exact ih k hk b y hin
  have hle := hes.length
  obtain ⟨k, s, t, A, l, c⟩ := x
  have : l = es.length := by rw [← hle]; exact hl.symm
  subst this
  exact ⟨.mk k s t es, .mk h1 ⟨h2, h3, h4, h5⟩ h6 hsl hle fun i e x he hx => hes.get' he hx⟩
theorem walk : WalkGoal := by
 intro H enc W x n0 B0 hin hL
 have hT := core.tabM_of (Lib.laidMet.reads hL (List.mem_cons_self ..))
 clear hL
 obtain ⟨e, hR⟩ := ex_of _ _ _ hin
 refine s_chafflaw_ShowPrints _ _ _ ?_
 refine core.s_show_Print _ _ _ (core.sprint_is hR hT _ (fun h => ⟨_, _, rfl, core.s_chaffref_Expr _ _ _ (core.rexpr_is e x _ _ hR ⟨_, rfl, fun _ => ⟨fun _ => ?_, fun g => absurd rfl g⟩, fun g => absurd h g⟩)⟩) (fun h => ⟨_, _, rfl, core.s_chaffref_Expr _ _ _ (core.rexpr_is e x _ _ hR ⟨_, rfl, fun g => absurd h g, fun _ => ⟨fun _ => ?_, fun g => absurd rfl g⟩⟩)⟩))
 ·simp
 ·refine (core.rprint_is _ e (Nat.lt_succ_self _) (core.FitE.of h) (core.flat_max h).1 x _ hR).mono fun v M' _ hv => ⟨_, hv, ?_⟩
  simp
theorem holds : Rows.ShowPrintsCardSaid := card (top walk)
#print axioms holds
end Go.Proofs.YtjecddabdlapbaaDoor.lawShowPrints
