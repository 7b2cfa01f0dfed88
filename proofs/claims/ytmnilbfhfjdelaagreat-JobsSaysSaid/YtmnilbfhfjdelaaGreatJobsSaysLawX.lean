/- For every input JobsSays answers true and leaves its arguments as they were. No condition. -/
import Derived.Test.YtmnilbfhfjdelaaGreatM3
import Derived.Test.YtmnilbfhfjdelaaGreatJobsSaysT
import Derived.Test.YtmnilbfhfjdelaaGreatM5
namespace Go.Proofs.YtmnilbfhfjdelaaGreat.lawJobsSays
open Go.Gx Go.RowKit Go.ChangeShapes Go.WideShapes Go.ChangeAt
open core
set_option linter.unusedVariables false
theorem ex_of {H : Type} {enc : TypeId × Value → H} {w : World} : ∀ (n B : Nat) (x : X_api_Expr), In_api_Expr enc w n B x → ∃ e, ExR (HM w) e x := by
 intro n
 induction n using Nat.strongRecOn with
 | _ n ih =>
  intro B x hx
  obtain ⟨b6, h1, h2, h3, h4, h5, h6, h7, _⟩ := hx
  obtain ⟨xs, bs, hsl, hl, hm, hall, _⟩ := open_L_Expr h7
  obtain ⟨es, hes⟩ := All2.choose (R := ExR (HM w)) xs fun y hy => by
   obtain ⟨b, k, hk, hin⟩ := hall.left y hy
   exact ih k hk b y hin
  have hle := hes.length
  obtain ⟨k, s, t, A, l, c⟩ := x
  have : l = es.length := by rw [← hle]; exact hl.symm
  subst this
  exact ⟨.mk k s t es, .mk h1 ⟨h2, h3, h4, h5⟩ h6 hsl hle fun i e x he hx => hes.get' he hx⟩
theorem gr_of {H : Type} {enc : TypeId × Value → H} {w : World} {n B : Nat} {A : Option Addr} {l c : Nat} (h : In_L_Rule enc w n B ⟨A, l, c⟩) : ∃ rs, GrR (HM w) rs A l c := by
 obtain ⟨xs, bs, hsl, hl, hm, hall, _⟩ := open_L_Rule h
 obtain ⟨rs, hrs⟩ := All2.choose (R := RuR (HM w)) xs fun y hy => by
  obtain ⟨b, k, hk, hin⟩ := hall.left y hy
  obtain ⟨b7, h1, h2, h3, h4, h5, h6, h7, h8, _⟩ := hin
  obtain ⟨e, he⟩ := ex_of k _ y.Body ⟨b7, h2, h3, h4, h5, h6, h7, h8, Nat.le_refl _⟩
  exact ⟨⟨y.Name, e⟩, rfl, h1, he⟩
 have := hrs.length
 simp only at hl
 exact ⟨rs, xs, hsl, hrs, by omega⟩
theorem jobs_of {H : Type} {enc : TypeId × Value → H} {w : World} {n B : Nat} {A : Option Addr} {l c : Nat} (h : In_L_Job enc w n B ⟨A, l, c⟩) : ∃ js xs, JobsR (HM w) js xs A l c := by
 obtain ⟨xs, bs, hsl, hl, hm, hall, _⟩ := open_L_Job h
 obtain ⟨js, hjs⟩ := All2.choose (R := JobR (HM w)) xs fun y hy => by
  obtain ⟨b, k, hk, hin⟩ := hall.left y hy
  obtain ⟨b0, h1, h2, h3, h4, _⟩ := hin
  obtain ⟨rs, hg⟩ := gr_of h1
  exact ⟨⟨rs, y.Alpha, y.N, y.Budget⟩, rfl, rfl, rfl, hg⟩
 have := hjs.length
 simp only at hl
 exact ⟨js, xs, hsl, hl, by omega, fun i j x hj hx => hjs.get' hj hx⟩
theorem same_is {M : Mem} {j : Jb} {p : Nat} {y z : X_api_State} (hy : StR M j p y) (hz : StR M j p z) (K : Value → Prop) (hK : K (.bool true)) : S_chaffref_SameState y z M K := by
 unfold S_chaffref_SameState
 refine s_slices_Equal_string _ _ _ _ _ _ _ _ (strs_equal hy.fo hz.fo _ fun v hv => ⟨v, rfl, fun _ => ⟨fun _ => ?_, fun hn => absurd ⟨by rw [hy.cu, hz.cu], by rw [hy.cu, hz.cu]⟩ hn⟩, fun hn => absurd (hv.2 rfl) hn⟩)
 rw [hy.le, hz.le]
 simpa using hK
theorem eqf_is {M : Mem} {js : List Jb} {q : Jb → Nat} {ys zs : List X_api_State} {A B : Option Addr} {n ca cb : Nat} (hA : SlV M A n ca 4 (cl X_api_State.cells ys)) (hB : SlV M B n cb 4 (cl X_api_State.cells zs)) (hy : ys.length = n) (hz : zs.length = n) (hj : js.length = n)
  (h1 : ∀ (i : Nat) j y, js[i]? = some j → ys[i]? = some y → StR M j (q j) y) (h2 : ∀ (i : Nat) j y, js[i]? = some j → zs[i]? = some y → StR M j (q j) y) (K : Value → Prop) (hK : K (.bool true)) : S_slices_EqualFunc_State A n ca B n cb (.func (.func 16) #[] #[]) M K := by
 have hm := hA.max
 unfold S_slices_EqualFunc_State
 refine ⟨fun h => absurd rfl h, fun _ => ⟨fun i => 0 ≤ i ∧ i ≤ n, fun i => n - i.toNat, ⟨by omega, by omega⟩, fun i ⟨i0, il⟩ => ⟨fun hlt => ?_, fun _ => hK⟩⟩⟩
 obtain ⟨y, hyi⟩ := core.getI (l := ys) i0 (by omega)
 obtain ⟨z, hzi⟩ := core.getI (l := zs) i0 (by omega)
 obtain ⟨j, hji⟩ := core.getI (l := js) i0 (by omega)
 obtain ⟨b, o, ha, hat⟩ := hA.at Sx_len hy hyi
 obtain ⟨b', o', ha', hat'⟩ := hB.at Sx_len hz hzi
 exact ⟨b, o, ha, i0, hlt, y, hat, b', o', ha', i0, hlt, z, hat', f_chaffref_SameState _ _ _ _ (same_is (h1 _ j y hji hyi) (h2 _ j z hji hzi) _ ⟨_, rfl, fun hn => absurd rfl hn, fun _ => ⟨by unfold InI; omega, ⟨by omega, by omega⟩, by show n - (i + 1).toNat < n - i.toNat; omega⟩⟩)⟩
theorem walk : WalkGoal := by
 intro H enc W x n B hx s hs r hr
 obtain ⟨js, xs, hJ⟩ := jobs_of (A := x.a) (l := x.l) (c := x.c) hx
 refine e_chafflaw_JobsSays _ _ _ _ _ _ _ ?_
 unfold S_chafflaw_JobsSays
 generalize HM W = M at *
 refine s_jobs_Run _ _ _ _ _ _ _ _ (jrun_is hJ s r _ _ (fun he M1 hle => ⟨_, _, _, _, rfl, ?_⟩) fun he M1 A cap ys hle hsl hyl hst => ⟨_, _, _, _, rfl, ?_⟩)
 ·refine s_chaffref_Jobs _ _ _ _ _ _ _ (rjobs_is (hJ.le hle) s r _ (fun _ M2 hle2 => ⟨_, _, _, _, rfl, ?_⟩) fun h => absurd h he)
  refine s_slices_EqualFunc_State _ _ _ _ _ _ _ _ _ (eqf_is (js := []) (q := fun _ => 0) (ys := []) (zs := []) ⟨rfl, Nat.le_refl _, by unfold maxLen; simp, fun h => by simp at h⟩ ⟨rfl, Nat.le_refl _, by unfold maxLen; simp, fun h => by simp at h⟩ rfl rfl rfl (fun i j y h => by simp at h) (fun i j y h => by simp at h) _ ⟨_, rfl, fun _ M' _ => by simp, fun hn => absurd rfl hn⟩)
 ·refine s_chaffref_Jobs _ _ _ _ _ _ _ (rjobs_is (hJ.le hle) s r _ (fun h => absurd he h) fun _ M2 A2 cap2 zs hle2 hsl2 hzl hst2 => ⟨_, _, _, _, rfl, ?_⟩)
  exact s_slices_EqualFunc_State _ _ _ _ _ _ _ _ _ (eqf_is (q := fun j => j.pw s.toNat r.toNat) (hsl.le hle2) hsl2 hyl hzl hJ.jl (fun i j y a b => (hst i j y a b).mono hle2) hst2 _ ⟨_, rfl, fun _ M' _ => by simp, fun hn => absurd rfl hn⟩)
theorem holds : Rows.JobsSaysSaid := top walk
#print axioms holds
end Go.Proofs.YtmnilbfhfjdelaaGreat.lawJobsSays
