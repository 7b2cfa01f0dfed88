/- For every input MutateSays answers true and leaves its arguments as they were. No condition. -/
import Derived.Test.YtmnilbfhfjdelaaM3
import Derived.Test.YtmnilbfhfjdelaaMutateSaysT
import Derived.Test.YtmnilbfhfjdelaaM4
namespace Go.Proofs.Ytmnilbfhfjdelaa.lawMutateSays
open Go.Gx Go.RowKit Go.ChangeShapes Go.WideShapes Go.ChangeAt
open core
set_option linter.unusedVariables false
theorem ex_of {H : Type} {enc : TypeId × Value → H} {w : World} : ∀ (n B : Nat) (x : X_api_Expr), In_api_Expr enc w n B x → ∃ e, ExR (HM w) e x := by
 intro n
 induction n using Nat.strongRecOn with
 | _ n ih =>
  intro B x hx
  obtain ⟨b6, h1, h2, h3, h4, h5, h6, h7, _⟩ := hx
  obtain ⟨xs, bs, hsl, hl, hm, hall, _⟩ := open_L_Expr h7
  obtain ⟨es, hes⟩ := All2.choose (R := ExR (HM w)) xs fun y hy => by
   obtain ⟨b, k, hk, hin⟩ := hall.left y hy
   exact ih k hk b y hin
  have hle := hes.length
  obtain ⟨k, s, t, A, l, c⟩ := x
  have : l = es.length := by rw [← hle]; exact hl.symm
  subst this
  exact ⟨.mk k s t es, .mk h1 ⟨h2, h3, h4, h5⟩ h6 hsl hle fun i e x he hx => hes.get' he hx⟩
theorem gr_of {H : Type} {enc : TypeId × Value → H} {w : World} {n B : Nat} {A : Option Addr} {l c : Nat} (h : In_L_Rule enc w n B ⟨A, l, c⟩) : ∃ rs, GrR (HM w) rs A l c := by
 obtain ⟨xs, bs, hsl, hl, hm, hall, _⟩ := open_L_Rule h
 obtain ⟨rs, hrs⟩ := All2.choose (R := RuR (HM w)) xs fun y hy => by
  obtain ⟨b, k, hk, hin⟩ := hall.left y hy
  obtain ⟨b7, h1, h2, h3, h4, h5, h6, h7, h8, _⟩ := hin
  obtain ⟨e, he⟩ := ex_of k _ y.Body ⟨b7, h2, h3, h4, h5, h6, h7, h8, Nat.le_refl _⟩
  exact ⟨⟨y.Name, e⟩, rfl, h1, he⟩
 have := hrs.length
 simp only at hl
 exact ⟨rs, xs, hsl, hrs, by omega⟩
theorem eqg_is {M : Mem} {gs : List (List Ru)} {n m c c' : Nat} {A A' : Option Addr} {rx rx' : List Value} (h1 : SlV M A n c 1 rx) (h2 : SlV M A' m c' 1 rx') (g1 : GgR M gs n rx) (g2 : GgR M gs m rx') {K : Value → Prop} (hK : K (.bool true)) : S_slices_EqualFunc_Grammar A n c A' m c' (.func (.func 33) #[] #[]) M K := by
 have hm1 := h1.max
 have hm2 := h2.max
 obtain ⟨ys, rfl, rfl, hy⟩ := g1
 obtain ⟨zs, rfl, rfl, hz⟩ := g2
 have e1 := hy.length
 have e2 := hz.length
 unfold S_slices_EqualFunc_Grammar
 refine ⟨fun h => absurd (by omega) h, fun _ => ?_⟩
 refine ⟨fun i => 0 ≤ i ∧ i ≤ ys.length, fun i => ys.length - i.toNat, ⟨by omega, by omega⟩, fun i ⟨i0, i1⟩ => ⟨fun hlt => ?_, fun hge => hK⟩⟩
 obtain ⟨g, hg⟩ := core.getI (l := gs) i0 (by omega)
 obtain ⟨y, hyy, hyr⟩ := hy.get hg
 obtain ⟨z, hzz, hzr⟩ := hz.get hg
 obtain ⟨b, o, ha, hat⟩ := h1.at core.slC1 rfl hyy
 obtain ⟨b2, o2, ha2, hat2⟩ := h2.at core.slC1 rfl hzz
 exact ⟨b, o, ha, i0, hlt, y.a, y.l, y.c, hat, b2, o2, ha2, i0, by omega, z.a, z.l, z.c, hat2, f_chaffref_SameGrammar _ _ _ _ _ _ _ _ (core.samegr_is hyr hzr _ ⟨_, rfl, fun h => absurd rfl h, fun _ => ⟨by unfold InI; omega, ⟨by omega, by omega⟩, by dsimp only; omega⟩⟩)⟩
theorem walk : WalkGoal := by
 intro H enc W x n B hx
 obtain ⟨rs, hg⟩ := gr_of (A := x.a) (l := x.l) (c := x.c) hx
 refine s_chafflaw_MutateSays _ _ _ _ _ ?_
 unfold S_chafflaw_MutateSays
 refine s_mutate_Mutants _ _ _ _ _ (core.mutants_is hg (fun h M1 hle => ?_) (fun h => (core.well_ok h).ok) fun h M1 A n c rx hle hsl hG => ?_)
 ·refine ⟨_, _, _, _, rfl, s_chaffref_Well _ _ _ _ _ (core.rwell_is (hg.le hle) _ ⟨_, _, rfl, fun _ => ⟨fun _ => rfl, fun h' => absurd rfl h'⟩, fun h' => absurd h h'⟩)⟩
 ·refine ⟨_, _, _, _, rfl, s_chaffref_Well _ _ _ _ _ (core.rwell_is (hg.le hle) _ ⟨_, _, rfl, fun h' => absurd h h', fun _ => ⟨fun _ => ?_, fun h' => absurd rfl h'⟩⟩)⟩
  refine s_chaffref_Mutants _ _ _ _ _ (core.rmutants_is (hg.le hle) (core.well_ok h).ok fun M2 A2 n2 c2 rx2 hle2 hsl2 hG2 => ⟨_, _, _, rfl, ?_⟩)
  exact s_slices_EqualFunc_Grammar _ _ _ _ _ _ _ _ _ (eqg_is (hsl.le hle2) hsl2 (hG.le hle2) hG2 ⟨_, rfl, rfl⟩)
theorem holds : Rows.MutateSaysSaid := top walk
#print axioms holds
end Go.Proofs.Ytmnilbfhfjdelaa.lawMutateSays
