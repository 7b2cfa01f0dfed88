/- For every input GramPrints answers true and leaves its arguments as they were. No condition. -/
import Derived.Test.YtjecddabdlapbaaDoorM2
import Derived.Test.YtjecddabdlapbaaDoorGramPrintsT
import Derived.Test.YtjecddabdlapbaaDoorM4
namespace Go.Proofs.YtjecddabdlapbaaDoor.lawGramPrints
open Go.Gx Go.RowKit Go.ChangeShapes Go.WideShapes Go.ChangeAt
open core
set_option linter.unusedVariables false
theorem ex_of {H : Type} {enc : TypeId × Value → H} {w : World} : ∀ (n B : Nat) (x : X_api_Expr), In_api_Expr enc w n B x → ∃ e, ExR (HM w) e x := by
 intro n
 induction n using Nat.strongRecOn with
 | _ n ih =>
  intro B x hx
  obtain ⟨b6, h1, h2, h3, h4, h5, h6, h7, _⟩ := hx
  obtain ⟨xs, bs, hsl, hl, hm, hall, _⟩ := open_L_Expr h7
  obtain ⟨es, hes⟩ := All2.choose (R := ExR (HM w)) xs fun y hy => by
   obtain ⟨b, k, hk, hin⟩ := hall.left y hy
   exact ih k hk b y hin
  have hle := hes.length
  obtain ⟨k, s, t, A, l, c⟩ := x
  have : l = es.length := by rw [← hle]; exact hl.symm
  subst this
  exact ⟨.mk k s t es, .mk h1 ⟨h2, h3, h4, h5⟩ h6 hsl hle fun i e x he hx => hes.get' he hx⟩
theorem gr_of {H : Type} {enc : TypeId × Value → H} {w : World} {n B : Nat} {A : Option Addr} {l c : Nat} (h : In_L_Rule enc w n B ⟨A, l, c⟩) : ∃ rs, GrR (HM w) rs A l c := by
 obtain ⟨xs, bs, hsl, hl, hm, hall, _⟩ := open_L_Rule h
 obtain ⟨rs, hrs⟩ := All2.choose (R := RuR (HM w)) xs fun y hy => by
  obtain ⟨b, k, hk, hin⟩ := hall.left y hy
  obtain ⟨b7, h1, h2, h3, h4, h5, h6, h7, h8, _⟩ := hin
  obtain ⟨e, he⟩ := ex_of k _ y.Body ⟨b7, h2, h3, h4, h5, h6, h7, h8, Nat.le_refl _⟩
  exact ⟨⟨y.Name, e⟩, rfl, h1, he⟩
 have := hrs.length
 simp only at hl
 exact ⟨rs, xs, hsl, hrs, by omega⟩
def ruT (r : core.Ru) : List UInt8 := r.name ++ [32, 60, 45, 32] ++ core.txE r.body ++ [10]
def grT (rs : List core.Ru) : List UInt8 := rs.flatMap ruT
theorem ruT_len {rs : List core.Ru} (h : core.GramOk rs) {r : core.Ru} (hr : r ∈ rs) : r.name.length ≤ 8 ∧ (core.txE r.body).length ≤ 180000 ∧ (ruT r).length ≤ 200000 := by
 have h1 := h.name r hr
 have h2 := core.txE_len _ (core.FitE.of (h.err r hr))
 have h3 := (core.flat_max (h.err r hr)).1
 have h4 : r.name.length ≤ 8 := by
  simp [core.nameB] at h1; omega
 refine ⟨h4, by omega, ?_⟩
 unfold ruT
 simp only [List.length_append, List.length_cons, List.length_nil]; omega
theorem flat_put {rs : List core.Ru} {i : Nat} {r : core.Ru} (h : rs[i]? = some r) : (rs.take (i + 1)).flatMap ruT = (rs.take i).flatMap ruT ++ ruT r := by
 rw [List.take_add_one, h]; simp
theorem flat_len {rs : List core.Ru} (h : core.GramOk rs) : ∀ i, ((rs.take i).flatMap ruT).length ≤ i * 200000
 | 0 => by simp
 | i + 1 => by
  have ih := flat_len h i
  cases hr : rs[i]? with
  | none =>
   rw [List.take_add_one, hr, Option.toList_none, List.append_nil]
   refine Nat.le_trans ih (Nat.mul_le_mul_right _ (Nat.le_succ i))
  | some r =>
   have := (ruT_len h (List.mem_of_getElem? hr)).2.2
   rw [flat_put hr, List.length_append]; omega
theorem gprint_is {rs : List core.Ru} {A : Option Addr} {l c : Nat} {M : Mem} (hg : core.GrR M rs A l c) (hT : core.TabM M 0 core.dTab) (K : Value → Prop) (h1 : core.gramErr rs ≠ 0 → K (.tuple #[.string (mkS []), .int .i64 (core.gramErr rs)])) (h2 : core.gramErr rs = 0 → K (.tuple #[.string (mkS (grT rs)), .int .i64 0])) : core.S_gram_Print A l c M K := by
 refine core.s_gram_Check _ _ _ _ _ (core.gcheck_is hg _ ⟨_, rfl, h1, fun h0 => ?_⟩)
 have h0 : core.gramErr rs = 0 := by simpa using h0
 have hok := core.gram_ok h0
 have hl := hg.max.1
 have h10 := hok.ten
 refine ⟨fun out x => ∃ i : Nat, x = i ∧ i ≤ rs.length ∧ out = (rs.take i).flatMap ruT, fun _ x => rs.length - x.toNat, ⟨0, rfl, by omega, rfl⟩, fun out x ⟨i, hx, hi, ho⟩ => ⟨fun hlt => ?_, fun hge => ?_⟩⟩
 ·subst hx
  obtain ⟨r, y, b, o, g1, g2, g3, g4, g5, g6⟩ := hg.at (i := (i : Int)) (by omega) hlt
  rw [Int.toNat_natCast] at g1
  have hm := List.mem_of_getElem? g1
  obtain ⟨n8, t1, t2⟩ := ruT_len hok hm
  have hfl := flat_len hok i
  have hm10 : i * 200000 ≤ 2000000 := by omega
  have he := hok.err r hm
  have h10' : ((core.txE r.body).length : Nat) ≤ 180000 := t1
  rw [← g4] at n8
  refine ⟨b, o, g2, by omega, hlt, y, g3, core.s_show_Print _ _ _ (core.sprint_is g6 hT _ (fun h => absurd he h) fun _ => ⟨_, _, rfl, ?_⟩)⟩
  have hr : y.Name ++ ([32, 60, 45, 32] : List UInt8) ++ core.txE r.body ++ [10] = ruT r := by rw [g4]; rfl
  rw [hr, ho]
  refine ⟨by simp only [List.length_cons, List.length_nil]; omega, by simp only [List.length_append, List.length_cons, List.length_nil]; omega, by simp only [List.length_append, List.length_cons, List.length_nil]; omega, by omega, by unfold InI; omega, ⟨i + 1, by omega, by omega, (flat_put g1).symm⟩, by dsimp only; omega⟩
 ·subst hx
  have : i = rs.length := by omega
  subst this
  rw [ho, List.take_length]; exact h2 h0
theorem rtext_is {rs : List core.Ru} {A : Option Addr} {l c : Nat} {M : Mem} (hg : core.GrR M rs A l c) (h0 : core.gramErr rs = 0) (K : Value → Prop) (h2 : K (.string (mkS (grT rs)))) : core.S_chaffref_Text A l c M K := by
 have hok := core.gram_ok h0
 have hl := hg.max.1
 have h10 := hok.ten
 refine ⟨fun out x => ∃ i : Nat, x = i ∧ i ≤ rs.length ∧ out = (rs.take i).flatMap ruT, fun _ x => rs.length - x.toNat, ⟨0, rfl, by omega, rfl⟩, fun out x ⟨i, hx, hi, ho⟩ => ⟨fun hlt => ?_, fun hge => ?_⟩⟩
 ·subst hx
  obtain ⟨r, y, b, o, g1, g2, g3, g4, g5, g6⟩ := hg.at (i := (i : Int)) (by omega) hlt
  rw [Int.toNat_natCast] at g1
  have hm := List.mem_of_getElem? g1
  obtain ⟨n8, t1, t2⟩ := ruT_len hok hm
  have hfl := flat_len hok i
  have hm10 : i * 200000 ≤ 2000000 := by omega
  have he := hok.err r hm
  rw [← g4] at n8
  have hr : y.Name ++ ([32, 60, 45, 32] : List UInt8) ++ core.txE r.body ++ [10] = ruT r := by rw [g4]; rfl
  refine ⟨b, o, g2, by omega, hlt, y, g3, by simp only [List.length_cons, List.length_nil]; omega, (core.rprint_is _ r.body (Nat.lt_succ_self _) (core.FitE.of he) (core.flat_max he).1 y.Body M g6).mono fun v M' _ hv => ⟨_, hv, ?_⟩⟩
  rw [hr, ho]
  refine ⟨by simp only [List.length_append, List.length_cons, List.length_nil]; omega, by simp only [List.length_append, List.length_cons, List.length_nil]; omega, by omega, by unfold InI; omega, ⟨i + 1, by omega, by omega, (flat_put g1).symm⟩, by dsimp only; omega⟩
 ·subst hx
  have : i = rs.length := by omega
  subst this
  rw [ho, List.take_length]; exact h2
theorem walk : WalkGoal := by
 intro H enc W x n0 B0 hin hL
 have hT := core.tabM_of (Lib.laidMet.reads hL (List.mem_cons_self ..))
 clear hL
 obtain ⟨rs, hg⟩ := gr_of (A := x.a) (l := x.l) (c := x.c) hin
 refine s_chafflaw_GramPrints _ _ _ _ _ ?_
 refine core.s_gram_Print _ _ _ _ _ (gprint_is hg hT _ (fun h => ⟨_, _, rfl, core.s_chaffref_Gram _ _ _ _ _ (core.rgram_is hg _ ⟨_, rfl, fun _ => ⟨fun _ => ?_, fun g => absurd rfl g⟩, fun g => absurd h g⟩)⟩) (fun h => ⟨_, _, rfl, core.s_chaffref_Gram _ _ _ _ _ (core.rgram_is hg _ ⟨_, rfl, fun g => absurd h g, fun _ => ⟨fun _ => core.s_chaffref_Text _ _ _ _ _ (rtext_is hg h _ ⟨_, rfl, ?_⟩), fun g => absurd rfl g⟩⟩)⟩))
 ·simp
 ·simp
theorem holds : Rows.GramPrintsCardSaid := card (top walk)
#print axioms holds
end Go.Proofs.YtjecddabdlapbaaDoor.lawGramPrints
