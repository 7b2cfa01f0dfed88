/- For every input TopJobs answers true and leaves its arguments as they were. No condition. -/
import Derived.Test.YtmnilbfhfjdelaaM3
import Derived.Test.YtmnilbfhfjdelaaTopJobsT
import Derived.Test.YtmnilbfhfjdelaaM5
namespace Go.Proofs.Ytmnilbfhfjdelaa.lawTopJobs
open Go.Gx Go.RowKit Go.ChangeShapes Go.WideShapes Go.ChangeAt
open core
set_option linter.unusedVariables false
theorem ex_of {H : Type} {enc : TypeId × Value → H} {w : World} : ∀ (n B : Nat) (x : X_api_Expr), In_api_Expr enc w n B x → ∃ e, ExR (HM w) e x := by
 intro n
 induction n using Nat.strongRecOn with
 | _ n ih =>
  intro B x hx
  obtain ⟨b6, h1, h2, h3, h4, h5, h6, h7, _⟩ := hx
  obtain ⟨xs, bs, hsl, hl, hm, hall, _⟩ := open_L_Expr h7
  obtain ⟨es, hes⟩ := All2.choose (R := ExR (HM w)) xs fun y hy => by
   obtain ⟨b, k, hk, hin⟩ := hall.left y hy
   exact ih k hk b y hin
  have hle := hes.length
  obtain ⟨k, s, t, A, l, c⟩ := x
  have : l = es.length := by rw [← hle]; exact hl.symm
  subst this
  exact ⟨.mk k s t es, .mk h1 ⟨h2, h3, h4, h5⟩ h6 hsl hle fun i e x he hx => hes.get' he hx⟩
theorem gr_of {H : Type} {enc : TypeId × Value → H} {w : World} {n B : Nat} {A : Option Addr} {l c : Nat} (h : In_L_Rule enc w n B ⟨A, l, c⟩) : ∃ rs, GrR (HM w) rs A l c := by
 obtain ⟨xs, bs, hsl, hl, hm, hall, _⟩ := open_L_Rule h
 obtain ⟨rs, hrs⟩ := All2.choose (R := RuR (HM w)) xs fun y hy => by
  obtain ⟨b, k, hk, hin⟩ := hall.left y hy
  obtain ⟨b7, h1, h2, h3, h4, h5, h6, h7, h8, _⟩ := hin
  obtain ⟨e, he⟩ := ex_of k _ y.Body ⟨b7, h2, h3, h4, h5, h6, h7, h8, Nat.le_refl _⟩
  exact ⟨⟨y.Name, e⟩, rfl, h1, he⟩
 have := hrs.length
 simp only at hl
 exact ⟨rs, xs, hsl, hrs, by omega⟩
theorem jobs_of {H : Type} {enc : TypeId × Value → H} {w : World} {n B : Nat} {A : Option Addr} {l c : Nat} (h : In_L_Job enc w n B ⟨A, l, c⟩) : ∃ js xs, JobsR (HM w) js xs A l c := by
 obtain ⟨xs, bs, hsl, hl, hm, hall, _⟩ := open_L_Job h
 obtain ⟨js, hjs⟩ := All2.choose (R := JobR (HM w)) xs fun y hy => by
  obtain ⟨b, k, hk, hin⟩ := hall.left y hy
  obtain ⟨b0, h1, h2, h3, h4, _⟩ := hin
  obtain ⟨rs, hg⟩ := gr_of h1
  exact ⟨⟨rs, y.Alpha, y.N, y.Budget⟩, rfl, rfl, rfl, hg⟩
 have := hjs.length
 simp only at hl
 exact ⟨js, xs, hsl, hl, by omega, fun i j x hj hx => hjs.get' hj hx⟩
theorem grow_is {n : Int} {M : Mem} (h0 : 0 ≤ n) (h1 : n ≤ 100000) (K : Nat → List Value → Prop) (hK : K 0 []) : S_slices_Grow_string n M K := by
 unfold S_slices_Grow_string
 refine ⟨fun h => by omega, fun _ => ⟨by unfold InI; omega, by unfold InI; omega, fun hp => ⟨hp, by omega, by omega, by omega, by simpa using hK⟩, fun _ => hK⟩⟩
theorem concat_is {A : Option Addr} {c l1 c1 l2 c2 : Nat} {a1 a2 : Option Addr} {M : Mem} {u v : List Value} (h : SlV M A 2 c 1 [.slice a1 l1 c1, .slice a2 l2 c2]) (h1 : SlV M a1 l1 c1 1 u) (h2 : SlV M a2 l2 c2 1 v)
  (o1 : ∀ x ∈ u, x.oneCell' = true) (o2 : ∀ x ∈ v, x.oneCell' = true) (b1 : l1 ≤ 10000) (b2 : l2 ≤ 10000) (K : Nat → List Value → Prop) (hK : K (l1 + l2) (u ++ v)) : S_slices_Concat_string A 2 c M K := by
 obtain ⟨b, o, rfl, hat⟩ := h.2.2.2 (by omega)
 have at1 := hat.part 0 [.slice a1 l1 c1] rfl
 have at2 := hat.part 1 [.slice a2 l2 c2] rfl
 unfold S_slices_Concat_string
 refine ⟨fun size i => 0 ≤ i ∧ i ≤ 2 ∧ (i = 0 → size = 0) ∧ (i = 1 → size = l1) ∧ (i = 2 → size = ((l1 + l2 : Nat) : Int)), fun _ i => 2 - i.toNat, ⟨by omega, by omega, fun _ => rfl, fun h => absurd h (by omega), fun h => absurd h (by omega)⟩, fun size i ⟨i0, i2, e0, e1, e2⟩ => ⟨fun hlt => ?_, fun hge => ?_⟩⟩
 ·rcases show i = 0 ∨ i = 1 by omega with rfl | rfl
  ·have := e0 rfl
   subst this
   exact ⟨b, o, rfl, by omega, hlt, a1, l1, c1, at1, by unfold InI; omega, fun h => by omega, fun _ => ⟨by unfold InI; omega, ⟨by omega, by omega, fun h => absurd h (by omega), fun _ => by omega, fun h => absurd h (by omega)⟩, by dsimp only; decide⟩⟩
  ·have := e1 rfl
   subst this
   exact ⟨b, o, rfl, by omega, hlt, a2, l2, c2, at2, by unfold InI; omega, fun h => by omega, fun _ => ⟨by unfold InI; omega, ⟨by omega, by omega, fun h => absurd h (by omega), fun h => absurd h (by omega), fun _ => by omega⟩, by dsimp only; decide⟩⟩
 ·have hi : i = 2 := by omega
  have := e2 hi
  subst this
  refine s_slices_Grow_string _ _ _ (grow_is (by omega) (by omega) _ ?_)
  refine ⟨fun i rn rx => 0 ≤ i ∧ i ≤ 2 ∧ (i = 0 → rn = 0 ∧ rx = []) ∧ (i = 1 → rn = l1 ∧ rx = u) ∧ (i = 2 → rn = l1 + l2 ∧ rx = u ++ v), fun i _ _ => 2 - i.toNat, ⟨by omega, by omega, fun _ => ⟨rfl, rfl⟩, fun h => absurd h (by omega), fun h => absurd h (by omega)⟩, fun i rn rx ⟨i0, i2, e0, e1, e2⟩ => ⟨fun hlt => ?_, fun hge => ?_⟩⟩
  ·rcases show i = 0 ∨ i = 1 by omega with rfl | rfl
   ·obtain ⟨rfl, rfl⟩ := e0 rfl
    exact ⟨b, o, rfl, by omega, hlt, a1, l1, c1, at1, u, h1, o1, by omega, by unfold InI; omega, ⟨by omega, by omega, fun h => absurd h (by omega), fun _ => ⟨by omega, by simp⟩, fun h => absurd h (by omega)⟩, by dsimp only; decide⟩
   ·obtain ⟨rfl, rfl⟩ := e1 rfl
    exact ⟨b, o, rfl, by omega, hlt, a2, l2, c2, at2, v, h2, o2, by omega, by unfold InI; omega, ⟨by omega, by omega, fun h => absurd h (by omega), fun h => absurd h (by omega), fun _ => ⟨rfl, rfl⟩⟩, by dsimp only; decide⟩
  ·obtain ⟨rfl, rfl⟩ := e2 (by omega)
   exact hK
theorem strV_one (zs : List (List UInt8)) : ∀ x ∈ strV zs, x.oneCell' = true := by
 intro x hx
 obtain ⟨z, _, rfl⟩ := List.mem_map.1 hx
 rfl
theorem found_all (j : Jb) (p : Nat) : j.found p ++ (j.T.drop p).filter (accP j.rs) = j.T.filter (accP j.rs) := by
 unfold Jb.found
 rw [← List.filter_append, List.take_append_drop]
theorem cur_list {j : Jb} (hl : listP j.rs j.al j.n = 0) (p : Nat) : listE j.rs j.al j.n (j.cur p) 1048576 = 0 ∧ (listO j.rs j.al j.n (j.cur p) 1048576).1 = (j.T.drop p).filter (accP j.rs) ∧ (listO j.rs j.al j.n (j.cur p) 1048576).2.Over = true := by
 obtain ⟨hw, hal, h0, h6, hg5⟩ := listP_ok hl
 obtain ⟨a1, a8, hasc⟩ := alpha_ok hal
 have hT : j.T.length ≤ 5000 := by unfold Jb.T; rw [words_len]; exact hg5
 unfold Jb.cur
 by_cases hp : p < j.T.length
 ·rw [if_pos hp]
  have hat : (wordsN j.al j.n.toNat)[p]? = some (((j.T[p]?).getD [])) := by
   show j.T[p]? = _
   rw [List.getElem?_eq_getElem hp]; rfl
  generalize (j.T[p]?).getD [] = s at *
  obtain ⟨hsn, hsin, hr⟩ := words_is hasc _ _ _ hat
  refine ⟨listE_ok hl (by omega) (by omega) (over_of hal (by show s.length ≤ 6; omega) hsin) (by show ((s.length : Nat) : Int) ≤ j.n; omega) (by simp), ?_⟩
  have e : listT j.al j.n ⟨s, false⟩ = j.T.drop p := by unfold listT; rw [hr]; rfl
  have hlen : (j.T.drop p).length ≤ 5000 := by rw [List.length_drop]; omega
  unfold listO
  rw [if_neg (by simp), e, if_neg (by omega)]
  exact ⟨rfl, rfl⟩
 ·rw [if_neg hp]
  refine ⟨listE_ok hl (by omega) (by omega) (over_of hal (by simp) (by simp)) (by simpa using h0) (by simp), ?_⟩
  unfold listO
  rw [if_pos rfl, List.drop_of_length_le (by omega)]
  exact ⟨rfl, rfl⟩
theorem walk : WalkGoal := by
 intro H enc W x n B hx s hs r hr
 obtain ⟨js, xs, hJ⟩ := jobs_of (A := x.a) (l := x.l) (c := x.c) hx
 refine s_chafftop_TopJobs _ _ _ _ _ _ _ ?_
 unfold S_chafftop_TopJobs
 generalize HM W = M at *
 refine e_jobs_Run _ _ _ _ _ _ _ (jrun_is hJ s r _ _ (fun he M1 hle => ⟨_, _, _, _, rfl, ?_⟩) fun he M1 A cap ys hle hsl hyl hst => ⟨_, _, _, _, rfl, ?_⟩)
 ·refine s_chafftop_begun _ _ (begun_is _ ⟨_, rfl, fun h => absurd rfl h, fun _ => ?_⟩)
  unfold S_chafftop_TopJobs_J1
  exact ⟨fun _ => s_chafftop_begun _ _ (begun_is _ ⟨_, rfl, fun _ => rfl, fun h => absurd rfl h⟩), fun h => absurd (by simpa using he) h⟩
 refine s_chafftop_begun _ _ (begun_is _ ⟨_, rfl, fun h => absurd rfl h, fun _ => ?_⟩)
 unfold S_chafftop_TopJobs_J1
 refine ⟨fun h => absurd h (by decide), fun _ => ⟨fun h => absurd rfl h, fun _ => ?_⟩⟩
 have hok : ∀ j ∈ js, JOk j := by
  have h0 : jobsE1 js = 0 := by
   unfold jobsE at he
   split at he
   ·cases he
   ·split at he
    ·cases he
    ·exact he
  exact fun j hj => jobE_ok (jobs1_ok h0 j hj)
 refine ⟨fun i M' => 0 ≤ i ∧ i ≤ x.l ∧ M1.le M', fun i => x.l - i.toNat, ⟨by omega, by omega, Mem.le.refl _⟩, fun i M2 ⟨i0, il, hle2⟩ => ⟨fun hlt => ?_, fun _ => rfl⟩⟩
 replace hJ := (hJ.le hle).le hle2
 obtain ⟨j, z, b, o, hj, hz, hb, hat, hrow⟩ := hJ.at i0 hlt
 have hjo := hok j (List.mem_of_getElem? hj)
 obtain ⟨y, hy⟩ := core.getI (l := ys) i0 (by omega)
 have hyr := hst _ j y hj hy
 generalize hp : j.pw s.toNat r.toNat = p at hyr
 clear hst hp
 replace hsl := hsl.le hle2
 replace hyr := hyr.mono hle2
 obtain ⟨a1, a8, hasc, n0, n6, hT5, hT1⟩ := hjo.asc
 obtain ⟨hE, hO0⟩ := list0 hjo.l
 have hO : (listO j.rs j.al j.n ⟨[], false⟩ 1048576).1 = j.T.filter (accP j.rs) := hO0
 clear hO0
 obtain ⟨hE', hO', hOv⟩ := cur_list hjo.l p
 have hfl : (j.found p).length ≤ 5000 := by
  unfold Jb.found
  refine Nat.le_trans (List.length_filter_le _ _) ?_
  rw [List.length_take]; omega
 have hrl : ((j.T.drop p).filter (accP j.rs)).length ≤ 5000 := by
  refine Nat.le_trans (List.length_filter_le _ _) ?_
  rw [List.length_drop]; omega
 have hall := found_all j p
 refine ⟨b, o, hb, i0, hlt, z, hat, ?_⟩
 rw [hrow.al, hrow.n]
 refine llist_is hrow.gr _ _ ⟨[], false⟩ _ _ (fun h => absurd hE h) fun _ M3 A3 cap3 hle3 hsl3 => ⟨_, _, _, _, _, rfl, fun h => absurd rfl h, fun _ => ?_⟩
 replace hsl := hsl.le hle3
 replace hyr := hyr.mono hle3
 have hgr := hrow.gr.le hle3
 rw [hO] at hsl3 ⊢
 obtain ⟨b2, o2, hb2, hat2⟩ := hsl.at Sx_len hyl hy
 have f1 : At M3 b2 (o2 + i.toNat * 4) [.slice y.Found_a y.Found_l y.Found_c] := hat2.part 0 [_] rfl
 have f2 : At M3 b2 (o2 + i.toNat * 4 + 1) y.Cursor.cells := hat2.part 1 _ rfl
 have f3 : At M3 b2 (o2 + i.toNat * 4 + 1 + 1) [.bool y.Cursor.Over] := hat2.part 2 [_] rfl
 have hyf := hyr.fo
 rw [hyr.fl] at f1 hyf
 have hle' : (j.found p).length ≤ (j.T.filter (accP j.rs)).length := by rw [← hall, List.length_append]; omega
 have htk : (j.T.filter (accP j.rs)).take (j.found p).length = j.found p := by rw [← hall, List.take_left]
 have fin : ∀ M5 : Mem, M1.le M5 → ∀ v : Bool, v = false → S_chafftop_TopJobs_J5 i (fun i M' => 0 ≤ i ∧ i ≤ x.l ∧ M1.le M') (fun i => x.l - i.toNat) M5 v (fun v => v = .bool true) := by
  intro M5 hle5 v hv
  unfold S_chafftop_TopJobs_J5
  exact ⟨fun h => (by rw [hv] at h; cases h), fun _ => ⟨by have := hsl.max; unfold InI; omega, ⟨by omega, by omega, hle5⟩, by dsimp only; omega⟩⟩
 have j3 : S_chafftop_TopJobs_J3 A x.l i (fun i M' => 0 ≤ i ∧ i ≤ x.l ∧ M1.le M') (fun i => x.l - i.toNat) z A3 (j.T.filter (accP j.rs)).length cap3 M3 false (fun v => v = .bool true) := by
  unfold S_chafftop_TopJobs_J3
  refine ⟨fun h => (by cases h), fun _ => ⟨b2, o2, hb2, i0, hlt, y.Cursor, f2, ?_⟩⟩
  rw [hrow.al, hrow.n, hyr.cu]
  refine llist_is hgr _ _ (j.cur p) _ _ (fun h => absurd hE' h) fun _ M4 A4 cap4 hle4 hsl4 => ⟨_, _, _, _, _, rfl, ?_⟩
  rw [hO'] at hsl4 ⊢
  unfold S_chafftop_TopJobs_J4
  refine ⟨fun h => absurd rfl h, fun _ => ⟨fun h => absurd hOv h, fun _ => ⟨b2, o2, hb2, i0, hlt, _, _, _, f1.le hle4, fun M5 A5 cap5 hle5 hsl5 => ?_⟩⟩⟩
  refine s_slices_Concat_string _ _ _ _ _ (concat_is hsl5 ((hyf.le hle4).le hle5) (hsl4.le hle5) (strV_one _) (strV_one _) (by omega) (by omega) _ fun M6 A6 cap6 hle6 hsl6 => ?_)
  have e : strV (j.found p) ++ strV ((j.T.drop p).filter (accP j.rs)) = strV (j.T.filter (accP j.rs)) := by rw [← hall]; simp [strV]
  rw [e] at hsl6
  refine s_slices_Equal_string _ _ _ _ _ _ _ _ (strs_equal hsl6 ((hsl3.le hle4).le hle6) _ fun v hv => ⟨v, rfl, fin M4 (hle2.trans (hle3.trans hle4)) _ (by rw [hv.2 rfl]; rfl)⟩)
 refine ⟨b2, o2, hb2, i0, hlt, _, _, _, f1, fun h => by omega, fun _ => ⟨b2, o2, hb2, i0, hlt, _, _, _, f1, b2, o2, hb2, i0, hlt, _, _, _, f1, by omega, by have := hsl3.2.1; omega, ?_⟩⟩
 rw [Int.toNat_natCast]
 have hs4 := hsl3.first (j.found p).length hle'
 rw [Nat.mul_one, show (strV (j.T.filter (accP j.rs))).take (j.found p).length = strV (j.found p) by unfold strV; rw [← List.map_take, htk]] at hs4
 refine s_slices_Equal_string _ _ _ _ _ _ _ _ (strs_equal hyf hs4 _ fun v hv => ⟨v, rfl, ?_⟩)
 rw [hv.2 rfl]
 unfold S_chafftop_TopJobs_J2
 refine ⟨fun h => (by cases h), fun _ => ⟨b2, o2, hb2, i0, hlt, _, f3, fun hov => ⟨b2, o2, hb2, i0, hlt, _, _, _, f1, ?_⟩, fun _ => j3⟩⟩
 have hfa : j.found p = j.T.filter (accP j.rs) := by
  rw [hyr.cu] at hov
  unfold Jb.cur at hov
  split at hov
  ·cases hov
  ·rename_i hpT
   unfold Jb.found
   rw [List.take_of_length_le (by omega)]
 refine s_slices_Equal_string _ _ _ _ _ _ _ _ (strs_equal hyf hsl3 _ fun v hv => ⟨v, rfl, ?_⟩)
 rw [hv.2 hfa]
 exact j3
theorem holds : Rows.TopJobsSaid := top walk
#print axioms holds
end Go.Proofs.Ytmnilbfhfjdelaa.lawTopJobs
