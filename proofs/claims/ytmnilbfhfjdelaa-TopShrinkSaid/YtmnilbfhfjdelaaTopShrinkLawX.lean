/- For every input TopShrink answers true and leaves its arguments as they were. No condition. -/
import Derived.Test.YtmnilbfhfjdelaaM3
import Derived.Test.YtmnilbfhfjdelaaTopShrinkT
import Derived.Test.YtmnilbfhfjdelaaM5
namespace Go.Proofs.Ytmnilbfhfjdelaa.lawTopShrink
open Go.Gx Go.RowKit Go.ChangeShapes Go.WideShapes Go.ChangeAt
open core
set_option linter.unusedVariables false
theorem ex_of {H : Type} {enc : TypeId × Value → H} {w : World} : ∀ (n B : Nat) (x : X_api_Expr), In_api_Expr enc w n B x → ∃ e, ExR (HM w) e x := by
 intro n
 induction n using Nat.strongRecOn with
 | _ n ih =>
  intro B x hx
  obtain ⟨b6, h1, h2, h3, h4, h5, h6, h7, _⟩ := hx
  obtain ⟨xs, bs, hsl, hl, hm, hall, _⟩ := open_L_Expr h7
  obtain ⟨es, hes⟩ := All2.choose (R := ExR (HM w)) xs fun y hy => by
   obtain ⟨b, k, hk, hin⟩ := hall.left y hy
   exact ih k hk b y hin
  have hle := hes.length
  obtain ⟨k, s, t, A, l, c⟩ := x
  have : l = es.length := by rw [← hle]; exact hl.symm
  subst this
  exact ⟨.mk k s t es, .mk h1 ⟨h2, h3, h4, h5⟩ h6 hsl hle fun i e x he hx => hes.get' he hx⟩
theorem gr_of {H : Type} {enc : TypeId × Value → H} {w : World} {n B : Nat} {A : Option Addr} {l c : Nat} (h : In_L_Rule enc w n B ⟨A, l, c⟩) : ∃ rs, GrR (HM w) rs A l c := by
 obtain ⟨xs, bs, hsl, hl, hm, hall, _⟩ := open_L_Rule h
 obtain ⟨rs, hrs⟩ := All2.choose (R := RuR (HM w)) xs fun y hy => by
  obtain ⟨b, k, hk, hin⟩ := hall.left y hy
  obtain ⟨b7, h1, h2, h3, h4, h5, h6, h7, h8, _⟩ := hin
  obtain ⟨e, he⟩ := ex_of k _ y.Body ⟨b7, h2, h3, h4, h5, h6, h7, h8, Nat.le_refl _⟩
  exact ⟨⟨y.Name, e⟩, rfl, h1, he⟩
 have := hrs.length
 simp only at hl
 exact ⟨rs, xs, hsl, hrs, by omega⟩
theorem first_is {rs ss : List Ru} {a : List UInt8} {n : Nat} (a1 : 1 ≤ a.length) (hasc : Asc a) : (leastO rs ss (wordsN a n) = ([], 0, 12)) ∨ ∃ s, s ∈ wordsN a n ∧ accP rs s ≠ accP ss s ∧ leastO rs ss (wordsN a n) = (s, if accP rs s = true then 1 else 2, 0) ∧ ∀ t : List UInt8, t.Sublist s → accP rs t ≠ accP ss t → t = s := by
 unfold leastO
 cases h : (wordsN a n).find? (difL rs ss) with
 | none => exact .inl rfl
 | some s =>
  obtain ⟨hs, pre, post, e, hall⟩ := List.find?_eq_some_iff_append.1 h
  have hd' : accP rs s ≠ accP ss s := by unfold difL at hs; simpa using hs
  have hat : (wordsN a n)[pre.length]? = some s := by rw [e]; simp
  obtain ⟨hsn, hsin, hr⟩ := words_is hasc n _ s hat
  refine .inr ⟨s, List.mem_of_getElem? hat, hd', rfl, fun t hsub hd => ?_⟩
  rcases Nat.lt_or_ge t.length s.length with hlt | hge
  ·have htin : ∀ c ∈ t, c ∈ a := fun c hc => hsin c (hsub.mem hc)
   have ht := words_at n t (by omega) htin
   obtain ⟨_, r2⟩ := rank_lt a1 htin
   obtain ⟨r1, _⟩ := rank_lt a1 hsin
   have hlt2 : rankN a t < pre.length := by
    rw [← hr]
    refine Nat.lt_of_lt_of_le r2 (Nat.le_trans ?_ r1)
    rcases Nat.lt_or_ge (t.length + 1) s.length with h' | h'
    ·exact Nat.le_of_lt (geo_lt a1 h')
    ·rw [show s.length = t.length + 1 by omega]; exact Nat.le_refl _
   rw [e, List.getElem?_append_left hlt2] at ht
   have := hall t (List.mem_of_getElem? ht)
   unfold difL at this
   exact absurd (by simpa using this) hd
  ·exact hsub.eq_of_length_le hge
theorem walk : WalkGoal := by
 intro H enc W x n B hx y n1 B1 hy a ha n0 hn0
 obtain ⟨rs, hg⟩ := gr_of (A := x.a) (l := x.l) (c := x.c) hx
 obtain ⟨ss, hh⟩ := gr_of (A := y.a) (l := y.l) (c := y.c) hy
 refine s_chafftop_TopShrink _ _ _ _ _ _ _ _ _ _ ?_
 unfold S_chafftop_TopShrink
 generalize HM W = M at *
 refine s_chafftop_small _ _ _ _ (small_is a n0 ?_ _ fun a n => ⟨_, _, rfl, s_chafftop_begun _ _ (begun_is _ ⟨_, rfl, fun h => absurd rfl h, fun _ => ?_⟩)⟩)
 ·unfold maxLen; omega
 have no : S_chafftop_TopShrink_J1 x.a x.l x.c y.a y.l y.c M a n true (fun v => v = .bool true) := by
  unfold S_chafftop_TopShrink_J1
  exact ⟨fun _ => s_chafftop_begun _ _ (begun_is _ ⟨_, rfl, rfl⟩), fun h => absurd rfl h⟩
 refine s_chafftop_right _ _ _ _ _ _ _ (tright_is hg a n _ ⟨_, rfl, fun _ => no, fun hr => ?_⟩)
 have hP : listP rs a n = 0 := by simpa using hr
 refine s_chafftop_right _ _ _ _ _ _ _ (tright_is hh a n _ ⟨_, rfl, ?_⟩)
 by_cases hQ : listP ss a n = 0
 rotate_left
 ·rw [show (!(listP ss a n == 0)) = true by simpa using hQ]; exact no
 rw [show (!(listP ss a n == 0)) = false by simp [hQ]]
 unfold S_chafftop_TopShrink_J1
 refine ⟨fun h => absurd h (by decide), fun _ => ?_⟩
 obtain ⟨_, hal, h0, h6, hg5⟩ := listP_ok hP
 obtain ⟨a1, a8, hasc⟩ := alpha_ok hal
 have hL : leastE rs ss a n = 0 := by unfold leastE; rw [if_neg (fun h => h hP)]; exact hQ
 refine lleast_is hg hh a _ _ (fun h => absurd hL h) fun _ => ⟨_, _, _, rfl, ?_⟩
 rcases first_is (rs := rs) (ss := ss) (n := n.toNat) a1 hasc with e | ⟨s, hs, hd, e, hmin⟩
 ·rw [e]
  exact ⟨fun _ => rfl, fun h => absurd (by decide) h⟩
 rw [e]
 dsimp only
 have h1 := look_ok' hP
 have h2 := look_ok' hQ
 obtain ⟨hsn, hsin⟩ := words_mem hasc hs
 have hp : predE 3 rs ss = 0 := by unfold predE; simp [h1, h2]
 have hhd : holdsP 3 rs ss = fun t => !(accP rs t == accP ss t) := by funext t; unfold holdsP; simp
 have fine : ∀ (gs : List Ru) (t : List UInt8), (wellP gs).2 = 0 → t.length ≤ 60 → lookP gs t = 0 := by
  intro gs t h ht
  unfold lookP; rw [if_neg (fun h' => h' h), if_neg (by omega)]
 refine ⟨fun h => absurd rfl h, fun _ => ?_⟩
 refine s_shrink_Shrink _ _ _ _ (shrink_is (p := X_api_Pred.mk 3 x.a x.l x.c y.a y.l y.c) (ra := rs) (rb := ss) hg hh (fun h => absurd hp h) (fun _ h => by omega) (fun _ _ h => absurd h (by rw [hhd]; simpa using hd)) fun _ _ _ t ht => ⟨_, _, rfl, ?_⟩)
 obtain ⟨hsub, hft, _⟩ := ht
 have hft' : accP rs t ≠ accP ss t := by
  have : (!(accP rs t == accP ss t)) = true := by rw [← hft]; exact (congrFun hhd t).symm
  simpa using this
 obtain rfl := hmin t hsub hft'
 refine s_list_Accepts _ _ _ _ _ _ (laccepts_is hg (fun h => absurd (fine _ _ h1 (by omega)) h) fun _ => ⟨_, _, rfl, s_list_Accepts _ _ _ _ _ _ (laccepts_is hh (fun h => absurd (fine _ _ h2 (by omega)) h) fun _ => ⟨_, _, rfl, fun _ => ⟨fun _ => ?_, fun h => absurd rfl h⟩, fun h => absurd rfl h⟩)⟩)
 revert hft'
 cases accP rs t <;> cases accP ss t <;> simp
theorem holds : Rows.TopShrinkSaid := top walk
#print axioms holds
end Go.Proofs.Ytmnilbfhfjdelaa.lawTopShrink
