/- For every input TopSame answers true and leaves its arguments as they were. No condition. -/
import Derived.Test.YtmnilbfhfjdelaaM3
import Derived.Test.YtmnilbfhfjdelaaTopSameT
import Derived.Test.YtmnilbfhfjdelaaM5
namespace Go.Proofs.Ytmnilbfhfjdelaa.lawTopSame
open Go.Gx Go.RowKit Go.ChangeShapes Go.WideShapes Go.ChangeAt
open core
set_option linter.unusedVariables false
theorem ex_of {H : Type} {enc : TypeId × Value → H} {w : World} : ∀ (n B : Nat) (x : X_api_Expr), In_api_Expr enc w n B x → ∃ e, ExR (HM w) e x := by
 intro n
 induction n using Nat.strongRecOn with
 | _ n ih =>
  intro B x hx
  obtain ⟨b6, h1, h2, h3, h4, h5, h6, h7, _⟩ := hx
  obtain ⟨xs, bs, hsl, hl, hm, hall, _⟩ := open_L_Expr h7
  obtain ⟨es, hes⟩ := All2.choose (R := ExR (HM w)) xs fun y hy => by
   obtain ⟨b, k, hk, hin⟩ := hall.left y hy
   exact ih k hk b y hin
  have hle := hes.length
  obtain ⟨k, s, t, A, l, c⟩ := x
  have : l = es.length := by rw [← hle]; exact hl.symm
  subst this
  exact ⟨.mk k s t es, .mk h1 ⟨h2, h3, h4, h5⟩ h6 hsl hle fun i e x he hx => hes.get' he hx⟩
theorem gr_of {H : Type} {enc : TypeId × Value → H} {w : World} {n B : Nat} {A : Option Addr} {l c : Nat} (h : In_L_Rule enc w n B ⟨A, l, c⟩) : ∃ rs, GrR (HM w) rs A l c := by
 obtain ⟨xs, bs, hsl, hl, hm, hall, _⟩ := open_L_Rule h
 obtain ⟨rs, hrs⟩ := All2.choose (R := RuR (HM w)) xs fun y hy => by
  obtain ⟨b, k, hk, hin⟩ := hall.left y hy
  obtain ⟨b7, h1, h2, h3, h4, h5, h6, h7, h8, _⟩ := hin
  obtain ⟨e, he⟩ := ex_of k _ y.Body ⟨b7, h2, h3, h4, h5, h6, h7, h8, Nat.le_refl _⟩
  exact ⟨⟨y.Name, e⟩, rfl, h1, he⟩
 have := hrs.length
 simp only at hl
 exact ⟨rs, xs, hsl, hrs, by omega⟩
theorem filter_iff {W : List (List UInt8)} {f g : List UInt8 → Bool} : W.filter f = W.filter g ↔ ∀ t ∈ W, f t = g t := by
 refine ⟨fun h t ht => ?_, fun h => List.filter_congr h⟩
 have : t ∈ W.filter f ↔ t ∈ W.filter g := by rw [h]
 simp only [List.mem_filter, ht, true_and] at this
 exact Bool.eq_iff_iff.2 this
theorem least_cases (rs ss : List Ru) (W : List (List UInt8)) : (leastO rs ss W = ([], 0, 12) ∧ W.filter (accP rs) = W.filter (accP ss)) ∨ ∃ t, t ∈ W ∧ accP rs t ≠ accP ss t ∧ leastO rs ss W = (t, if accP rs t = true then 1 else 2, 0) ∧ W.filter (accP rs) ≠ W.filter (accP ss) := by
 unfold leastO
 cases h : W.find? (difL rs ss) with
 | none =>
  refine .inl ⟨rfl, filter_iff.2 fun t ht => ?_⟩
  have := List.find?_eq_none.1 h t ht
  unfold difL at this
  simpa using this
 | some t =>
  have hm := List.mem_of_find?_eq_some h
  have hd := List.find?_some h
  unfold difL at hd
  have hd' : accP rs t ≠ accP ss t := by simpa using hd
  exact .inr ⟨t, hm, hd', rfl, fun he => hd' (filter_iff.1 he t hm)⟩
theorem walk : WalkGoal := by
 intro H enc W x n B hx y n1 B1 hy a ha n0 hn0
 obtain ⟨rs, hg⟩ := gr_of (A := x.a) (l := x.l) (c := x.c) hx
 obtain ⟨ss, hh⟩ := gr_of (A := y.a) (l := y.l) (c := y.c) hy
 refine s_chafftop_TopSame _ _ _ _ _ _ _ _ _ _ ?_
 unfold S_chafftop_TopSame
 generalize HM W = M at *
 refine s_chafftop_small _ _ _ _ (small_is a n0 ?_ _ fun a n => ⟨_, _, rfl, s_chafftop_begun _ _ (begun_is _ ⟨_, rfl, fun h => absurd rfl h, fun _ => ?_⟩)⟩)
 ·unfold maxLen; omega
 have no : S_chafftop_TopSame_J1 x.a x.l x.c y.a y.l y.c M a n true (fun v => v = .bool true) := by
  unfold S_chafftop_TopSame_J1
  exact ⟨fun _ => s_chafftop_begun _ _ (begun_is _ ⟨_, rfl, rfl⟩), fun h => absurd rfl h⟩
 refine s_chafftop_right _ _ _ _ _ _ _ (tright_is hg a n _ ⟨_, rfl, fun _ => no, fun hr => ?_⟩)
 have hP : listP rs a n = 0 := by simpa using hr
 refine s_chafftop_right _ _ _ _ _ _ _ (tright_is hh a n _ ⟨_, rfl, ?_⟩)
 by_cases hQ : listP ss a n = 0
 rotate_left
 ·rw [show (!(listP ss a n == 0)) = true by simpa using hQ]; exact no
 rw [show (!(listP ss a n == 0)) = false by simp [hQ]]
 unfold S_chafftop_TopSame_J1
 refine ⟨fun h => absurd h (by decide), fun _ => ?_⟩
 obtain ⟨hE, hO⟩ := list0 hP
 obtain ⟨hE', hO'⟩ := list0 hQ
 have hL : leastE rs ss a n = 0 := by unfold leastE; rw [if_neg (fun h => h hP)]; exact hQ
 refine llist_is hg a _ ⟨[], false⟩ _ _ (fun h => absurd hE h) fun _ M1 A cap hle hsl => ⟨_, _, _, _, _, rfl, ?_⟩
 refine llist_is (hh.le hle) a _ ⟨[], false⟩ _ _ (fun h => absurd hE' h) fun _ M2 A2 cap2 hle2 hsl2 => ⟨_, _, _, _, _, rfl, ?_⟩
 replace hsl := hsl.le hle2
 rw [hO] at hsl ⊢
 rw [hO'] at hsl2 ⊢
 refine lleast_is ((hg.le hle).le hle2) ((hh.le hle).le hle2) a _ _ (fun h => absurd hL h) fun _ => ⟨_, _, _, rfl, fun h => absurd rfl h, fun _ => ⟨fun h => absurd rfl h, fun _ => ?_⟩⟩
 refine s_slices_Equal_string _ _ _ _ _ _ _ _ (strs_equal hsl hsl2 _ fun v hv => ⟨v, rfl, ?_⟩)
 unfold S_chafftop_TopSame_J2
 rcases least_cases rs ss (wordsN a n.toNat) with ⟨e, h⟩ | ⟨t, ht, hd, e, h⟩
 ·rw [e, hv.2 h]
  exact ⟨fun h => absurd h (by decide), fun _ => ⟨fun _ => rfl, fun h => absurd rfl h⟩⟩
 ·rw [e, show v = false from Bool.eq_false_iff.2 fun hv' => h (hv.1 hv')]
  refine ⟨fun h => absurd h (by simp), fun _ => ⟨fun h => absurd h (by simp), fun _ => ⟨fun _ => ?_, fun h => absurd rfl h⟩⟩⟩
  refine s_slices_Contains_string _ _ _ _ _ _ (strs_contains hsl t _ ⟨_, rfl, ?_⟩)
  have e1 : ∀ f : List UInt8 → Bool, decide (t ∈ (wordsN a n.toNat).filter f) = f t := by intro f; simp [List.mem_filter, ht]
  rw [e1]
  refine ⟨fun _ => s_slices_Contains_string _ _ _ _ _ _ (strs_contains hsl2 t _ ⟨_, rfl, ?_⟩), fun hn => absurd ?_ hn⟩
  ·rw [e1]
   revert hd
   cases accP rs t <;> cases accP ss t <;> simp
  ·cases accP rs t <;> simp
theorem holds : Rows.TopSameSaid := top walk
#print axioms holds
end Go.Proofs.Ytmnilbfhfjdelaa.lawTopSame
