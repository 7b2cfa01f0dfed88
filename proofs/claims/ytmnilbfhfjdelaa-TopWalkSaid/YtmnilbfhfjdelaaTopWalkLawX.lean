/- For every input TopWalk answers true and leaves its arguments as they were. No condition. -/
import Derived.Test.YtmnilbfhfjdelaaM3
import Derived.Test.YtmnilbfhfjdelaaTopWalkT
import Derived.Test.YtmnilbfhfjdelaaM5
namespace Go.Proofs.Ytmnilbfhfjdelaa.lawTopWalk
open Go.Gx Go.RowKit Go.ChangeShapes Go.WideShapes Go.ChangeAt
open core
set_option linter.unusedVariables false
theorem ex_of {H : Type} {enc : TypeId × Value → H} {w : World} : ∀ (n B : Nat) (x : X_api_Expr), In_api_Expr enc w n B x → ∃ e, ExR (HM w) e x := by
 intro n
 induction n using Nat.strongRecOn with
 | _ n ih =>
  intro B x hx
  obtain ⟨b6, h1, h2, h3, h4, h5, h6, h7, _⟩ := hx
  obtain ⟨xs, bs, hsl, hl, hm, hall, _⟩ := open_L_Expr h7
  obtain ⟨es, hes⟩ := All2.choose (R := ExR (HM w)) xs fun y hy => by
   obtain ⟨b, k, hk, hin⟩ := hall.left y hy
   exact ih k hk b y hin
  have hle := hes.length
  obtain ⟨k, s, t, A, l, c⟩ := x
  have : l = es.length := by rw [← hle]; exact hl.symm
  subst this
  exact ⟨.mk k s t es, .mk h1 ⟨h2, h3, h4, h5⟩ h6 hsl hle fun i e x he hx => hes.get' he hx⟩
theorem gr_of {H : Type} {enc : TypeId × Value → H} {w : World} {n B : Nat} {A : Option Addr} {l c : Nat} (h : In_L_Rule enc w n B ⟨A, l, c⟩) : ∃ rs, GrR (HM w) rs A l c := by
 obtain ⟨xs, bs, hsl, hl, hm, hall, _⟩ := open_L_Rule h
 obtain ⟨rs, hrs⟩ := All2.choose (R := RuR (HM w)) xs fun y hy => by
  obtain ⟨b, k, hk, hin⟩ := hall.left y hy
  obtain ⟨b7, h1, h2, h3, h4, h5, h6, h7, h8, _⟩ := hin
  obtain ⟨e, he⟩ := ex_of k _ y.Body ⟨b7, h2, h3, h4, h5, h6, h7, h8, Nat.le_refl _⟩
  exact ⟨⟨y.Name, e⟩, rfl, h1, he⟩
 have := hrs.length
 simp only at hl
 exact ⟨rs, xs, hsl, hrs, by omega⟩
theorem walk : WalkGoal := by
 intro H enc W x n B hx a ha n0 hn0
 obtain ⟨rs, hg⟩ := gr_of (A := x.a) (l := x.l) (c := x.c) hx
 refine s_chafftop_TopWalk _ _ _ _ _ _ _ ?_
 unfold S_chafftop_TopWalk
 generalize HM W = M at *
 refine s_chafftop_small _ _ _ _ (small_is a n0 ?_ _ fun a n => ⟨_, _, rfl, s_chafftop_begun _ _ (begun_is _ ⟨_, rfl, fun h => absurd rfl h, fun _ => ?_⟩)⟩)
 ·unfold maxLen; omega
 refine s_chafftop_right _ _ _ _ _ _ _ (tright_is hg a n _ ⟨_, rfl, ?_⟩)
 unfold S_chafftop_TopWalk_J1
 refine ⟨fun _ => s_chafftop_begun _ _ (begun_is _ ⟨_, rfl, rfl⟩), fun hr => ?_⟩
 have hP : listP rs a n = 0 := by
  by_cases h : listP rs a n = 0
  ·exact h
  ·exact absurd (by simp [h]) hr
 clear hr
 obtain ⟨hw, hal, h0, h6, hg5⟩ := listP_ok hP
 obtain ⟨a1, a8, hasc⟩ := alpha_ok hal
 obtain ⟨hE, hO⟩ := list0 hP
 have h10 := look_ok' hP
 obtain ⟨m, rfl⟩ : ∃ m : Nat, n = m := ⟨n.toNat, by omega⟩
 rw [Int.toNat_natCast] at hg5 hO
 have hlen := words_len a m
 have g7 : geo a.length (m + 1) ≤ geo a.length 7 := by
  rcases Nat.lt_or_ge (m + 1) 7 with h | h
  ·exact Nat.le_of_lt (geo_lt a1 h)
  ·rw [show m + 1 = 7 by omega]; exact Nat.le_refl _
 refine s_walk_Many _ _ _ _ (wmany_is a _ _ _ (fun h => absurd hal h) (fun _ h => absurd h (by omega)) fun _ _ _ => ⟨_, _, rfl, llist_is hg a _ ⟨[], false⟩ _ _ (fun h => absurd hE h) fun _ M1 A cap hle hsl => ⟨_, _, _, _, _, rfl, fun h => absurd rfl h, fun _ => ?_⟩⟩)
 unfold S_chafftop_TopWalk_J2
 rw [Int.toNat_natCast, hO]
 refine ⟨fun h => absurd h (by decide), fun _ => ⟨fun s c k => 0 ≤ k ∧ k ≤ geo a.length (m + 1) ∧ c = ((((wordsN a m).take k.toNat).filter (accP rs)).length : Nat) ∧ (k < geo a.length (m + 1) → rankN a s = k.toNat ∧ s.length ≤ 6 ∧ ∀ c ∈ s, c ∈ a), fun _ _ k => geo a.length (m + 1) - k.toNat, ⟨by omega, by omega, by simp, fun _ => ⟨by simp [rankN, geo, sumD], by simp, by simp⟩⟩, fun s c k ⟨k0, k1, hc, hs⟩ => ⟨fun hlt => ?_, fun hge => ?_⟩⟩⟩
 ·obtain ⟨hs1, hs6, hsin⟩ := hs hlt
  refine s_walk_Unrank _ _ _ _ (wunrank_is _ (fun h => absurd hal h) (fun _ h => by omega) fun _ _ _ t ht6 htin htr => ⟨_, _, rfl, ?_⟩)
  obtain rfl : t = s := rank_inj a1 htin hsin (by omega)
  have hlk : lookP rs t = 0 := by unfold lookP; rw [if_neg (fun h => h h10), if_neg (by omega)]
  refine s_list_Accepts _ _ _ _ _ _ (laccepts_is (hg.le hle) (fun h => absurd hlk h) fun _ => ⟨_, _, rfl, fun h => absurd rfl h, fun _ => ⟨fun h => absurd rfl h, fun _ => ?_⟩⟩)
  have hwt := words_at m t ((rank_le a1 hsin).2 (by omega)) hsin
  have htk : (wordsN a m).take (k + 1).toNat = (wordsN a m).take k.toNat ++ [t] := by
   rw [show (k + 1).toNat = k.toNat + 1 by omega, List.take_add_one, ← hs1, hwt]; rfl
  have hll : (((wordsN a m).take k.toNat).filter (accP rs)).length ≤ (wordsN a m).length := Nat.le_trans (List.length_filter_le _ _) (by rw [List.length_take]; omega)
  have nx : ∀ c' : Int, c' = ((((wordsN a m).take (k + 1).toNat).filter (accP rs)).length : Nat) → S_chafftop_TopWalk_J4 a M1 t c k (fun s c k => 0 ≤ k ∧ k ≤ geo a.length (m + 1) ∧ c = ((((wordsN a m).take k.toNat).filter (accP rs)).length : Nat) ∧ (k < geo a.length (m + 1) → rankN a s = k.toNat ∧ s.length ≤ 6 ∧ ∀ c ∈ s, c ∈ a)) (fun _ _ k => geo a.length (m + 1) - k.toNat) c' (fun v => v = .bool true) := by
   intro c' hc'
   unfold S_chafftop_TopWalk_J4
   have hmu : geo a.length (m + 1) - (k + 1).toNat < geo a.length (m + 1) - k.toNat := by omega
   refine e_walk_Next _ _ _ _ (wnext_is _ _ (fun h => absurd (over_of hal hs6 hsin) h) (fun _ h M2 _ => ⟨_, _, rfl, inI_big (by omega) (by omega), ⟨by omega, by omega, hc', fun h' => by omega⟩, hmu⟩) fun _ t' h61 hin1 hr1 M2 _ => ⟨_, _, rfl, inI_big (by omega) (by omega), ⟨by omega, by omega, hc', fun _ => ⟨by omega, h61, hin1⟩⟩, hmu⟩)
  unfold S_chafftop_TopWalk_J3
  refine ⟨fun h => absurd h (by simp), fun _ => ⟨fun ha => ⟨inI_big (by omega) (by omega), nx _ ?_⟩, fun ha => nx _ ?_⟩⟩
  ·rw [htk, List.filter_append, List.length_append, List.filter_cons_of_pos ha, hc]; simp
  ·rw [htk, List.filter_append, List.length_append, List.filter_cons_of_neg ha, hc]; simp
 ·have hk : k.toNat = (wordsN a m).length := by omega
  rw [hk, List.take_length] at hc
  rw [hc]
  simp
theorem holds : Rows.TopWalkSaid := top walk
#print axioms holds
end Go.Proofs.Ytmnilbfhfjdelaa.lawTopWalk
