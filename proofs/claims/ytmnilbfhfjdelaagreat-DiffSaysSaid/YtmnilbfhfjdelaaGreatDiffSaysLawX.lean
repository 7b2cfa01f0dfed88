/- For every input DiffSays answers true and leaves its arguments as they were. No condition. -/
import Derived.Test.YtmnilbfhfjdelaaGreatM3
import Derived.Test.YtmnilbfhfjdelaaGreatDiffSaysT
import Derived.Test.YtmnilbfhfjdelaaGreatM5
namespace Go.Proofs.YtmnilbfhfjdelaaGreat.lawDiffSays
open Go.Gx Go.RowKit Go.ChangeShapes Go.WideShapes Go.ChangeAt
open core
set_option linter.unusedVariables false
theorem ex_of {H : Type} {enc : TypeId × Value → H} {w : World} : ∀ (n B : Nat) (x : X_api_Expr), In_api_Expr enc w n B x → ∃ e, ExR (HM w) e x := by
 intro n
 induction n using Nat.strongRecOn with
 | _ n ih =>
  intro B x hx
  obtain ⟨b6, h1, h2, h3, h4, h5, h6, h7, _⟩ := hx
  obtain ⟨xs, bs, hsl, hl, hm, hall, _⟩ := open_L_Expr h7
  obtain ⟨es, hes⟩ := All2.choose (R := ExR (HM w)) xs fun y hy => by
   obtain ⟨b, k, hk, hin⟩ := hall.left y hy
   exact ih k hk b y hin
  have hle := hes.length
  obtain ⟨k, s, t, A, l, c⟩ := x
  have : l = es.length := by rw [← hle]; exact hl.symm
  subst this
  exact ⟨.mk k s t es, .mk h1 ⟨h2, h3, h4, h5⟩ h6 hsl hle fun i e x he hx => hes.get' he hx⟩
theorem gr_of {H : Type} {enc : TypeId × Value → H} {w : World} {n B : Nat} {A : Option Addr} {l c : Nat} (h : In_L_Rule enc w n B ⟨A, l, c⟩) : ∃ rs, GrR (HM w) rs A l c := by
 obtain ⟨xs, bs, hsl, hl, hm, hall, _⟩ := open_L_Rule h
 obtain ⟨rs, hrs⟩ := All2.choose (R := RuR (HM w)) xs fun y hy => by
  obtain ⟨b, k, hk, hin⟩ := hall.left y hy
  obtain ⟨b7, h1, h2, h3, h4, h5, h6, h7, h8, _⟩ := hin
  obtain ⟨e, he⟩ := ex_of k _ y.Body ⟨b7, h2, h3, h4, h5, h6, h7, h8, Nat.le_refl _⟩
  exact ⟨⟨y.Name, e⟩, rfl, h1, he⟩
 have := hrs.length
 simp only at hl
 exact ⟨rs, xs, hsl, hrs, by omega⟩
theorem least_at {rs ss : List Ru} : ∀ {l : List (List UInt8)} {i : Nat} {x : List UInt8}, l[i]? = some x → (∀ (j : Nat) y, j < i → l[j]? = some y → difL rs ss y = false) → difL rs ss x = true → leastO rs ss l = (x, if accP rs x = true then 1 else 2, 0)
 | [], i, x, h, _, _ => by simp at h
 | y :: l, 0, x, h, _, hx => by
  simp only [List.getElem?_cons_zero, Option.some.injEq] at h
  subst h
  unfold leastO
  rw [List.find?_cons_of_pos hx]
 | y :: l, i + 1, x, h, hp, hx => by
  have h0 := hp 0 y (by omega) rfl
  have ih := least_at (l := l) (i := i) (x := x) (by simpa using h) (fun j z hj hz => hp (j + 1) z (by omega) (by simpa using hz)) hx
  unfold leastO at ih ⊢
  rw [List.find?_cons_of_neg (by rw [h0]; decide)]
  exact ih
theorem least_none {rs ss : List Ru} {l : List (List UInt8)} (h : ∀ y ∈ l, difL rs ss y = false) : leastO rs ss l = ([], 0, 12) := by
 unfold leastO
 rw [List.find?_eq_none.2 (fun t ht => by rw [h t ht]; decide)]
theorem walk : WalkGoal := by
 intro H enc W x n B hx y n1 B1 hy a ha k hk
 obtain ⟨rs, hg⟩ := gr_of (A := x.a) (l := x.l) (c := x.c) hx
 obtain ⟨ss, hh⟩ := gr_of (A := y.a) (l := y.l) (c := y.c) hy
 refine e_chafflaw_DiffSays _ _ _ _ _ _ _ _ _ _ ?_
 unfold S_chafflaw_DiffSays
 generalize HM W = M at *
 have bad : leastE rs ss a k ≠ 0 → S_chafflaw_DiffSays_J1 x.a x.l x.c y.a y.l y.c a k M [] 0 (leastE rs ss a k) (leastE rs ss a k) (fun v _ => v = .bool true) := by
  intro h
  unfold S_chafflaw_DiffSays_J1
  exact ⟨fun _ => ⟨fun _ => ⟨fun _ _ _ => rfl, fun hn => absurd rfl hn⟩, fun hn => absurd rfl hn⟩, fun hn => absurd h hn⟩
 have fin : ∀ (s : List UInt8) (side er : Int), (leastE rs ss a k ≠ 0 → s = [] ∧ side = 0 ∧ er = leastE rs ss a k) → (leastE rs ss a k = 0 → leastO rs ss (wordsN a k.toNat) = (s, side, er)) → CallE Tryz.prog 7 #[.agg #[.slice x.a x.l x.c], .string (mkS a), .int .i64 k] M (fun v _ => ∃ (x14 : Int), v = (Value.int .i64 x14) ∧ (((x14 : Int) = 0 → (CallE Tryz.prog 7 #[.agg #[.slice y.a y.l y.c], .string (mkS a), .int .i64 k] M (fun v _ => ∃ (x15 : Int), v = (Value.int .i64 x15) ∧ (S_chafflaw_DiffSays_J1 x.a x.l x.c y.a y.l y.c a k M s side er x15 (fun v _ => v = .bool true))))) ∧ (¬ ((x14 : Int) = 0) → (S_chafflaw_DiffSays_J1 x.a x.l x.c y.a y.l y.c a k M s side er x14 (fun v _ => v = .bool true))))) := by
  intro s side er he ho
  refine s_chaffref_Listable _ _ _ _ _ _ _ (rlistable_is hg a k _ ⟨_, rfl, fun h0 => s_chaffref_Listable _ _ _ _ _ _ _ (rlistable_is hh a k _ ⟨_, rfl, ?_⟩), fun h0 => ?_⟩)
  ·have e : leastE rs ss a k = listP ss a k := by unfold leastE; rw [if_neg (fun h => h h0)]
   by_cases h1 : listP ss a k = 0
   ·replace ho := ho (by rw [e]; exact h1)
    obtain ⟨hwr, hal, hn0, hn6, hg5⟩ := listP_ok h0
    obtain ⟨hws, _⟩ := listP_ok h1
    obtain ⟨a1, a8, hasc⟩ := alpha_ok hal
    obtain ⟨m, rfl⟩ : ∃ m : Nat, k = m := ⟨k.toNat, by omega⟩
    rw [Int.toNat_natCast] at ho hg5
    rw [h1]
    unfold S_chafflaw_DiffSays_J1
    refine ⟨fun hn => absurd rfl hn, fun _ => s_chaffref_Words _ _ _ _ (rwords_is a8 (by omega) _ fun M1 A cap hle hsl => ⟨_, _, _, rfl, ?_⟩)⟩
    have hlen := words_len a m
    have hsl2 := hsl
    rw [strV_cl] at hsl2
    refine ⟨fun i => 0 ≤ i ∧ i ≤ (wordsN a m).length ∧ ∀ (j : Nat) z, (j : Int) < i → (wordsN a m)[j]? = some z → difL rs ss z = false, fun i => (wordsN a m).length - i.toNat, ⟨by omega, by omega, fun j z h => by omega⟩, fun i ⟨i0, il, hall⟩ => ⟨fun hlt => ?_, fun hge => ?_⟩⟩
    ·obtain ⟨z, hz⟩ := core.getI (l := wordsN a m) i0 hlt
     obtain ⟨b1, o1, hb, hat⟩ := hsl2.at sC_len rfl hz
     have hz6 := (words_mem hasc (List.mem_of_getElem? hz)).1
     refine ⟨b1, o1, hb, i0, hlt, z, hat, s_chaffref_Accepts _ _ _ _ _ _ (raccepts_is hwr (by omega) (hg.le hle) ⟨_, rfl, s_chaffref_Accepts _ _ _ _ _ _ (raccepts_is hws (by omega) (hh.le hle) ⟨_, rfl, fun hne => ?_, fun heq => ?_⟩)⟩)⟩
     ·have hd : difL rs ss z = true := by unfold difL; rw [bne_iff_ne]; exact hne
      rw [least_at (i := i.toNat) hz (fun j w hj hw => hall j w (by omega) hw) hd] at ho
      simp only [Prod.mk.injEq] at ho
      obtain ⟨rfl, rfl, rfl⟩ := ho
      refine ⟨fun _ => ⟨fun _ M39 r h1 h2 h3 M41 h4 M42 h5 M' h6 => ?_, fun hn => absurd rfl hn⟩, fun hn => absurd rfl hn⟩
      cases accP rs z <;> rfl
     ·have hd : difL rs ss z = false := by
       unfold difL
       rw [bne_eq_false_iff_eq]
       exact Decidable.not_not.1 heq
      refine ⟨inI_big (by omega) (by omega), ⟨by omega, by omega, fun j w hj hw => ?_⟩, by show (wordsN a m).length - (i + 1).toNat < (wordsN a m).length - i.toNat; omega⟩
      by_cases hji : (j : Int) < i
      ·exact hall j w hji hw
      ·rw [show j = i.toNat by omega, hz] at hw
       cases hw; exact hd
    ·rw [least_none (fun w hw => by
      obtain ⟨j, hj⟩ := List.mem_iff_getElem?.1 hw
      have := (List.getElem?_eq_some_iff.1 hj).1
      exact hall j w (by omega) hj)] at ho
     simp only [Prod.mk.injEq] at ho
     obtain ⟨rfl, rfl, rfl⟩ := ho
     exact ⟨fun _ => ⟨fun _ _ _ => rfl, fun hn => absurd rfl hn⟩, fun hn => absurd rfl hn⟩
   ·obtain ⟨rfl, rfl, rfl⟩ := he (by rw [e]; exact h1)
    have := bad (by rw [e]; exact h1)
    rw [e] at this ⊢; exact this
  ·have e : leastE rs ss a k = listP rs a k := by unfold leastE; rw [if_pos h0]
   obtain ⟨rfl, rfl, rfl⟩ := he (by rw [e]; exact h0)
   have := bad (by rw [e]; exact h0)
   rw [e] at this ⊢; exact this
 refine lleast_is hg hh a k _ (fun h => ⟨_, _, _, rfl, fin _ _ _ (fun _ => ⟨rfl, rfl, rfl⟩) fun h' => absurd h' h⟩) fun h => ⟨_, _, _, rfl, fin _ _ _ (fun h' => absurd h h') fun _ => rfl⟩
theorem holds : Rows.DiffSaysSaid := top walk
#print axioms holds
end Go.Proofs.YtmnilbfhfjdelaaGreat.lawDiffSays
