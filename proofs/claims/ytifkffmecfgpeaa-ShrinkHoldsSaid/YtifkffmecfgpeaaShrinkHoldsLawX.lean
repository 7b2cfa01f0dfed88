/- For every input ShrinkHolds answers true and leaves its arguments as they were. No condition. -/
import Derived.Test.YtifkffmecfgpeaaM3
import Derived.Test.YtifkffmecfgpeaaShrinkHoldsT
import Derived.Test.YtifkffmecfgpeaaM5
namespace Go.Proofs.Ytifkffmecfgpeaa.lawShrinkHolds
open Go.Gx Go.RowKit Go.ChangeShapes Go.WideShapes Go.ChangeAt
open core
set_option linter.unusedVariables false
theorem ex_of {H : Type} {enc : TypeId × Value → H} {w : World} : ∀ (n B : Nat) (x : X_api_Expr), In_api_Expr enc w n B x → ∃ e, ExR (HM w) e x := by
 intro n
 induction n using Nat.strongRecOn with
 | _ n ih =>
  intro B x hx
  obtain ⟨b6, h1, h2, h3, h4, h5, h6, h7, _⟩ := hx
  obtain ⟨xs, bs, hsl, hl, hm, hall, _⟩ := open_L_Expr h7
  obtain ⟨es, hes⟩ := All2.choose (R := ExR (HM w)) xs fun y hy => by
   obtain ⟨b, k, hk, hin⟩ := hall.left y hy
   exact ih k hk b y hin
  have hle := hes.length
  obtain ⟨k, s, t, A, l, c⟩ := x
  have : l = es.length := by rw [← hle]; exact hl.symm
  subst this
  exact ⟨.mk k s t es, .mk h1 ⟨h2, h3, h4, h5⟩ h6 hsl hle fun i e x he hx => hes.get' he hx⟩
theorem gr_of {H : Type} {enc : TypeId × Value → H} {w : World} {n B : Nat} {A : Option Addr} {l c : Nat} (h : In_L_Rule enc w n B ⟨A, l, c⟩) : ∃ rs, GrR (HM w) rs A l c := by
 obtain ⟨xs, bs, hsl, hl, hm, hall, _⟩ := open_L_Rule h
 obtain ⟨rs, hrs⟩ := All2.choose (R := RuR (HM w)) xs fun y hy => by
  obtain ⟨b, k, hk, hin⟩ := hall.left y hy
  obtain ⟨b7, h1, h2, h3, h4, h5, h6, h7, h8, _⟩ := hin
  obtain ⟨e, he⟩ := ex_of k _ y.Body ⟨b7, h2, h3, h4, h5, h6, h7, h8, Nat.le_refl _⟩
  exact ⟨⟨y.Name, e⟩, rfl, h1, he⟩
 have := hrs.length
 simp only at hl
 exact ⟨rs, xs, hsl, hrs, by omega⟩
def predE (k : Int) (ra rb : List Ru) : Int := if k < 1 ∨ 3 < k then 1 else if (wellP ra).2 ≠ 0 then (wellP ra).2 else if k = 3 then (wellP rb).2 else if rb.length ≠ 0 then 3 else 0
noncomputable def holdsP (k : Int) (ra rb : List Ru) (s : List UInt8) : Bool := if k = 1 then accP ra s else if k = 2 then !accP ra s else !(accP ra s == accP rb s)
section
variable {p : X_api_Pred} {ra rb : List Ru} {s : List UInt8} {M : Mem} {K : Value → Prop}
theorem check_is (ha : GrR M ra p.A_Rules_a p.A_Rules_l p.A_Rules_c) (hb : GrR M rb p.B_Rules_a p.B_Rules_l p.B_Rules_c) (hK : K (.int .i64 (predE p.Kind ra rb))) : S_shrink_Check p M K := by
 have hl := hb.len
 have j1 : ∀ v : Bool, v = decide (p.Kind < 1 ∨ 3 < p.Kind) → S_shrink_Check_J1 p M v K := by
  intro v hv
  unfold S_shrink_Check_J1
  unfold predE at hK
  refine ⟨fun ht => by rw [if_pos (of_decide_eq_true (by rw [← hv, ht]))] at hK; exact hK, fun hf => ?_⟩
  rw [if_neg (fun h => hf (by rw [hv, decide_eq_true h]))] at hK
  refine s_well_Well _ _ _ _ _ (wwell_is ha _ ⟨_, _, rfl, fun h => by rw [if_pos h] at hK; exact hK, fun h => ?_⟩)
  rw [if_neg h] at hK
  refine ⟨fun k3 => ?_, fun n3 => ?_⟩
  ·rw [if_pos k3] at hK
   exact s_well_Well _ _ _ _ _ (wwell_is hb _ ⟨_, _, rfl, hK⟩)
  ·rw [if_neg n3] at hK
   exact ⟨fun hgt => by rw [if_pos (by omega)] at hK; exact hK, fun hle => by rw [if_neg (by omega)] at hK; exact hK⟩
 unfold S_shrink_Check
 exact ⟨fun h => j1 _ (by symm; exact decide_eq_true (.inl h)), fun h => j1 _ (by rw [decide_eq_decide]; omega)⟩
theorem pred_is (ha : GrR M ra p.A_Rules_a p.A_Rules_l p.A_Rules_c) (hb : GrR M rb p.B_Rules_a p.B_Rules_l p.B_Rules_c) (hK : K (.int .i64 (predE p.Kind ra rb))) : S_chaffref_Pred p M K := by
 have hl := hb.len
 have j1 : ∀ v : Bool, v = decide (p.Kind < 1 ∨ 3 < p.Kind) → S_chaffref_Pred_J1 p M v K := by
  intro v hv
  unfold S_chaffref_Pred_J1
  unfold predE at hK
  refine ⟨fun ht => by rw [if_pos (of_decide_eq_true (by rw [← hv, ht]))] at hK; exact hK, fun hf => ?_⟩
  rw [if_neg (fun h => hf (by rw [hv, decide_eq_true h]))] at hK
  refine s_chaffref_Well _ _ _ _ _ (rwell_is ha _ ⟨_, _, rfl, fun h => by rw [if_pos h] at hK; exact hK, fun h => ?_⟩)
  rw [if_neg h] at hK
  refine ⟨fun k3 => ?_, fun n3 => ?_⟩
  ·rw [if_pos k3] at hK
   exact s_chaffref_Well _ _ _ _ _ (rwell_is hb _ ⟨_, _, rfl, hK⟩)
  ·rw [if_neg n3] at hK
   exact ⟨fun hgt => by rw [if_pos (by omega)] at hK; exact hK, fun hle => by rw [if_neg (by omega)] at hK; exact hK⟩
 unfold S_chaffref_Pred
 exact ⟨fun h => j1 _ (by symm; exact decide_eq_true (.inl h)), fun h => j1 _ (by rw [decide_eq_decide]; omega)⟩
theorem pred_well (h : predE p.Kind ra rb = 0) : 1 ≤ p.Kind ∧ p.Kind ≤ 3 ∧ (wellP ra).2 = 0 ∧ (p.Kind = 3 → (wellP rb).2 = 0) := by
 unfold predE at h
 split at h
 ·cases h
 split at h
 ·rename_i h1; exact absurd h h1
 rename_i h0 h1
 refine ⟨by omega, by omega, Decidable.not_not.1 h1, fun k3 => ?_⟩
 rw [if_pos k3] at h; exact h
theorem look_of (h : (wellP ra).2 = 0) (hs : s.length ≤ 60) : lookP ra s = 0 := by
 unfold lookP
 rw [if_neg (fun h' => h' h), if_neg (by omega)]
theorem holds_is (ha : GrR M ra p.A_Rules_a p.A_Rules_l p.A_Rules_c) (hb : GrR M rb p.B_Rules_a p.B_Rules_l p.B_Rules_c) (h1 : predE p.Kind ra rb ≠ 0 → K (.tuple #[.bool false, .int .i64 (predE p.Kind ra rb)])) (h2 : predE p.Kind ra rb = 0 → 60 < s.length → K (.tuple #[.bool false, .int .i64 2])) (h3 : predE p.Kind ra rb = 0 → s.length ≤ 60 → K (.tuple #[.bool (holdsP p.Kind ra rb s), .int .i64 0])) : S_shrink_Holds p s M K := by
 unfold S_shrink_Holds
 refine s_shrink_Check _ _ _ (check_is ha hb ⟨_, rfl, h1, fun hn => ⟨fun hgt => h2 (Decidable.not_not.1 hn) (by omega), fun hle => ?_⟩⟩)
 have h0 := Decidable.not_not.1 hn
 have hs : s.length ≤ 60 := by omega
 obtain ⟨k1, k3, hwa, hwb⟩ := pred_well h0
 have h3 := h3 h0 hs
 unfold holdsP at h3
 have la := look_of hwa hs
 refine s_shrink_test _ _ _ ?_
 unfold S_shrink_test
 refine ⟨fun e1 M3 b2 hle3 hat M4 hle4 => ⟨_, rfl, f_shrink_test_1 _ _ _ _ ?_⟩, fun e1 => ⟨fun e2 M3 b2 hle3 hat M4 hle4 => ⟨_, rfl, f_shrink_test_2 _ _ _ _ ?_⟩, fun e2 M3 b2 hle3 hat M4 hle4 => ⟨_, rfl, f_shrink_test_3 _ _ _ _ ?_⟩⟩⟩
 ·unfold S_shrink_test_1
  rw [if_pos e1] at h3
  exact ⟨_, _, _, (hat.part 1 [.slice p.A_Rules_a p.A_Rules_l p.A_Rules_c] rfl).le hle4, s_list_Accepts _ _ _ _ _ _ (laccepts_is (ha.le (hle3.trans hle4)) (fun h => absurd la h) fun _ => ⟨_, _, rfl, _, rfl, h3⟩)⟩
 ·unfold S_shrink_test_2
  rw [if_neg e1, if_pos e2] at h3
  exact ⟨_, _, _, (hat.part 1 [.slice p.A_Rules_a p.A_Rules_l p.A_Rules_c] rfl).le hle4, s_list_Accepts _ _ _ _ _ _ (laccepts_is (ha.le (hle3.trans hle4)) (fun h => absurd la h) fun _ => ⟨_, _, rfl, _, rfl, h3⟩)⟩
 ·unfold S_shrink_test_3
  rw [if_neg e1, if_neg e2] at h3
  have lb := look_of (hwb (by omega)) hs
  exact ⟨_, _, _, (hat.part 1 [.slice p.A_Rules_a p.A_Rules_l p.A_Rules_c] rfl).le hle4, s_list_Accepts _ _ _ _ _ _ (laccepts_is (ha.le (hle3.trans hle4)) (fun h => absurd la h) fun _ => ⟨_, _, rfl, _, _, _, (hat.part 2 [.slice p.B_Rules_a p.B_Rules_l p.B_Rules_c] rfl).le hle4, s_list_Accepts _ _ _ _ _ _ (laccepts_is (hb.le (hle3.trans hle4)) (fun h => absurd lb h) fun _ => ⟨_, _, rfl, _, rfl, h3⟩)⟩)⟩
theorem rholds_is (ha : GrR M ra p.A_Rules_a p.A_Rules_l p.A_Rules_c) (hb : GrR M rb p.B_Rules_a p.B_Rules_l p.B_Rules_c) (h0 : predE p.Kind ra rb = 0) (hs : s.length ≤ 60) (hK : K (.bool (holdsP p.Kind ra rb s))) : S_chaffref_Holds p s M K := by
 obtain ⟨k1, k3, hwa, hwb⟩ := pred_well h0
 unfold holdsP at hK
 unfold S_chaffref_Holds
 refine s_chaffref_Accepts _ _ _ _ _ _ (raccepts_is (well_ok hwa) hs ha ⟨_, rfl, fun e1 => by rw [if_pos e1] at hK; exact hK, fun e1 => ⟨fun e2 => by rw [if_neg e1, if_pos e2] at hK; exact hK, fun e2 => ?_⟩⟩)
 rw [if_neg e1, if_neg e2] at hK
 exact s_chaffref_Accepts _ _ _ _ _ _ (raccepts_is (well_ok (hwb (by omega))) hs hb ⟨_, rfl, hK⟩)
end
theorem walk : WalkGoal := by
 intro H enc W p n B hx s hs
 obtain ⟨b1, b2, hk, hA, hB, _⟩ := hx
 obtain ⟨ra, ha⟩ := gr_of hA
 obtain ⟨rb, hb⟩ := gr_of hB
 refine s_chafflaw_ShrinkHolds _ _ _ _ ?_
 unfold S_chafflaw_ShrinkHolds
 generalize HM W = M at *
 have ask : ∀ (o : Bool) (er : Int), (∀ want : Int, want = (if predE p.Kind ra rb = 0 ∧ 60 < s.length then 2 else predE p.Kind ra rb) → S_chafflaw_ShrinkHolds_J2 p s M o er want (fun v => v = .bool true)) →
   CallE Try.prog 37 #[p.val] M (fun v _ => ∃ (x6 : Int), v = (Value.int .i64 x6) ∧ (CallE Try.prog 38 #[p.val] M (fun v _ => ∃ (x7 : Int), v = (Value.int .i64 x7) ∧ (((x7 : Int) ≠ x6 → (Value.bool false) = .bool true) ∧ (¬ ((x7 : Int) ≠ x6) → (((x6 : Int) = 0 → (S_chafflaw_ShrinkHolds_J1 p s M o er x6 (decide (((s.length : Nat) : Int) > 60)) (fun v => v = .bool true))) ∧ (¬ ((x6 : Int) = 0) → (S_chafflaw_ShrinkHolds_J1 p s M o er x6 false (fun v => v = .bool true)))))))))  := by
  intro o er h
  refine s_chaffref_Pred _ _ _ (pred_is ha hb ⟨_, rfl, s_shrink_Check _ _ _ (check_is ha hb ⟨_, rfl, fun hn => absurd rfl hn, fun _ => ⟨fun h0 => ?_, fun h0 => ?_⟩⟩)⟩)
  ·unfold S_chafflaw_ShrinkHolds_J1
   exact ⟨fun hy => h 2 (by rw [if_pos ⟨h0, by have := of_decide_eq_true hy; omega⟩]), fun hn => h _ (by rw [if_neg (fun hc => hn (decide_eq_true (by omega)))])⟩
  ·unfold S_chafflaw_ShrinkHolds_J1
   exact ⟨fun hy => (by cases hy), fun _ => h _ (by rw [if_neg (fun hc => h0 hc.1)])⟩
 refine s_shrink_Holds _ _ _ _ (holds_is ha hb (fun h => ⟨_, _, rfl, ask _ _ fun want hw => ?_⟩) (fun h h60 => ⟨_, _, rfl, ask _ _ fun want hw => ?_⟩) fun h h60 => ⟨_, _, rfl, ask _ _ fun want hw => ?_⟩)
 ·rw [if_neg (fun hc => h hc.1)] at hw
  subst hw
  unfold S_chafflaw_ShrinkHolds_J2
  exact ⟨fun _ => ⟨fun _ => rfl, fun hn => absurd rfl hn⟩, fun hn => absurd h hn⟩
 ·rw [if_pos ⟨h, h60⟩] at hw
  subst hw
  unfold S_chafflaw_ShrinkHolds_J2
  exact ⟨fun _ => ⟨fun _ => rfl, fun hn => absurd rfl hn⟩, fun hn => absurd (by decide) hn⟩
 ·rw [if_neg (fun hc => by omega), h] at hw
  subst hw
  unfold S_chafflaw_ShrinkHolds_J2
  refine ⟨fun hn => absurd rfl hn, fun _ => ⟨fun _ => s_chaffref_Holds _ _ _ _ (rholds_is ha hb h h60 ⟨_, rfl, ?_⟩), fun hn => absurd rfl hn⟩⟩
  simp
theorem holds : Rows.ShrinkHoldsSaid := top walk
#print axioms holds
end Go.Proofs.Ytifkffmecfgpeaa.lawShrinkHolds
