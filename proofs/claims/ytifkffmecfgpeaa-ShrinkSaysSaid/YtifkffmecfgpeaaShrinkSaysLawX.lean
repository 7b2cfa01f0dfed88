/- For every input ShrinkSays answers true and leaves its arguments as they were. No condition. -/
import Derived.Test.YtifkffmecfgpeaaShrinkSaysLawG
import Derived.Test.YtifkffmecfgpeaaShrinkSaysT
import Derived.Test.YtifkffmecfgpeaaM4
namespace Go.Proofs.Ytifkffmecfgpeaa.lawShrinkSays
open Go.Gx Go.RowKit Go.ChangeShapes Go.WideShapes Go.ChangeAt
open core
set_option linter.unusedVariables false
theorem ex_of {H : Type} {enc : TypeId × Value → H} {w : World} : ∀ (n B : Nat) (x : X_api_Expr), In_api_Expr enc w n B x → ∃ e, ExR (HM w) e x := by
 intro n
 induction n using Nat.strongRecOn with
 | _ n ih =>
  intro B x hx
  obtain ⟨b6, h1, h2, h3, h4, h5, h6, h7, _⟩ := hx
  obtain ⟨xs, bs, hsl, hl, hm, hall, _⟩ := open_L_Expr h7
  obtain ⟨es, hes⟩ := All2.choose (R := ExR (HM w)) xs fun y hy => by
   obtain ⟨b, k, hk, hin⟩ := hall.left y hy
   exact ih k hk b y hin
  have hle := hes.length
  obtain ⟨k, s, t, A, l, c⟩ := x
  have : l = es.length := by rw [← hle]; exact hl.symm
  subst this
  exact ⟨.mk k s t es, .mk h1 ⟨h2, h3, h4, h5⟩ h6 hsl hle fun i e x he hx => hes.get' he hx⟩
theorem gr_of {H : Type} {enc : TypeId × Value → H} {w : World} {n B : Nat} {A : Option Addr} {l c : Nat} (h : In_L_Rule enc w n B ⟨A, l, c⟩) : ∃ rs, GrR (HM w) rs A l c := by
 obtain ⟨xs, bs, hsl, hl, hm, hall, _⟩ := open_L_Rule h
 obtain ⟨rs, hrs⟩ := All2.choose (R := RuR (HM w)) xs fun y hy => by
  obtain ⟨b, k, hk, hin⟩ := hall.left y hy
  obtain ⟨b7, h1, h2, h3, h4, h5, h6, h7, h8, _⟩ := hin
  obtain ⟨e, he⟩ := ex_of k _ y.Body ⟨b7, h2, h3, h4, h5, h6, h7, h8, Nat.le_refl _⟩
  exact ⟨⟨y.Name, e⟩, rfl, h1, he⟩
 have := hrs.length
 simp only at hl
 exact ⟨rs, xs, hsl, hrs, by omega⟩
def predE (k : Int) (ra rb : List Ru) : Int := if k < 1 ∨ 3 < k then 1 else if (wellP ra).2 ≠ 0 then (wellP ra).2 else if k = 3 then (wellP rb).2 else if rb.length ≠ 0 then 3 else 0
noncomputable def holdsP (k : Int) (ra rb : List Ru) (s : List UInt8) : Bool := if k = 1 then accP ra s else if k = 2 then !accP ra s else !(accP ra s == accP rb s)
section
variable {p : X_api_Pred} {ra rb : List Ru} {s : List UInt8} {M : Mem} {K : Value → Prop}
theorem check_is (ha : GrR M ra p.A_Rules_a p.A_Rules_l p.A_Rules_c) (hb : GrR M rb p.B_Rules_a p.B_Rules_l p.B_Rules_c) (hK : K (.int .i64 (predE p.Kind ra rb))) : S_shrink_Check p M K := by
 have hl := hb.len
 have j1 : ∀ v : Bool, v = decide (p.Kind < 1 ∨ 3 < p.Kind) → S_shrink_Check_J1 p M v K := by
  intro v hv
  unfold S_shrink_Check_J1
  unfold predE at hK
  refine ⟨fun ht => by rw [if_pos (of_decide_eq_true (by rw [← hv, ht]))] at hK; exact hK, fun hf => ?_⟩
  rw [if_neg (fun h => hf (by rw [hv, decide_eq_true h]))] at hK
  refine s_well_Well _ _ _ _ _ (wwell_is ha _ ⟨_, _, rfl, fun h => by rw [if_pos h] at hK; exact hK, fun h => ?_⟩)
  rw [if_neg h] at hK
  refine ⟨fun k3 => ?_, fun n3 => ?_⟩
  ·rw [if_pos k3] at hK
   exact s_well_Well _ _ _ _ _ (wwell_is hb _ ⟨_, _, rfl, hK⟩)
  ·rw [if_neg n3] at hK
   exact ⟨fun hgt => by rw [if_pos (by omega)] at hK; exact hK, fun hle => by rw [if_neg (by omega)] at hK; exact hK⟩
 unfold S_shrink_Check
 exact ⟨fun h => j1 _ (by symm; exact decide_eq_true (.inl h)), fun h => j1 _ (by rw [decide_eq_decide]; omega)⟩
theorem pred_is (ha : GrR M ra p.A_Rules_a p.A_Rules_l p.A_Rules_c) (hb : GrR M rb p.B_Rules_a p.B_Rules_l p.B_Rules_c) (hK : K (.int .i64 (predE p.Kind ra rb))) : S_chaffref_Pred p M K := by
 have hl := hb.len
 have j1 : ∀ v : Bool, v = decide (p.Kind < 1 ∨ 3 < p.Kind) → S_chaffref_Pred_J1 p M v K := by
  intro v hv
  unfold S_chaffref_Pred_J1
  unfold predE at hK
  refine ⟨fun ht => by rw [if_pos (of_decide_eq_true (by rw [← hv, ht]))] at hK; exact hK, fun hf => ?_⟩
  rw [if_neg (fun h => hf (by rw [hv, decide_eq_true h]))] at hK
  refine s_chaffref_Well _ _ _ _ _ (rwell_is ha _ ⟨_, _, rfl, fun h => by rw [if_pos h] at hK; exact hK, fun h => ?_⟩)
  rw [if_neg h] at hK
  refine ⟨fun k3 => ?_, fun n3 => ?_⟩
  ·rw [if_pos k3] at hK
   exact s_chaffref_Well _ _ _ _ _ (rwell_is hb _ ⟨_, _, rfl, hK⟩)
  ·rw [if_neg n3] at hK
   exact ⟨fun hgt => by rw [if_pos (by omega)] at hK; exact hK, fun hle => by rw [if_neg (by omega)] at hK; exact hK⟩
 unfold S_chaffref_Pred
 exact ⟨fun h => j1 _ (by symm; exact decide_eq_true (.inl h)), fun h => j1 _ (by rw [decide_eq_decide]; omega)⟩
theorem pred_well (h : predE p.Kind ra rb = 0) : 1 ≤ p.Kind ∧ p.Kind ≤ 3 ∧ (wellP ra).2 = 0 ∧ (p.Kind = 3 → (wellP rb).2 = 0) := by
 unfold predE at h
 split at h
 ·cases h
 split at h
 ·rename_i h1; exact absurd h h1
 rename_i h0 h1
 refine ⟨by omega, by omega, Decidable.not_not.1 h1, fun k3 => ?_⟩
 rw [if_pos k3] at h; exact h
theorem look_of (h : (wellP ra).2 = 0) (hs : s.length ≤ 60) : lookP ra s = 0 := by
 unfold lookP
 rw [if_neg (fun h' => h' h), if_neg (by omega)]
theorem holds_is (ha : GrR M ra p.A_Rules_a p.A_Rules_l p.A_Rules_c) (hb : GrR M rb p.B_Rules_a p.B_Rules_l p.B_Rules_c) (h1 : predE p.Kind ra rb ≠ 0 → K (.tuple #[.bool false, .int .i64 (predE p.Kind ra rb)])) (h2 : predE p.Kind ra rb = 0 → 60 < s.length → K (.tuple #[.bool false, .int .i64 2])) (h3 : predE p.Kind ra rb = 0 → s.length ≤ 60 → K (.tuple #[.bool (holdsP p.Kind ra rb s), .int .i64 0])) : S_shrink_Holds p s M K := by
 unfold S_shrink_Holds
 refine s_shrink_Check _ _ _ (check_is ha hb ⟨_, rfl, h1, fun hn => ⟨fun hgt => h2 (Decidable.not_not.1 hn) (by omega), fun hle => ?_⟩⟩)
 have h0 := Decidable.not_not.1 hn
 have hs : s.length ≤ 60 := by omega
 obtain ⟨k1, k3, hwa, hwb⟩ := pred_well h0
 have h3 := h3 h0 hs
 unfold holdsP at h3
 have la := look_of hwa hs
 refine s_shrink_test _ _ _ ?_
 unfold S_shrink_test
 refine ⟨fun e1 M3 b2 hle3 hat M4 hle4 => ⟨_, rfl, f_shrink_test_1 _ _ _ _ ?_⟩, fun e1 => ⟨fun e2 M3 b2 hle3 hat M4 hle4 => ⟨_, rfl, f_shrink_test_2 _ _ _ _ ?_⟩, fun e2 M3 b2 hle3 hat M4 hle4 => ⟨_, rfl, f_shrink_test_3 _ _ _ _ ?_⟩⟩⟩
 ·unfold S_shrink_test_1
  rw [if_pos e1] at h3
  exact ⟨_, _, _, (hat.part 1 [.slice p.A_Rules_a p.A_Rules_l p.A_Rules_c] rfl).le hle4, s_list_Accepts _ _ _ _ _ _ (laccepts_is (ha.le (hle3.trans hle4)) (fun h => absurd la h) fun _ => ⟨_, _, rfl, _, rfl, h3⟩)⟩
 ·unfold S_shrink_test_2
  rw [if_neg e1, if_pos e2] at h3
  exact ⟨_, _, _, (hat.part 1 [.slice p.A_Rules_a p.A_Rules_l p.A_Rules_c] rfl).le hle4, s_list_Accepts _ _ _ _ _ _ (laccepts_is (ha.le (hle3.trans hle4)) (fun h => absurd la h) fun _ => ⟨_, _, rfl, _, rfl, h3⟩)⟩
 ·unfold S_shrink_test_3
  rw [if_neg e1, if_neg e2] at h3
  have lb := look_of (hwb (by omega)) hs
  exact ⟨_, _, _, (hat.part 1 [.slice p.A_Rules_a p.A_Rules_l p.A_Rules_c] rfl).le hle4, s_list_Accepts _ _ _ _ _ _ (laccepts_is (ha.le (hle3.trans hle4)) (fun h => absurd la h) fun _ => ⟨_, _, rfl, _, _, _, (hat.part 2 [.slice p.B_Rules_a p.B_Rules_l p.B_Rules_c] rfl).le hle4, s_list_Accepts _ _ _ _ _ _ (laccepts_is (hb.le (hle3.trans hle4)) (fun h => absurd lb h) fun _ => ⟨_, _, rfl, _, rfl, h3⟩)⟩)⟩
theorem rholds_is (ha : GrR M ra p.A_Rules_a p.A_Rules_l p.A_Rules_c) (hb : GrR M rb p.B_Rules_a p.B_Rules_l p.B_Rules_c) (h0 : predE p.Kind ra rb = 0) (hs : s.length ≤ 60) (hK : K (.bool (holdsP p.Kind ra rb s))) : S_chaffref_Holds p s M K := by
 obtain ⟨k1, k3, hwa, hwb⟩ := pred_well h0
 unfold holdsP at hK
 unfold S_chaffref_Holds
 refine s_chaffref_Accepts _ _ _ _ _ _ (raccepts_is (well_ok hwa) hs ha ⟨_, rfl, fun e1 => by rw [if_pos e1] at hK; exact hK, fun e1 => ⟨fun e2 => by rw [if_neg e1, if_pos e2] at hK; exact hK, fun e2 => ?_⟩⟩)
 rw [if_neg e1, if_neg e2] at hK
 exact s_chaffref_Accepts _ _ _ _ _ _ (raccepts_is (well_ok (hwb (by omega))) hs hb ⟨_, rfl, hK⟩)
end
section
variable {p : X_api_Pred} {ra rb : List Ru} {s : List UInt8} {M : Mem} {K : Value → Mem → Prop}
theorem test_is (ha : GrR M ra p.A_Rules_a p.A_Rules_l p.A_Rules_c) (hb : GrR M rb p.B_Rules_a p.B_Rules_l p.B_Rules_c) (h0 : predE p.Kind ra rb = 0) (hK : ∀ fv M', M.le M' → (∀ t : List UInt8, t.length ≤ 60 → CallF Try.prog fv [.string (mkS t)] M' (fun v _ => v = .bool (holdsP p.Kind ra rb t))) → K fv M') : S_shrink_test p M K := by
 obtain ⟨k1, k3, hwa, hwb⟩ := pred_well h0
 unfold S_shrink_test
 refine ⟨fun e1 M3 b2 hle3 hat M4 hle4 => hK _ M4 (hle3.trans hle4) fun t ht => f_shrink_test_1 _ _ _ _ ?_, fun e1 => ⟨fun e2 M3 b2 hle3 hat M4 hle4 => hK _ M4 (hle3.trans hle4) fun t ht => f_shrink_test_2 _ _ _ _ ?_, fun e2 M3 b2 hle3 hat M4 hle4 => hK _ M4 (hle3.trans hle4) fun t ht => f_shrink_test_3 _ _ _ _ ?_⟩⟩
 ·have la := look_of hwa ht
  unfold S_shrink_test_1 holdsP
  rw [if_pos e1]
  exact ⟨_, _, _, (hat.part 1 [.slice p.A_Rules_a p.A_Rules_l p.A_Rules_c] rfl).le hle4, s_list_Accepts _ _ _ _ _ _ (laccepts_is (ha.le (hle3.trans hle4)) (fun h => absurd la h) fun _ => ⟨_, _, rfl, rfl⟩)⟩
 ·have la := look_of hwa ht
  unfold S_shrink_test_2 holdsP
  rw [if_neg e1, if_pos e2]
  exact ⟨_, _, _, (hat.part 1 [.slice p.A_Rules_a p.A_Rules_l p.A_Rules_c] rfl).le hle4, s_list_Accepts _ _ _ _ _ _ (laccepts_is (ha.le (hle3.trans hle4)) (fun h => absurd la h) fun _ => ⟨_, _, rfl, rfl⟩)⟩
 ·have la := look_of hwa ht
  have lb := look_of (hwb (by omega)) ht
  unfold S_shrink_test_3 holdsP
  rw [if_neg e1, if_neg e2]
  exact ⟨_, _, _, (hat.part 1 [.slice p.A_Rules_a p.A_Rules_l p.A_Rules_c] rfl).le hle4, s_list_Accepts _ _ _ _ _ _ (laccepts_is (ha.le (hle3.trans hle4)) (fun h => absurd la h) fun _ => ⟨_, _, rfl, _, _, _, (hat.part 2 [.slice p.B_Rules_a p.B_Rules_l p.B_Rules_c] rfl).le hle4, s_list_Accepts _ _ _ _ _ _ (laccepts_is (hb.le (hle3.trans hle4)) (fun h => absurd lb h) fun _ => ⟨_, _, rfl, rfl⟩)⟩)⟩
end
def outT (s : List UInt8) (i j : Nat) : List UInt8 := s.take i ++ s.drop j
theorem outT_sub (s : List UInt8) {i j : Nat} (h : i ≤ j) : (outT s i j).Sublist s := by
 unfold outT
 have h1 : (s.drop j).Sublist (s.drop i) := by
  have : s.drop j = (s.drop i).drop (j - i) := by rw [List.drop_drop]; congr 1; omega
  rw [this]; exact List.drop_sublist _ _
 have := List.Sublist.append (List.Sublist.refl (s.take i)) h1
 rwa [List.take_append_drop] at this
theorem outT_len (s : List UInt8) {i j : Nat} (h : i ≤ j) (hj : j ≤ s.length) : (outT s i j).length = s.length - (j - i) := by
 unfold outT
 rw [List.length_append, List.length_take, List.length_drop]
 omega
theorem outT_eq (s : List UInt8) (i j : Int) : (s.take i.toNat).drop (0 : Int).toNat ++ (s.take ((s.length : Nat) : Int).toNat).drop j.toNat = outT s i.toNat j.toNat := by
 unfold outT
 rw [Int.toNat_natCast, List.take_length, Int.toNat_zero, List.drop_zero]
theorem cut_is {s : List UInt8} {n : Int} {fv : Value} {f : List UInt8 → Bool} {M : Mem} {K : Value → Prop} (hs : s.length ≤ 60) (hn : 1 ≤ n) (hn2 : n ≤ 60) (hf : ∀ t : List UInt8, t.length ≤ 60 → CallF Try.prog fv [.string (mkS t)] M (fun v _ => v = .bool (f t)))
  (hK : ∀ (t : List UInt8) (b : Bool), t.Sublist s → (b = false → t = s ∧ (n = 1 → ∀ i, i < s.length → f (outT s i (i + 1)) = false)) → (b = true → t.length < s.length ∧ f t = true) → K (.tuple #[.string (mkS t), .bool b])) : S_shrink_cut s n fv M K := by
 unfold S_shrink_cut
 refine ⟨fun t b i => 0 ≤ i ∧ i ≤ 120 ∧ t.Sublist s ∧ (b = false → t = s ∧ (n = 1 → ∀ j : Nat, (j : Int) < i → j < s.length → f (outT s j (j + 1)) = false)) ∧ (b = true → t.length < s.length ∧ f t = true), fun t _ i => (t.length - i).toNat, ⟨by omega, by omega, List.Sublist.refl _, fun _ => ⟨rfl, fun _ j h => by omega⟩, fun h => by cases h⟩, fun t b i ⟨i0, i1, hsub, hb0, hb1⟩ => ⟨fun hlt => ?_, fun hge => ?_⟩⟩
 ·have htl := hsub.length_le
  generalize hj : (if i + n < ((t.length : Nat) : Int) then i + n else ((t.length : Nat) : Int)) = j
  have hj0 : i < j ∧ j ≤ t.length := by rw [← hj]; split <;> omega
  rw [outT_eq]
  have hlen := outT_len t (i := i.toNat) (j := j.toNat) (by omega) (by omega)
  have hsub2 := (outT_sub t (i := i.toNat) (j := j.toNat) (by omega)).trans hsub
  refine ⟨by omega, i0, by omega, by unfold InI; omega, by omega, by omega, by omega, ?_, (hf _ (by omega)).mono fun v _ _ hv => ⟨_, hv, fun hy => ⟨⟨i0, i1, hsub2, fun h => (by cases h), fun _ => ⟨by omega, hy⟩⟩, ?_⟩, fun hno => ⟨by unfold InI; omega, ⟨by omega, by omega, hsub, fun h => ⟨(hb0 h).1, fun h1 k hk hks => ?_⟩, hb1⟩, ?_⟩⟩⟩
  ·have e := congrArg List.length (outT_eq t i j)
   rw [List.length_append] at e
   omega
  ·dsimp only; omega
  ·by_cases hki : (k : Int) < i
   ·exact (hb0 h).2 h1 k hki hks
   ·obtain ⟨e, _⟩ := hb0 h
    subst e
    have hkk : k = i.toNat := by omega
    have hjj : j.toNat = k + 1 := by
     have : j = i + 1 := by rw [← hj]; split <;> omega
     omega
    subst hkk
    rw [← hjj]
    simpa using hno
  ·dsimp only; omega
 ·exact hK t b hsub (fun h => ⟨(hb0 h).1, fun h1 k hk => by
   have e := (hb0 h).1
   subst e
   exact (hb0 h).2 h1 k (by omega) hk⟩) hb1
def leastP (f : List UInt8 → Bool) (s t : List UInt8) : Prop := t.Sublist s ∧ f t = true ∧ ∀ i, i < t.length → f (outT t i (i + 1)) = false
section
variable {p : X_api_Pred} {ra rb : List Ru} {s : List UInt8} {M : Mem} {K : Value → Prop}
theorem shrink_is (ha : GrR M ra p.A_Rules_a p.A_Rules_l p.A_Rules_c) (hb : GrR M rb p.B_Rules_a p.B_Rules_l p.B_Rules_c) (h1 : predE p.Kind ra rb ≠ 0 → K (.tuple #[.string (mkS []), .int .i64 (predE p.Kind ra rb)])) (h2 : predE p.Kind ra rb = 0 → 60 < s.length → K (.tuple #[.string (mkS []), .int .i64 2]))
  (h3 : predE p.Kind ra rb = 0 → s.length ≤ 60 → holdsP p.Kind ra rb s = false → K (.tuple #[.string (mkS []), .int .i64 11])) (h4 : predE p.Kind ra rb = 0 → s.length ≤ 60 → holdsP p.Kind ra rb s = true → ∀ t, leastP (holdsP p.Kind ra rb) s t → K (.tuple #[.string (mkS t), .int .i64 0])) : S_shrink_Shrink p s M K := by
 unfold S_shrink_Shrink
 refine s_shrink_Holds _ _ _ _ (holds_is ha hb (fun h => ⟨_, _, rfl, fun _ => h1 h, fun hn => absurd h hn⟩) (fun h h60 => ⟨_, _, rfl, fun _ => h2 h h60, fun hn => absurd (by decide) hn⟩) fun h h60 => ⟨_, _, rfl, fun hn => absurd rfl hn, fun _ => ⟨fun hf => h3 h h60 (by simpa using hf), fun ht => ?_⟩⟩)
 have ht : holdsP p.Kind ra rb s = true := by simpa using ht
 have h4 := h4 h h60 ht
 generalize hfd : holdsP p.Kind ra rb = f at h4 ht
 refine s_shrink_test _ _ _ (test_is ha hb h fun fv M7 hle hf => ⟨_, rfl, ?_⟩)
 rw [hfd] at hf
 refine ⟨fun t n => t.Sublist s ∧ f t = true ∧ 0 ≤ n ∧ n ≤ 60, fun _ n => n.toNat, ⟨List.Sublist.refl _, ht, by omega, by omega⟩, fun t n ⟨hsub, hft, n0, n1⟩ => ⟨fun hgt => ?_, fun hle1 => ?_⟩⟩
 ·have hl := hsub.length_le
  have hd : (n + 1).tdiv 2 = (n + 1) / 2 := Int.tdiv_eq_ediv_of_nonneg (by omega)
  refine s_shrink_cut _ _ _ _ _ (cut_is (by omega) (by omega) (by omega) hf fun t' b h1 h2 h3 => ⟨_, _, rfl, by unfold InI; omega, by rw [hd]; unfold InI; omega, ⟨h1.trans hsub, ?_, by rw [hd]; omega, by rw [hd]; omega⟩, ?_⟩)
  ·cases b with
   | false => rw [(h2 rfl).1]; exact hft
   | true => exact (h3 rfl).2
  ·show ((n + 1).tdiv 2).toNat < n.toNat
   rw [hd]; omega
 ·refine ⟨fun t b => t.Sublist s ∧ f t = true ∧ (b = false → ∀ i, i < t.length → f (outT t i (i + 1)) = false), fun t b => 2 * t.length + (if b = true then 1 else 0), ⟨hsub, hft, fun h => by cases h⟩, fun t b ⟨hsub, hft, hb⟩ => ⟨fun hy => ?_, fun hn => ?_⟩⟩
  ·have hl := hsub.length_le
   subst hy
   refine s_shrink_cut _ _ _ _ _ (cut_is (n := 1) (by omega) (by omega) (by omega) hf fun t' b h1 h2 h3 => ⟨_, _, rfl, ⟨h1.trans hsub, ?_, fun h => ?_⟩, ?_⟩)
   ·cases b with
    | false => rw [(h2 rfl).1]; exact hft
    | true => exact (h3 rfl).2
   ·obtain ⟨e, h5⟩ := h2 h
    subst e; exact h5 rfl
   ·dsimp only
    cases b with
    | false => rw [(h2 rfl).1]; simp
    | true => have := (h3 rfl).1; simp; omega
  ·exact h4 t ⟨hsub, hft, hb (by simpa using hn)⟩
theorem least_is {t : List UInt8} (ha : GrR M ra p.A_Rules_a p.A_Rules_l p.A_Rules_c) (hb : GrR M rb p.B_Rules_a p.B_Rules_l p.B_Rules_c) (h0 : predE p.Kind ra rb = 0) (hs : s.length ≤ 60) (hL : leastP (holdsP p.Kind ra rb) s t) (hK : K (.bool true)) : S_chaffref_Least p s t M K := by
 obtain ⟨hsub, hft, hno⟩ := hL
 have htl := hsub.length_le
 unfold S_chaffref_Least
 have fin : ∀ (k i : Int) I mu, (t.length : Int) ≤ k → S_chaffref_Least_J1 p s t M k i I mu false K := by
  intro k i I mu hk
  unfold S_chaffref_Least_J1
  refine ⟨fun h => (by cases h), fun _ => ⟨fun h => by omega, fun _ => s_chaffref_Holds _ _ _ _ (rholds_is ha hb h0 (by omega) ⟨_, rfl, ?_⟩)⟩⟩
  rw [hft]
  unfold S_chaffref_Least_J3
  refine ⟨fun h => (by cases h), fun _ => ⟨fun i => 0 ≤ i ∧ i ≤ t.length, fun i => t.length - i.toNat, ⟨by omega, by omega⟩, fun i ⟨i0, i1⟩ => ⟨fun hlt => ?_, fun _ => hK⟩⟩⟩
  rw [outT_eq]
  have hlen := outT_len t (i := i.toNat) (j := (i + 1).toNat) (by omega) (by omega)
  refine ⟨by omega, i0, by omega, by unfold InI; omega, by omega, by omega, by omega, ?_, s_chaffref_Holds _ _ _ _ (rholds_is ha hb h0 (by omega) ⟨_, rfl, fun hy => ?_, fun _ => ⟨by unfold InI; omega, ⟨by omega, by omega⟩, by dsimp only; omega⟩⟩)⟩
  ·have e := congrArg List.length (outT_eq t i (i + 1))
   rw [List.length_append] at e
   omega
  ·rw [show (i + 1).toNat = i.toNat + 1 by omega, hno i.toNat (by omega)] at hy; cases hy
 refine ⟨fun k i => 0 ≤ k ∧ k ≤ t.length ∧ 0 ≤ i ∧ i ≤ s.length ∧ (t.drop k.toNat).Sublist (s.drop i.toNat), fun _ i => s.length - i.toNat, ⟨by omega, by omega, by omega, by omega, hsub⟩, fun k i ⟨k0, k1, i0, i1, hd⟩ => ⟨fun hlt => ?_, fun hge => ?_⟩⟩
 ·by_cases hk : k < ((t.length : Nat) : Int)
  ·rw [decide_eq_true hk]
   obtain ⟨a, hA⟩ := core.getI (l := s) i0 hlt
   obtain ⟨b, hB⟩ := core.getI (l := t) k0 hk
   rw [drop_get hA, drop_get hB] at hd
   unfold S_chaffref_Least_J1
   refine ⟨fun _ => ⟨a, i0, hA, b, k0, hB, fun he => ⟨by unfold InI; omega, ?_⟩, fun hne => ?_⟩, fun hn => absurd rfl hn⟩
   ·have hab : a = b := UInt8.toNat_inj.1 (by omega)
    subst hab
    unfold S_chaffref_Least_J2
    refine ⟨by unfold InI; omega, ⟨by omega, by omega, by omega, by omega, ?_⟩, by dsimp only; omega⟩
    rw [show (k + 1).toNat = k.toNat + 1 by omega, show (i + 1).toNat = i.toNat + 1 by omega]
    exact List.cons_sublist_cons.1 hd
   ·unfold S_chaffref_Least_J2
    refine ⟨by unfold InI; omega, ⟨k0, k1, by omega, by omega, ?_⟩, by dsimp only; omega⟩
    rw [show (i + 1).toNat = i.toNat + 1 by omega, drop_get hB]
    cases hd with
    | cons _ h => exact h
    | cons_cons _ h => exact absurd rfl hne
  ·rw [decide_eq_false hk]
   exact fin k i _ _ (by omega)
 ·rw [List.drop_of_length_le (l := s) (by omega), List.sublist_nil] at hd
  have := congrArg List.length hd
  rw [List.length_drop, List.length_nil] at this
  exact fin k i _ _ (by omega)
end
theorem walk : WalkGoal := by
 intro H enc W p n B hx s hs
 obtain ⟨b1, b2, hk, hA, hB, _⟩ := hx
 obtain ⟨ra, ha⟩ := gr_of hA
 obtain ⟨rb, hb⟩ := gr_of hB
 refine s_chafflaw_ShrinkSays _ _ _ _ ?_
 unfold S_chafflaw_ShrinkSays
 generalize HM W = M at *
 have ask : ∀ (o : List UInt8) (er : Int), (∀ want : Int, want = (if predE p.Kind ra rb ≠ 0 then predE p.Kind ra rb else if 60 < s.length then 2 else if holdsP p.Kind ra rb s = true then 0 else 11) → S_chafflaw_ShrinkSays_J4 p s M o er want (fun v => v = .bool true)) →
   CallE Try.prog 37 #[p.val] M (fun v _ => ∃ (x6 : Int), v = (Value.int .i64 x6) ∧ (((x6 : Int) = 0 → (S_chafflaw_ShrinkSays_J1 p s M o er x6 (decide (((s.length : Nat) : Int) > 60)) (fun v => v = .bool true))) ∧ (¬ ((x6 : Int) = 0) → (S_chafflaw_ShrinkSays_J1 p s M o er x6 false (fun v => v = .bool true))))) := by
  intro o er h
  have j2 : ∀ w : Int, w ≠ 0 → (∀ want, want = w → S_chafflaw_ShrinkSays_J4 p s M o er want (fun v => v = .bool true)) → S_chafflaw_ShrinkSays_J2 p s M o er w (fun v => v = .bool true) := by
   intro w hw h
   unfold S_chafflaw_ShrinkSays_J2
   refine ⟨fun h0 => absurd h0 hw, fun _ => ?_⟩
   unfold S_chafflaw_ShrinkSays_J3
   exact ⟨fun h => (by cases h), fun _ => h w rfl⟩
  refine s_chaffref_Pred _ _ _ (pred_is ha hb ⟨_, rfl, fun h0 => ?_, fun hne => ?_⟩)
  ·unfold S_chafflaw_ShrinkSays_J1
   refine ⟨fun hy => j2 2 (by omega) fun want hw => h want (by rw [hw, if_neg (fun h => h h0), if_pos (by have := of_decide_eq_true hy; omega)]), fun hn => ?_⟩
   have h60 : ¬ 60 < s.length := fun h => hn (decide_eq_true (by omega))
   unfold S_chafflaw_ShrinkSays_J2
   refine ⟨fun _ => s_chaffref_Holds _ _ _ _ (rholds_is ha hb h0 (by omega) ⟨_, rfl, ?_⟩), fun hne => absurd h0 hne⟩
   unfold S_chafflaw_ShrinkSays_J3
   refine ⟨fun hy => h 11 ?_, fun hn => h _ ?_⟩
   ·rw [if_neg (fun h => h h0), if_neg h60, if_neg (by simpa using hy)]
   ·rw [h0, if_neg (fun h => h rfl), if_neg h60, if_pos (by simpa using hn)]
  ·unfold S_chafflaw_ShrinkSays_J1
   exact ⟨fun hy => (by cases hy), fun _ => j2 _ hne fun want hw => h want (by rw [hw, if_pos hne])⟩
 refine s_shrink_Shrink _ _ _ _ (shrink_is ha hb (fun h => ⟨_, _, rfl, ask _ _ fun want hw => ?_⟩) (fun h h60 => ⟨_, _, rfl, ask _ _ fun want hw => ?_⟩) (fun h h60 hf => ⟨_, _, rfl, ask _ _ fun want hw => ?_⟩) fun h h60 hf t hL => ⟨_, _, rfl, ask _ _ fun want hw => ?_⟩)
 ·rw [if_pos h] at hw
  subst hw
  unfold S_chafflaw_ShrinkSays_J4
  exact ⟨fun _ => ⟨fun _ => by simp, fun hn => absurd rfl hn⟩, fun hn => absurd h hn⟩
 ·rw [if_neg (fun h' => h' h), if_pos h60] at hw
  subst hw
  unfold S_chafflaw_ShrinkSays_J4
  exact ⟨fun _ => ⟨fun _ => by simp, fun hn => absurd rfl hn⟩, fun hn => absurd (by decide) hn⟩
 ·rw [if_neg (fun h' => h' h), if_neg (by omega), if_neg (by rw [hf]; simp)] at hw
  subst hw
  unfold S_chafflaw_ShrinkSays_J4
  exact ⟨fun _ => ⟨fun _ => by simp, fun hn => absurd rfl hn⟩, fun hn => absurd (by decide) hn⟩
 ·rw [if_neg (fun h' => h' h), if_neg (by omega), if_pos hf] at hw
  subst hw
  unfold S_chafflaw_ShrinkSays_J4
  exact ⟨fun hn => absurd rfl hn, fun _ => ⟨fun _ => s_chaffref_Least _ _ _ _ _ (least_is ha hb h h60 hL ⟨_, rfl, rfl⟩), fun hn => absurd rfl hn⟩⟩
theorem holds : Rows.ShrinkSaysSaid := top walk
#print axioms holds
end Go.Proofs.Ytifkffmecfgpeaa.lawShrinkSays
