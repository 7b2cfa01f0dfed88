/- For every input WalkNexts answers true and leaves its arguments as they were. No condition. -/
import Derived.Test.YthljpajbcllhhaaM2
import Derived.Test.YthljpajbcllhhaaWalkNextsT
import Derived.Test.YthljpajbcllhhaaM3
namespace Go.Proofs.Ythljpajbcllhhaa.lawWalkNexts
open Go.Gx Go.RowKit Go.ChangeShapes Go.WideShapes Go.ChangeAt
open core
set_option linter.unusedVariables false
section
variable {a s : List UInt8} {M : Mem}
theorem set_mid : ∀ (u R : List UInt8) (c x : UInt8), (u ++ c :: R).set u.length x = u ++ x :: R
 | [], _, _, _ => rfl
 | d :: u, R, c, x => by simp [set_mid u R c x]
theorem wnext_is (L : Nat → Prop) (K : Value → Mem → Prop) (h1 : overP a s ≠ 0 → ∀ M', M.le M' → K (.tuple #[.string (mkS []), .int .i64 (overP a s)]) M') (h2 : overP a s = 0 → rankN a s + 1 = geo a.length 7 → ∀ M', M.le M' → K (.tuple #[.string (mkS []), .int .i64 12]) M')
  (h3 : overP a s = 0 → ∀ t : List UInt8, t.length ≤ 6 → (∀ c ∈ t, c ∈ a) → rankN a t = rankN a s + 1 → ∀ M', M.le M' → K (.tuple #[.string (mkS t), .int .i64 0]) M') : S_walk_Next a s M L K := by
 unfold S_walk_Next
 refine s_walk_Over _ _ _ _ (wover_is _ ⟨_, rfl, h1, fun h => ?_⟩)
 have h0 := Decidable.not_not.1 h
 obtain ⟨a1, a8, hasc, h6, hin⟩ := over_ok h0
 refine ⟨by unfold maxLen; omega, fun M4 A c hnb => ?_⟩
 obtain ⟨hle4, hlc, hcm, g, cur, t, f, rfl, hg, hb, hsz, hf, htk⟩ := hnb
 have hR : RowB M4 g c s := ⟨hlc, hcm, cur, t, f, hb, hsz, hf, htk⟩
 have hMle : ∀ {M'}, Kp g M4 M' → M.le M' := fun hk b o hbo => hk b o (fun e => by rw [e, hg] at hbo; cases hbo) (hle4 b o hbo)
 have hL : Wr L M g := .inr hg
 have hz : by8 a 0 ∈ a := List.mem_of_getElem? (at8_get (l := a) (i := 0) (by omega))
 have rep : ∀ n, ∀ c ∈ List.replicate n (by8 a 0), c ∈ a := fun n c hc => by rw [List.eq_of_mem_replicate hc]; exact hz
 refine ⟨inI_big (by omega) (by omega), Unit, fun _ i M' => -1 ≤ i ∧ i < s.length ∧ RowB M' g c (s.take (i + 1).toNat ++ List.replicate (s.length - (i + 1).toNat) (by8 a 0)) ∧ (∀ x ∈ s.drop (i + 1).toNat, ixN a x = a.length - 1) ∧ Kp g M4 M', fun _ i => (i + 1).toNat, (), ⟨by omega, by omega, ?_, fun x hx => ?_, fun _ _ _ h => h⟩, fun _ i M' ⟨i0, i1, hR', hmax, hk'⟩ => ⟨fun hge => ?_, fun hlt => ?_⟩⟩
 ·rw [show (((s.length : Nat) : Int) - 1 + 1).toNat = s.length by omega, List.take_length, Nat.sub_self, List.replicate_zero, List.append_nil]; exact hR
 ·rw [List.drop_of_length_le (by omega)] at hx; cases hx
 ·have hi : i.toNat < s.length := by omega
  have hgi := at8_get hi
  obtain ⟨hk0, hk1, hk2⟩ := ix_mem (hin _ (List.mem_of_getElem? hgi))
  have e1 : (i + 1).toNat = i.toNat + 1 := by omega
  have htk1 : s.take (i.toNat + 1) = s.take i.toNat ++ [by8 s i.toNat] := by rw [List.take_add_one, hgi]; rfl
  have htl : (s.take i.toNat).length = i.toNat := by rw [List.length_take]; omega
  rw [e1] at hR' hmax
  rw [htk1, List.append_assoc, List.singleton_append] at hR'
  have hset : ∀ x, (s.take i.toNat ++ by8 s i.toNat :: List.replicate (s.length - (i.toNat + 1)) (by8 a 0)).set i.toNat x = s.take i.toNat ++ x :: List.replicate (s.length - (i.toNat + 1)) (by8 a 0) := fun x => by
   have := set_mid (s.take i.toNat) (List.replicate (s.length - (i.toNat + 1)) (by8 a 0)) (by8 s i.toNat) x
   rw [htl] at this; exact this
  have hyl : (s.take i.toNat ++ by8 s i.toNat :: List.replicate (s.length - (i.toNat + 1)) (by8 a 0)).length = s.length := by
   rw [List.length_append, htl, List.length_cons, List.length_replicate]; omega
  refine ⟨_, by omega, hgi, s_strings_IndexByte _ _ _ _ (sidx_is _ _ ⟨_, rfl, inI_big (by omega) (by omega), fun hlt => ?_, fun hnl => ?_⟩)⟩
  ·rw [hk0] at hlt ⊢
   have hk3 : ixN a (by8 s i.toNat) + 1 < a.length := by omega
   refine ⟨inI_big (by omega) (by omega), by8 a (ixN a (by8 s i.toNat) + 1), by omega, by rw [show (((ixN a (by8 s i.toNat) : Nat) : Int) + 1).toNat = ixN a (by8 s i.toNat) + 1 by omega]; exact at8_get hk3, g, 0, rfl, by omega, by omega, ?_, hL, fun M44 hM44 => ?_⟩
   ·have := hR'.has (i := i.toNat) (k := 1) (by omega)
    rw [show 0 + i.toNat * 1 = i.toNat by omega]; exact this
   ·have hput := hR'.put (i := i.toNat) (by omega) (by8 a (ixN a (by8 s i.toNat) + 1))
    rw [hset] at hput
    rw [← hM44] at hput
    have hl2 : (s.take i.toNat ++ by8 a (ixN a (by8 s i.toNat) + 1) :: List.replicate (s.length - (i.toNat + 1)) (by8 a 0)).length = s.length := by
     rw [List.length_append, htl, List.length_cons, List.length_replicate]; omega
    have hslv := hput.slv
    rw [hl2] at hslv
    refine ⟨_, hslv, hl2, fun M5 hle5 => h3 h0 _ (by omega) (fun x hx => ?_) ?_ M5 (hMle ((by rw [hM44]; exact hk'.put : Kp g M4 M44).le hle5))⟩
    ·rcases List.mem_append.1 hx with hx | hx
     ·exact hin x (List.mem_of_mem_take hx)
     ·rcases List.mem_cons.1 hx with rfl | hx
      ·exact List.mem_of_getElem? (at8_get hk3)
      ·exact rep _ x hx
    ·have hs : s = s.take i.toNat ++ by8 s i.toNat :: s.drop (i.toNat + 1) := by
      have := List.take_append_drop i.toNat s
      rw [drop_at hi] at this; exact this.symm
     have hmx := sumD_max a1 (s.drop (i.toNat + 1)) hmax
     have e2 : sumD a s = sumD a (s.take i.toNat) * a.length ^ (s.length - i.toNat) + (ixN a (by8 s i.toNat) * a.length ^ (s.length - (i.toNat + 1)) + sumD a (s.drop (i.toNat + 1))) := by
      conv => lhs; rw [hs]
      rw [sumD_app, sumD, List.length_cons, List.length_drop]
      rw [show s.length - (i.toNat + 1) + 1 = s.length - i.toNat by omega]
     rw [List.length_drop] at hmx
     unfold rankN
     rw [hl2, e2, sumD_app, sumD, ix_at hasc hk3, sumD_zero hasc a1, List.length_cons, List.length_replicate, show s.length - (i.toNat + 1) + 1 = s.length - i.toNat by omega, Nat.add_mul]
     omega
  ·rw [hk0] at hnl
   refine ⟨by8 a 0, by omega, at8_get (by omega), g, 0, rfl, by omega, by omega, ?_, hL, fun M49 hM49 => ⟨inI_big (by omega) (by omega), (), ⟨by omega, by omega, ?_, fun x hx => ?_, by rw [hM49]; exact hk'.put⟩, ?_⟩⟩
   ·have := hR'.has (i := i.toNat) (k := 1) (by omega)
    rw [show 0 + i.toNat * 1 = i.toNat by omega]; exact this
   ·have hput := hR'.put (i := i.toNat) (by omega) (by8 a 0)
    rw [hset, ← hM49] at hput
    rw [show (i - 1 + 1).toNat = i.toNat by omega, show s.length - i.toNat = (s.length - (i.toNat + 1)) + 1 by omega, List.replicate_succ]
    exact hput
   ·rw [show (i - 1 + 1).toNat = i.toNat by omega, drop_at hi] at hx
    rcases List.mem_cons.1 hx with rfl | hx
    ·omega
    ·exact hmax x hx
   ·show (i - 1 + 1).toNat < (i + 1).toNat; omega
 ·have hi : i = -1 := by omega
  subst hi
  rw [show (-1 + 1 : Int).toNat = 0 by rfl, List.take_zero, List.nil_append, Nat.sub_zero] at hR'
  rw [show (-1 + 1 : Int).toNat = 0 by rfl, List.drop_zero] at hmax
  have hmx := sumD_max a1 s hmax
  refine ⟨fun h6' M5 hle5 => h2 h0 ?_ M5 (hMle (hk'.le hle5)), fun hn6 => ⟨by8 a 0, by omega, at8_get (by omega), fun u hu => ?_, bytesV (List.replicate s.length (by8 a 0)), ?_, fun g' hg' => ?_, by omega, fun M55 ad cap hap => ?_⟩⟩
  ·unfold rankN
   rw [show s.length = 6 by omega] at hmx ⊢
   have : geo a.length 7 = geo a.length 6 + a.length ^ 6 := rfl
   omega
  ·simp only [List.mem_singleton] at hu; subst hu; rfl
  ·obtain ⟨cur, t, f, b1, b2, b3, b4⟩ := hR'.blk
   refine ⟨by simp [bytesV], hlc, hcm, g, cur, t, f, rfl, b1, by omega, b3, ?_⟩
   rw [List.length_replicate] at b4
   rw [Nat.mul_one]; exact b4
  ·cases hg'; exact hL
  ·have e : bytesV (List.replicate s.length (by8 a 0)) ++ [Value.int .u8 ((by8 a 0).toNat : Int)] = bytesV (List.replicate (s.length + 1) (by8 a 0)) := by
    unfold bytesV
    rw [List.replicate_succ', List.map_append]; rfl
   have hslv := hap.slv
   rw [e] at hslv
   refine ⟨_, hslv, by simp, fun M5 hle5 => h3 h0 _ (by simp; omega) (rep _) ?_ M5 fun b o hbo => hle5 b o (hap.keep b o (hMle hk' b o hbo) fun g' hg' e => ?_)⟩
   ·unfold rankN
    rw [List.length_replicate, sumD_zero hasc a1, geo]; omega
   ·cases hg'
    rw [e, hg] at hbo; cases hbo
end
theorem walk : WalkGoal := by
 intro H enc W a ha s hs n hn
 refine s_chafflaw_WalkNexts _ _ _ _ _ ?_
 unfold S_chafflaw_WalkNexts
 generalize HM W = M at *
 have j3 : ∀ M, S_chafflaw_WalkNexts_J3 a n M false (fun v => v = .bool true) := fun M => by
  unfold S_chafflaw_WalkNexts_J3
  refine ⟨fun h => (by cases h), fun _ => ?_⟩
  have alph : ∀ (k er : Int), (∀ want : Int, want = (if alphaP a = 0 ∧ (n < 0 ∨ 6 < n) then 1 else alphaP a) → S_chafflaw_WalkNexts_J5 a n M k er want (fun v => v = .bool true)) →
    CallE Try.prog 21 #[(Value.string (mkS a))] M (fun v _ => ∃ (x20 : Int), v = (Value.int .i64 x20) ∧ (((x20 : Int) = 0 → ((n < 0 → (S_chafflaw_WalkNexts_J4 a n M k er x20 true (fun v => v = .bool true))) ∧ (¬ (n < 0) → (S_chafflaw_WalkNexts_J4 a n M k er x20 (decide (n > 6)) (fun v => v = .bool true))))) ∧ (¬ ((x20 : Int) = 0) → (S_chafflaw_WalkNexts_J4 a n M k er x20 false (fun v => v = .bool true))))) := by
   intro k er h
   have j4 : ∀ v : Bool, v = decide (alphaP a = 0 ∧ (n < 0 ∨ 6 < n)) → S_chafflaw_WalkNexts_J4 a n M k er (alphaP a) v (fun v => v = .bool true) := by
    intro v hv
    unfold S_chafflaw_WalkNexts_J4
    exact ⟨fun ht => h 1 (by rw [if_pos (of_decide_eq_true (hv ▸ ht))]), fun hf => h _ (by rw [if_neg]; intro hc; exact hf (by rw [hv, decide_eq_true hc]))⟩
   refine e_chaffref_Alpha _ _ _ (ralpha_is a _ _ _ fun M' _ => ⟨_, rfl, fun h0 => ⟨fun h => j4 _ (by symm; exact decide_eq_true ⟨h0, .inl h⟩), fun h => j4 _ (by rw [decide_eq_decide]; omega)⟩, fun h0 => j4 _ (by symm; exact decide_eq_false fun hc => h0 hc.1)⟩)
  refine s_walk_Many _ _ _ _ (wmany_is a n _ _ (fun h => ⟨_, _, rfl, alph _ _ fun want hw => ?_⟩) (fun h hb => ⟨_, _, rfl, alph _ _ fun want hw => ?_⟩) fun h hn0 hn6 => ⟨_, _, rfl, alph _ _ fun want hw => ?_⟩)
  ·rw [if_neg (fun hc => h hc.1)] at hw
   subst hw
   unfold S_chafflaw_WalkNexts_J5
   exact ⟨fun _ => ⟨fun _ => by simp, fun hn => absurd rfl hn⟩, fun hn => absurd h hn⟩
  ·rw [if_pos ⟨h, hb⟩] at hw
   subst hw
   unfold S_chafflaw_WalkNexts_J5
   exact ⟨fun _ => ⟨fun _ => by simp, fun hn => absurd rfl hn⟩, fun hn => absurd (by decide) hn⟩
  ·rw [if_neg (fun hc => by omega), h] at hw
   subst hw
   obtain ⟨a1, a8, hasc⟩ := alpha_ok h
   unfold S_chafflaw_WalkNexts_J5
   exact ⟨fun hn => absurd rfl hn, fun _ => ⟨fun _ => s_chaffref_Many _ _ _ _ (rmany_is a8 hn0 hn6 _ _ ⟨_, rfl, by simp⟩), fun hn => absurd rfl hn⟩⟩
 have want : ∀ (t : List UInt8) (er : Int), (∀ w : Int, w = (if overP a s = 0 ∧ rankN a s + 1 = geo a.length 7 then 12 else overP a s) → S_chafflaw_WalkNexts_J2 a s n M t er w (fun v => v = .bool true)) →
   CallE Try.prog 23 #[(Value.string (mkS a)), (Value.string (mkS s))] M (fun v _ => ∃ (x6 : Int), v = (Value.int .i64 x6) ∧ (((x6 : Int) = 0 → (CallE Try.prog 25 #[(Value.string (mkS a)), (Value.string (mkS s))] M (fun v _ => ∃ (x7 : Int), v = (Value.int .i64 x7) ∧ (CallE Try.prog 26 #[(Value.string (mkS a)), (Value.int .i64 6)] M (fun v _ => ∃ (x8 : Int), v = (Value.int .i64 x8) ∧ (InI (x8 - 1) ∧ (S_chafflaw_WalkNexts_J1 a s n M t er x6 ((x7 : Int) == (x8 - 1 : Int)) (fun v => v = .bool true)))))))) ∧ (¬ ((x6 : Int) = 0) → (S_chafflaw_WalkNexts_J1 a s n M t er x6 false (fun v => v = .bool true))))) := by
  intro t er h
  have j1 : ∀ v : Bool, v = decide (overP a s = 0 ∧ rankN a s + 1 = geo a.length 7) → S_chafflaw_WalkNexts_J1 a s n M t er (overP a s) v (fun v => v = .bool true) := by
   intro v hv
   unfold S_chafflaw_WalkNexts_J1
   exact ⟨fun ht => h 12 (by rw [if_pos (of_decide_eq_true (hv ▸ ht))]), fun hf => h _ (by rw [if_neg]; intro hc; exact hf (by rw [hv, decide_eq_true hc]))⟩
  refine s_chaffref_Over _ _ _ _ (rover_is _ ⟨_, rfl, fun h0 => ?_, fun h0 => j1 _ (by symm; exact decide_eq_false fun hc => h0 hc.1)⟩)
  obtain ⟨a1, a8, hasc, h6, hin⟩ := over_ok h0
  have g7 := geo8 a8 7 (Nat.le_refl _)
  have g7' : geo a.length ((6 : Int).toNat + 1) = geo a.length 7 := rfl
  refine s_chaffref_Rank _ _ _ _ (rrank_is a1 a8 hasc h6 hin _ ⟨_, rfl, s_chaffref_Many _ _ _ _ (rmany_is a8 (by omega) (by omega) _ _ ⟨_, rfl, inI_big (by omega) (by omega), j1 _ ?_⟩)⟩)
  rw [show (6 : Int).toNat + 1 = 7 by rfl, Bool.eq_iff_iff, beq_iff_eq, decide_eq_true_iff]
  exact ⟨fun h => ⟨h0, by omega⟩, fun h => by omega⟩
 refine e_walk_Next _ _ _ _ (wnext_is _ _ (fun h M' hle => ⟨_, _, rfl, ?_⟩) (fun h hr M' hle => ⟨_, _, rfl, ?_⟩) fun h t ht6 htin htr M' hle => ⟨_, _, rfl, ?_⟩)
 ·refine want _ _ fun w hw => ?_
  rw [if_neg (fun hc => h hc.1)] at hw
  subst hw
  unfold S_chafflaw_WalkNexts_J2
  exact ⟨fun hn => absurd rfl hn, fun _ => ⟨fun _ => ⟨fun hn => absurd rfl hn, fun _ => ⟨fun h' => absurd h' h, fun _ => j3 _⟩⟩, fun hn => absurd h hn⟩⟩
 ·refine want _ _ fun w hw => ?_
  rw [if_pos ⟨h, hr⟩] at hw
  subst hw
  unfold S_chafflaw_WalkNexts_J2
  exact ⟨fun hn => absurd rfl hn, fun _ => ⟨fun _ => ⟨fun hn => absurd rfl hn, fun _ => ⟨fun h' => absurd h' (by decide), fun _ => j3 _⟩⟩, fun hn => absurd (by decide) hn⟩⟩
 ·obtain ⟨a1, a8, hasc, h6, hin⟩ := over_ok h
  refine want _ _ fun w hw => ?_
  have hlt := (rank_lt a1 htin).2
  have hg7 : geo a.length (t.length + 1) ≤ geo a.length 7 := by
   by_cases e : t.length = 6
   ·rw [e]; exact Nat.le_refl _
   ·exact Nat.le_of_lt (geo_lt a1 (by omega))
  have g7 := geo8 a8 7 (Nat.le_refl _)
  rw [if_neg (fun hc => by omega), h] at hw
  subst hw
  unfold S_chafflaw_WalkNexts_J2
  refine ⟨fun hn => absurd rfl hn, fun _ => ⟨fun hn => absurd rfl hn, fun _ => ⟨fun _ => s_chaffref_Over _ _ _ _ (rover_is _ ⟨_, rfl, fun hn => absurd (over_of ((over_ok h).1 |> fun _ => ?_) ht6 htin) hn, fun _ => ?_⟩), fun hn => absurd rfl hn⟩⟩⟩
  ·unfold overP at h
   split at h
   ·rename_i h1; exact absurd h h1
   ·rename_i h1; exact Decidable.not_not.1 h1
  ·refine s_chaffref_Rank _ _ _ _ (rrank_is a1 a8 hasc ht6 htin _ ⟨_, rfl, s_chaffref_Rank _ _ _ _ (rrank_is a1 a8 hasc h6 hin _ ⟨_, rfl, inI_big (by omega) (by omega), ?_⟩)⟩)
   have e : (((rankN a t : Nat) : Int) != ((rankN a s : Nat) : Int) + 1) = false := by
    rw [bne_eq_false_iff_eq]; omega
   rw [e]
   exact j3 _
theorem holds : Rows.WalkNextsSaid := top walk
#print axioms holds
end Go.Proofs.Ythljpajbcllhhaa.lawWalkNexts
