/- For every input WalkRanks answers true and leaves its arguments as they were. No condition. -/
import Derived.Test.YthljpajbcllhhaaM2
import Derived.Test.YthljpajbcllhhaaWalkRanksT
import Derived.Test.YthljpajbcllhhaaM3
namespace Go.Proofs.Ythljpajbcllhhaa.lawWalkRanks
open Go.Gx Go.RowKit Go.ChangeShapes Go.WideShapes Go.ChangeAt
open core
set_option linter.unusedVariables false
section
variable {a s : List UInt8} {M : Mem}
theorem wrank_is (K : Value → Prop) (h1 : overP a s ≠ 0 → K (.tuple #[.int .i64 0, .int .i64 (overP a s)])) (h2 : overP a s = 0 → K (.tuple #[.int .i64 ((rankN a s : Nat) : Int), .int .i64 0])) : S_walk_Rank a s M K := by
 unfold S_walk_Rank
 refine s_walk_Over _ _ _ _ (wover_is _ ⟨_, rfl, h1, fun h => ?_⟩)
 have h0 := Decidable.not_not.1 h
 obtain ⟨a1, a8, hasc, h6, hin⟩ := over_ok h0
 refine ⟨fun n i => 0 ≤ i ∧ i ≤ s.length ∧ n = ((sumD a (s.take i.toNat) : Nat) : Int), fun _ i => s.length - i.toNat, ⟨by omega, by omega, by simp [sumD]⟩, fun n i ⟨i0, i1, hn⟩ => ⟨fun hlt => ?_, fun hge => ?_⟩⟩
 ·have hi : i.toNat < s.length := by omega
  have hg := at8_get hi
  obtain ⟨hk0, hk1, _⟩ := ix_mem (hin _ (List.mem_of_getElem? hg))
  have htk : s.take (i.toNat + 1) = s.take i.toNat ++ [by8 s i.toNat] := by rw [List.take_add_one, hg]; rfl
  have e1 : sumD a (s.take (i.toNat + 1)) = sumD a (s.take i.toNat) * a.length + ixN a (by8 s i.toNat) := by rw [htk, sumD_app]; simp [sumD]
  have b0 := sumD_lt a1 (s := s.take (i.toNat + 1)) fun c hc => hin c (List.mem_of_mem_take hc)
  have b1 := pow8 a8 (n := (s.take (i.toNat + 1)).length) (by rw [List.length_take]; omega)
  have hm : n * ((a.length : Nat) : Int) = ((sumD a (s.take i.toNat) * a.length : Nat) : Int) := by rw [hn]; push_cast; rfl
  rw [hm]
  refine ⟨inI_big (by omega) (by omega), _, i0, hg, s_strings_IndexByte _ _ _ _ (sidx_is _ _ ⟨_, rfl, ?_⟩)⟩
  rw [hk0]
  refine ⟨inI_big (by omega) (by omega), inI_big (by omega) (by omega), ⟨by omega, by omega, ?_⟩, ?_⟩
  ·rw [show (i + 1).toNat = i.toNat + 1 by omega, e1]; push_cast; rfl
  ·show s.length - (i + 1).toNat < s.length - i.toNat; omega
 ·have e : i.toNat = s.length := by omega
  rw [e, List.take_length] at hn
  have b0 := sumD_lt a1 hin
  have b1 := pow8 a8 (n := s.length) (by omega)
  have b2 := geo8 a8 s.length (by omega)
  have b3 : s.length * 2097152 ≤ 7 * 2097152 := Nat.mul_le_mul_right _ (by omega)
  refine s_walk_shorter _ _ _ _ (shorter_is a8 (by omega) (by omega) _ _ ⟨_, rfl, ?_⟩)
  rw [hn, Int.toNat_natCast]
  refine ⟨inI_big (by omega) (by omega), ?_⟩
  have := h2 h0
  unfold rankN at this
  push_cast at this ⊢
  exact this
theorem bytes_repl (n : Nat) : bytesV (List.replicate n 0) = repl n [Value.int .u8 0] := by
 unfold bytesV repl
 induction n with
 | zero => rfl
 | succ n ih => rw [List.replicate_succ, List.map_cons, ih, List.replicate_succ, List.flatten_cons]; rfl
theorem wunrank_is {n : Int} (K : Value → Prop) (h1 : alphaP a ≠ 0 → K (.tuple #[.string (mkS []), .int .i64 (alphaP a)])) (h2 : alphaP a = 0 → (n < 0 ∨ ((geo a.length 7 : Nat) : Int) ≤ n) → K (.tuple #[.string (mkS []), .int .i64 1])) (h3 : alphaP a = 0 → 0 ≤ n → n < ((geo a.length 7 : Nat) : Int) → ∀ t : List UInt8, t.length ≤ 6 → (∀ c ∈ t, c ∈ a) → ((rankN a t : Nat) : Int) = n → K (.tuple #[.string (mkS t), .int .i64 0])) : S_walk_Unrank a n M K := by
 unfold S_walk_Unrank
 refine s_walk_Alpha _ _ _ (walpha_is a _ _ ⟨_, rfl, h1, fun h => ?_⟩)
 have h0 := Decidable.not_not.1 h
 obtain ⟨a1, a8, hasc⟩ := alpha_ok h0
 have g7 := geo8 a8 7 (Nat.le_refl _)
 have j1 : ∀ v : Bool, v = decide (n < 0 ∨ ((geo a.length 7 : Nat) : Int) ≤ n) → S_walk_Unrank_J1 a n M v K := by
  intro v hv
  unfold S_walk_Unrank_J1
  refine ⟨fun ht => h2 h0 (of_decide_eq_true (hv ▸ ht)), fun hf => ?_⟩
  have hn : ¬ (n < 0 ∨ ((geo a.length 7 : Nat) : Int) ≤ n) := fun h => hf (by rw [hv, decide_eq_true h])
  refine ⟨fun k => 0 ≤ k ∧ k ≤ 6 ∧ ((geo a.length k.toNat : Nat) : Int) ≤ n, fun k => 6 - k.toNat, ⟨by omega, by omega, by simp [geo]; omega⟩, fun k ⟨k0, k6, hkn⟩ => ⟨inI_big (by omega) (by omega), s_walk_shorter _ _ _ _ (shorter_is a8 (by omega) (by omega) _ _ ⟨_, rfl, fun hle => ?_, fun hgt => ?_⟩)⟩⟩
  ·have : k ≠ 6 := fun e => by rw [e] at hle; exact hn (.inr hle)
   exact ⟨inI_big (by omega) (by omega), ⟨by omega, by omega, hle⟩, by show 6 - (k + 1).toNat < 6 - k.toNat; omega⟩
  ·rw [show (k + 1).toNat = k.toNat + 1 by omega] at hgt
   have hpk : ((geo a.length (k.toNat + 1) : Nat) : Int) = ((geo a.length k.toNat : Nat) : Int) + ((a.length ^ k.toNat : Nat) : Int) := by rw [geo]; push_cast; rfl
   obtain ⟨m0, hm0⟩ : ∃ m0 : Nat, n - ((geo a.length k.toNat : Nat) : Int) = (m0 : Nat) := ⟨(n - ((geo a.length k.toNat : Nat) : Int)).toNat, by omega⟩
   have hm1 : m0 < a.length ^ k.toNat := by omega
   have hp8 := pow8 a8 (n := k.toNat) (by omega)
   refine s_walk_shorter _ _ _ _ (shorter_is a8 k0 (by omega) _ _ ⟨_, rfl, inI_big (by omega) (by omega), k0, Int.le_refl _, by omega, inI_big (by omega) (by omega), ?_⟩)
   rw [hm0]
   refine ⟨fun m i rn rx => -1 ≤ i ∧ i ≤ k - 1 ∧ rn = k.toNat ∧ ∃ (m' : Nat) (y : List UInt8), m = (m' : Nat) ∧ m' ≤ 10000000 ∧ rx = bytesV y ∧ y.length = k.toNat ∧ (∀ c ∈ y.drop (i + 1).toNat, c ∈ a) ∧ m' * a.length ^ (k.toNat - (i + 1).toNat) + sumD a (y.drop (i + 1).toNat) = m0, fun _ i _ _ => (i + 1).toNat, ⟨by omega, by omega, rfl, m0, List.replicate k.toNat 0, rfl, by omega, (bytes_repl _).symm, by simp, fun c hc => ?_, ?_⟩, fun m i rn rx ⟨i0, i1, hrn, m', y, hm, hmb, hrx, hyl, hin, hsum⟩ => ⟨fun hge => ?_, fun hlt => ?_⟩⟩
   ·rw [List.drop_of_length_le (by rw [List.length_replicate]; omega)] at hc; cases hc
   ·rw [List.drop_of_length_le (by rw [List.length_replicate]; omega), show (k - 1 + 1).toNat = k.toNat by omega, Nat.sub_self]; simp [sumD]
   ·have hb0 : ((a.length : Nat) : Int) ≠ 0 := by omega
    have et : m.tmod ((a.length : Nat) : Int) = ((m' % a.length : Nat) : Int) := by rw [hm]; exact (Int.ofNat_tmod m' a.length).symm
    have ed : m.tdiv ((a.length : Nat) : Int) = ((m' / a.length : Nat) : Int) := by rw [hm]; exact (Int.ofNat_tdiv m' a.length).symm
    have hlt1 : m' % a.length < a.length := Nat.mod_lt _ (by omega)
    have hdl := Nat.div_le_self m' a.length
    rw [et, ed]
    have hiy : i.toNat < y.length := by omega
    generalize hdq : m' / a.length = dq at hdl
    refine ⟨hb0, by8 a (m' % a.length), by omega, by rw [Int.toNat_natCast]; exact at8_get hlt1, by omega, by omega, hb0, inI_big (by omega) (by omega), inI_big (by omega) (by omega), ⟨by omega, by omega, hrn, dq, y.set i.toNat (by8 a (m' % a.length)), rfl, by omega, ?_, by rw [List.length_set]; exact hyl, ?_, ?_⟩, ?_⟩
    ·rw [hrx]
     have := putAt_map (fun c : UInt8 => Value.int .u8 (c.toNat : Int)) y (0 + i.toNat * 1) (by8 a (m' % a.length)) (by omega)
     unfold bytesV
     rw [this]
     simp
    ·have hds : (y.set i.toNat (by8 a (m' % a.length))).drop (i - 1 + 1).toNat = by8 a (m' % a.length) :: y.drop (i + 1).toNat := by
      rw [show (i - 1 + 1).toNat = i.toNat by omega, List.drop_eq_getElem_cons (by rw [List.length_set]; exact hiy), List.getElem_set_self, List.drop_set_of_lt (by omega), show i.toNat + 1 = (i + 1).toNat by omega]
     rw [hds]
     intro c hc
     rcases List.mem_cons.1 hc with rfl | hc
     ·exact List.mem_of_getElem? (at8_get hlt1)
     ·exact hin c hc
    ·have hds : (y.set i.toNat (by8 a (m' % a.length))).drop (i - 1 + 1).toNat = by8 a (m' % a.length) :: y.drop (i + 1).toNat := by
      rw [show (i - 1 + 1).toNat = i.toNat by omega, List.drop_eq_getElem_cons (by rw [List.length_set]; exact hiy), List.getElem_set_self, List.drop_set_of_lt (by omega), show i.toNat + 1 = (i + 1).toNat by omega]
     rw [hds, sumD, ix_at hasc hlt1, List.length_drop, ← hsum, hyl]
     have e1 : k.toNat - (i - 1 + 1).toNat = (k.toNat - (i + 1).toNat) + 1 := by omega
     rw [e1, Nat.pow_succ, Nat.mul_comm (a.length ^ _), ← Nat.mul_assoc, ← Nat.add_assoc, ← Nat.add_mul]
     congr 2
     rw [← hdq, Nat.mul_comm]
     exact Nat.div_add_mod m' a.length
    ·show (i - 1 + 1).toNat < (i + 1).toNat; omega
   ·have hi : i = -1 := by omega
    subst hi
    rw [show (-1 + 1 : Int).toNat = 0 by rfl, List.drop_zero] at hin hsum
    rw [Nat.sub_zero] at hsum
    have hm'0 : m' = 0 := by
     rcases Nat.eq_zero_or_pos m' with h | h
     ·exact h
     ·have : 1 * a.length ^ k.toNat ≤ m' * a.length ^ k.toNat := Nat.mul_le_mul_right _ h
      omega
    rw [hm'0, Nat.zero_mul, Nat.zero_add] at hsum
    refine ⟨y, hrx, h3 h0 (by omega) (by omega) y (by omega) hin ?_⟩
    unfold rankN
    rw [hsum, hyl]
    push_cast
    omega
 exact ⟨fun h => j1 _ (by symm; exact decide_eq_true (.inl h)), fun h => s_walk_shorter _ _ _ _ (shorter_is a8 (by omega) (by omega) _ _ ⟨_, rfl, j1 _ (by rw [decide_eq_decide]; exact ⟨fun h => .inr h, fun h' => h'.elim (fun h' => absurd h' h) id⟩)⟩)⟩
end
theorem walk : WalkGoal := by
 intro H enc W a ha s hs n hn
 refine s_chafflaw_WalkRanks _ _ _ _ _ ?_
 unfold S_chafflaw_WalkRanks
 generalize HM W = M at *
 have j3 : S_chafflaw_WalkRanks_J3 a n M (fun v => v = .bool true) := by
  unfold S_chafflaw_WalkRanks_J3
  have alph : ∀ (t : List UInt8) (er : Int), (∀ want : Int, want = (if alphaP a = 0 ∧ (n < 0 ∨ ((geo a.length 7 : Nat) : Int) ≤ n) then 1 else alphaP a) → S_chafflaw_WalkRanks_J5 a n M t er want (fun v => v = .bool true)) →
    CallE Try.prog 21 #[(Value.string (mkS a))] M (fun v _ => ∃ (x12 : Int), v = (Value.int .i64 x12) ∧ (((x12 : Int) = 0 → ((n < 0 → (S_chafflaw_WalkRanks_J4 a n M t er x12 true (fun v => v = .bool true))) ∧ (¬ (n < 0) → (CallE Try.prog 26 #[(Value.string (mkS a)), (Value.int .i64 6)] M (fun v _ => ∃ (x13 : Int), v = (Value.int .i64 x13) ∧ (S_chafflaw_WalkRanks_J4 a n M t er x12 (decide (n ≥ x13)) (fun v => v = .bool true))))))) ∧ (¬ ((x12 : Int) = 0) → (S_chafflaw_WalkRanks_J4 a n M t er x12 false (fun v => v = .bool true))))) := by
   intro t er h
   refine e_chaffref_Alpha _ _ _ (ralpha_is a _ _ _ fun M' _ => ⟨_, rfl, fun h0 => ?_, fun h0 => ?_⟩)
   ·obtain ⟨a1, a8, _⟩ := alpha_ok h0
    have j4 : ∀ v : Bool, v = decide (n < 0 ∨ ((geo a.length 7 : Nat) : Int) ≤ n) → S_chafflaw_WalkRanks_J4 a n M t er (alphaP a) v (fun v => v = .bool true) := by
     intro v hv
     unfold S_chafflaw_WalkRanks_J4
     refine ⟨fun ht => h 1 (by rw [if_pos ⟨h0, of_decide_eq_true (hv ▸ ht)⟩]), fun hf => h _ (by rw [if_neg]; intro hc; exact hf (by rw [hv, decide_eq_true hc.2]))⟩
    exact ⟨fun h => j4 _ (by symm; exact decide_eq_true (.inl h)), fun h => s_chaffref_Many _ _ _ _ (rmany_is a8 (by omega) (by omega) _ _ ⟨_, rfl, j4 _ (by rw [decide_eq_decide]; exact ⟨fun h => .inr h, fun h' => h'.elim (fun h' => absurd h' h) id⟩)⟩)⟩
   ·unfold S_chafflaw_WalkRanks_J4
    exact ⟨fun h => (by cases h), fun _ => h _ (by rw [if_neg (fun hc => h0 hc.1)])⟩
  refine s_walk_Unrank _ _ _ _ (wunrank_is _ (fun h => ⟨_, _, rfl, alph _ _ fun want hw => ?_⟩) (fun h hb => ⟨_, _, rfl, alph _ _ fun want hw => ?_⟩) fun h hn0 hn1 t ht6 htin htr => ⟨_, _, rfl, alph _ _ fun want hw => ?_⟩)
  ·rw [if_neg (fun hc => h hc.1)] at hw
   subst hw
   unfold S_chafflaw_WalkRanks_J5
   exact ⟨fun _ => ⟨fun _ => by simp, fun hn => absurd rfl hn⟩, fun hn => absurd h hn⟩
  ·rw [if_pos ⟨h, hb⟩] at hw
   subst hw
   unfold S_chafflaw_WalkRanks_J5
   exact ⟨fun _ => ⟨fun _ => by simp, fun hn => absurd rfl hn⟩, fun hn => absurd (by decide) hn⟩
  ·rw [if_neg (fun hc => by omega), h] at hw
   subst hw
   obtain ⟨a1, a8, hasc⟩ := alpha_ok h
   unfold S_chafflaw_WalkRanks_J5
   refine ⟨fun hn => absurd rfl hn, fun _ => ⟨fun _ => s_chaffref_Over _ _ _ _ (rover_is _ ⟨_, rfl, fun _ => ?_, fun hn => absurd (over_of h ht6 htin) hn⟩), fun hn => absurd rfl hn⟩⟩
   exact s_chaffref_Rank _ _ _ _ (rrank_is a1 a8 hasc ht6 htin _ ⟨_, rfl, by rw [htr]; simp⟩)
 refine s_walk_Rank _ _ _ _ (wrank_is _ (fun h => ⟨_, _, rfl, ?_⟩) fun h => ⟨_, _, rfl, ?_⟩)
 ·refine s_chaffref_Over _ _ _ _ (rover_is _ ⟨_, rfl, fun _ => ⟨fun hn => absurd rfl hn, fun _ => ?_⟩, fun hn => absurd h hn⟩)
  unfold S_chafflaw_WalkRanks_J1
  exact ⟨fun h => by simp at h, fun _ => j3⟩
 ·obtain ⟨a1, a8, hasc, h6, hin⟩ := over_ok h
  refine s_chaffref_Over _ _ _ _ (rover_is _ ⟨_, rfl, fun hn => absurd h hn, fun _ => ⟨fun hn => absurd rfl hn, fun _ => s_chaffref_Rank _ _ _ _ (rrank_is a1 a8 hasc h6 hin _ ⟨_, rfl, ?_⟩)⟩⟩)
  unfold S_chafflaw_WalkRanks_J2
  exact ⟨fun h => by simp at h, fun _ => j3⟩
theorem holds : Rows.WalkRanksSaid := top walk
#print axioms holds
end Go.Proofs.Ythljpajbcllhhaa.lawWalkRanks
