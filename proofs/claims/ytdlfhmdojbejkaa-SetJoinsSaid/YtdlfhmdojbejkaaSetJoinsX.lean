/- For every input SetJoins answers true and leaves its arguments as they were. No condition. -/
import Derived.Test.YtdlfhmdojbejkaaSetJoinsG
namespace Go.Proofs.Ytdlfhmdojbejkaa.lawSetJoins
open Go.Gx Go.RowKit Go.ChangeShapes Go.WideShapes Go.ChangeAt
/-! ### Sets of bytes: four words -/

theorem wrapU (n : Nat) (h : n < 2 ^ 64) : IntKind.wrap .u64 (n : Int) = n := by
  simp only [IntKind.wrap, IntKind.bits, IntKind.signed, Bool.false_and, Bool.false_eq_true, if_false]
  omega
theorem bvU (n : Nat) (h : n < 2 ^ 64) : (BitVec.ofInt 64 (n : Int)).toNat = n := by
  rw [BitVec.ofInt_natCast, BitVec.toNat_ofNat, Nat.mod_eq_of_lt h]
theorem bOrU (a b : Nat) (ha : a < 2 ^ 64) (hb : b < 2 ^ 64) : bOr .u64 a b = ((a ||| b : Nat) : Int) := by
  show IntKind.wrap .u64 ((BitVec.ofInt 64 (a : Int) ||| BitVec.ofInt 64 (b : Int)).toNat : Int) = _
  rw [BitVec.toNat_or, bvU a ha, bvU b hb, wrapU _ (Nat.or_lt_two_pow ha hb)]
theorem bAndU (a b : Nat) (ha : a < 2 ^ 64) (hb : b < 2 ^ 64) : bAnd .u64 a b = ((a &&& b : Nat) : Int) := by
  show IntKind.wrap .u64 ((BitVec.ofInt 64 (a : Int) &&& BitVec.ofInt 64 (b : Int)).toNat : Int) = _
  rw [BitVec.toNat_and, bvU a ha, bvU b hb, wrapU _ (Nat.and_lt_two_pow a hb)]
theorem bNotU (a : Nat) (ha : a < 2 ^ 64) : bNot .u64 a = (((2 ^ 64 - 1) ^^^ a : Nat) : Int) := by
  show IntKind.wrap .u64 ((BitVec.ofInt 64 (18446744073709551615 : Int) ^^^ BitVec.ofInt 64 (a : Int)).toNat : Int) = _
  have h1 : (BitVec.ofInt 64 (18446744073709551615 : Int)).toNat = 2 ^ 64 - 1 := by decide
  rw [BitVec.toNat_xor, bvU a ha, h1, wrapU _ (Nat.xor_lt_two_pow (by decide) ha)]
theorem bShlU (k : Nat) (hk : k < 64) : bShl .u64 1 k = ((2 ^ k : Nat) : Int) := by
  show IntKind.wrap .u64 (1 * 2 ^ (min (k : Int).toNat 64)) = _
  have : min (k : Int).toNat 64 = k := by omega
  rw [this, Int.one_mul]
  have h2 : (2 ^ k : Nat) < 2 ^ 64 := Nat.pow_lt_pow_right (by decide) hk
  have := wrapU (2 ^ k) h2
  rw [Int.natCast_pow] at this ⊢
  exact this
theorem bShrU (a k : Nat) (hk : k < 64) : bShr .u64 a k = ((a / 2 ^ k : Nat) : Int) := by
  show (a : Int).fdiv (2 ^ (min (k : Int).toNat 64)) = _
  have : min (k : Int).toNat 64 = k := by omega
  rw [this, Int.ofNat_fdiv, Int.natCast_pow]; rfl

/-- The word number w of the set of all bytes of which p holds, its first j bits. -/
def Uw (p : Nat → Bool) (w : Nat) : Nat → Nat
  | 0 => 0
  | j + 1 => Uw p w j + (if p (64 * w + j) = true then 2 ^ j else 0)

theorem Uw_lt (p : Nat → Bool) (w : Nat) : ∀ j, Uw p w j < 2 ^ j
  | 0 => by simp [Uw]
  | j + 1 => by
    have := Uw_lt p w j
    simp only [Uw, Nat.pow_succ]
    split <;> omega

theorem Uw_bit (p : Nat → Bool) (w : Nat) (k : Nat) : ∀ j, (Uw p w j).testBit k = (decide (k < j) && p (64 * w + k))
  | 0 => by simp [Uw]
  | j + 1 => by
    have ih := Uw_bit p w k j
    have hlt := Uw_lt p w j
    simp only [Uw]
    split
    · rename_i hp
      have e : Uw p w j + 2 ^ j = 2 ^ j * 1 ||| Uw p w j := by
        rw [← Nat.two_pow_add_eq_or_of_lt hlt 1]; omega
      rw [e, Nat.mul_one, Nat.testBit_or, Nat.testBit_two_pow, ih]
      by_cases hk : j = k
      · subst hk; simp [hp]
      · have : (decide (k < j + 1)) = decide (k < j) := by congr 1; simp; omega
        rw [this]; simp [hk]
    · rename_i hp
      rw [Nat.add_zero, ih]
      by_cases hk : j = k
      · subst hk; simp [hp]
      · have : (decide (k < j + 1)) = decide (k < j) := by congr 1; simp; omega
        rw [this]

/-- Is byte b in the set of these words? -/
def hasW (s : List Nat) (b : Nat) : Bool := (s.getD (b / 64) 0).testBit (b % 64)

theorem word_ext {x y : Nat} (hx : x < 2 ^ 64) (hy : y < 2 ^ 64) (h : ∀ k, k < 64 → x.testBit k = y.testBit k) : x = y := by
  refine Nat.eq_of_testBit_eq fun k => ?_
  by_cases hk : k < 64
  · exact h k hk
  · have : 2 ^ 64 ≤ 2 ^ k := Nat.pow_le_pow_right (by decide) (by omega)
    rw [Nat.testBit_lt_two_pow (by omega), Nat.testBit_lt_two_pow (by omega)]

theorem word_is {x : Nat} (p : Nat → Bool) (w : Nat) (hx : x < 2 ^ 64) (h : ∀ k, k < 64 → x.testBit k = p (64 * w + k)) : x = Uw p w 64 :=
  word_ext hx (Uw_lt p w 64) fun k hk => by rw [h k hk, Uw_bit]; simp [hk]

theorem hasW_at (s : List Nat) (w k : Nat) (hk : k < 64) : hasW s (64 * w + k) = (s.getD w 0).testBit k := by
  unfold hasW
  rw [show (64 * w + k) / 64 = w by omega, show (64 * w + k) % 64 = k by omega]

theorem has_bit (x k : Nat) (hk : k < 64) : ((bShr .u64 (x : Int) (k : Int)).tmod 2 == (1 : Int)) = x.testBit k := by
  rw [bShrU x k hk, Nat.testBit_eq_decide_div_mod_eq, Int.tmod_eq_emod_of_nonneg (Int.natCast_nonneg _)]
  generalize x / 2 ^ k = y
  rw [Bool.eq_iff_iff, beq_iff_eq, decide_eq_true_iff]
  omega

def natS (s : List Nat) : List Int := s.map fun (n : Nat) => (n : Int)
theorem has_is (a b c d : Nat) (x : Nat) (hx : x < 256) (M : Mem) (K : Value → Prop) (h : K (.bool (hasW [a, b, c, d] x))) : S_chaffref_Has a b c d x M K := by
  unfold S_chaffref_Has
  have e1 : (x : Int).tdiv 64 = ((x / 64 : Nat) : Int) := by rw [Int.tdiv_eq_ediv_of_nonneg (by omega)]; omega
  have e2 : (x : Int).tmod 64 = ((x % 64 : Nat) : Int) := by rw [Int.tmod_eq_emod_of_nonneg (by omega)]; omega
  rw [e1, e2]
  have hq : x / 64 < 4 := by omega
  refine ⟨by unfold InI; omega, by omega, by omega, (([a, b, c, d].getD (x / 64) 0 : Nat) : Int), ?_, by omega, ?_⟩
  · have : (0 + (((x / 64 : Nat) : Int)).toNat * 1) = x / 64 := by omega
    rw [this]
    match h : x / 64, hq with
    | 0, _ => rfl
    | 1, _ => rfl
    | 2, _ => rfl
    | 3, _ => rfl
  · rw [has_bit _ _ (by omega)]; exact h

theorem where_is (fv : Value) (M : Mem) (p : Nat → Bool) (hp : ∀ x : Nat, x < 256 → CallF Try.prog fv [.int .i64 x] M (fun v _ => v = .bool (p x))) (K : Value → Prop)
    (h : K (.agg #[.int .u64 (Uw p 0 64 : Nat), .int .u64 (Uw p 1 64 : Nat), .int .u64 (Uw p 2 64 : Nat), .int .u64 (Uw p 3 64 : Nat)])) : S_chaffref_Where fv M K := by
  unfold S_chaffref_Where
  let Z : Nat → List Int := fun b => [(Uw p 0 (min b 64) : Nat), (Uw p 1 (min (b - 64) 64) : Nat), (Uw p 2 (min (b - 128) 64) : Nat), (Uw p 3 (min (b - 192) 64) : Nat)]
  refine ⟨fun b zs => ∃ n : Nat, b = n ∧ n ≤ 256 ∧ zs = Z n, fun b _ => 256 - b.toNat, ⟨0, rfl, by omega, rfl⟩, fun b zs ⟨n, hb, hn, hz⟩ => ?_⟩
  subst hb
  subst hz
  refine ⟨fun hlt => ?_, fun hge => ?_⟩
  · have hlt' : n < 256 := by omega
    refine (hp n hlt').mono fun v _ _ hv => ⟨p n, hv, fun hpn => ?_, fun hpn => ?_⟩
    · have e1 : (n : Int).tdiv 64 = ((n / 64 : Nat) : Int) := by rw [Int.tdiv_eq_ediv_of_nonneg (by omega)]; omega
      have e2 : (n : Int).tmod 64 = ((n % 64 : Nat) : Int) := by rw [Int.tmod_eq_emod_of_nonneg (by omega)]; omega
      rw [e1, e2]
      have hq : n / 64 < 4 := by omega
      have ei : (0 + (((n / 64 : Nat) : Int)).toNat * 1) = n / 64 := by omega
      rw [ei]
      have hr : n % 64 < 64 := by omega
      have hU := Uw_lt p (n / 64) (n % 64)
      have hpow : 2 ^ (n % 64) < 2 ^ 64 := Nat.pow_lt_pow_right (by decide) hr
      have hpow2 : 2 ^ (n % 64) * 2 ≤ 2 ^ 64 := by rw [← Nat.pow_succ]; exact Nat.pow_le_pow_right (by decide) (by omega)
      have hget : (Z n)[n / 64]? = some ((Uw p (n / 64) (n % 64) : Nat) : Int) := by
        show [((Uw p 0 (min n 64) : Nat) : Int), (Uw p 1 (min (n - 64) 64) : Nat), (Uw p 2 (min (n - 128) 64) : Nat), (Uw p 3 (min (n - 192) 64) : Nat)][n / 64]? = _
        match h : n / 64, hq with
        | 0, _ => rw [show min n 64 = n % 64 by omega]; rfl
        | 1, _ => rw [show min (n - 64) 64 = n % 64 by omega]; rfl
        | 2, _ => rw [show min (n - 128) 64 = n % 64 by omega]; rfl
        | 3, _ => rw [show min (n - 192) 64 = n % 64 by omega]; rfl
      refine ⟨by unfold InI; omega, by omega, by omega, _, hget, by omega, by omega, by omega, by show n / 64 < 4; exact hq, ?_⟩
      rw [bShlU _ hr]
      have hw : IntKind.wrap .u64 (((Uw p (n / 64) (n % 64) : Nat) : Int) + ((2 ^ (n % 64) : Nat) : Int)) = ((Uw p (n / 64) (n % 64 + 1) : Nat) : Int) := by
        rw [← Int.natCast_add, wrapU _ (by omega)]
        have : p (64 * (n / 64) + n % 64) = true := by rw [show 64 * (n / 64) + n % 64 = n by omega]; exact hpn
        simp only [Uw, this, if_true]
      rw [hw]
      have hset : (Z n).set (n / 64) ((Uw p (n / 64) (n % 64 + 1) : Nat) : Int) = Z (n + 1) := by
        show [((Uw p 0 (min n 64) : Nat) : Int), (Uw p 1 (min (n - 64) 64) : Nat), (Uw p 2 (min (n - 128) 64) : Nat), (Uw p 3 (min (n - 192) 64) : Nat)].set (n / 64) _ = [((Uw p 0 (min (n + 1) 64) : Nat) : Int), (Uw p 1 (min (n + 1 - 64) 64) : Nat), (Uw p 2 (min (n + 1 - 128) 64) : Nat), (Uw p 3 (min (n + 1 - 192) 64) : Nat)]
        match h : n / 64, hq with
        | 0, _ => rw [show min (n + 1) 64 = n % 64 + 1 by omega, show min (n + 1 - 64) 64 = min (n - 64) 64 by omega, show min (n + 1 - 128) 64 = min (n - 128) 64 by omega, show min (n + 1 - 192) 64 = min (n - 192) 64 by omega]; rfl
        | 1, _ => rw [show min (n + 1 - 64) 64 = n % 64 + 1 by omega, show min (n + 1) 64 = min n 64 by omega, show min (n + 1 - 128) 64 = min (n - 128) 64 by omega, show min (n + 1 - 192) 64 = min (n - 192) 64 by omega]; rfl
        | 2, _ => rw [show min (n + 1 - 128) 64 = n % 64 + 1 by omega, show min (n + 1) 64 = min n 64 by omega, show min (n + 1 - 64) 64 = min (n - 64) 64 by omega, show min (n + 1 - 192) 64 = min (n - 192) 64 by omega]; rfl
        | 3, _ => rw [show min (n + 1 - 192) 64 = n % 64 + 1 by omega, show min (n + 1) 64 = min n 64 by omega, show min (n + 1 - 64) 64 = min (n - 64) 64 by omega, show min (n + 1 - 128) 64 = min (n - 128) 64 by omega]; rfl
      rw [hset]
      exact ⟨by unfold InI; omega, ⟨n + 1, by omega, by omega, rfl⟩, by dsimp only; omega⟩
    · have hpn' : p n = false := by simpa using hpn
      have hsame : ∀ w : Nat, Uw p w (min (n + 1 - 64 * w) 64) = Uw p w (min (n - 64 * w) 64) := by
        intro w
        by_cases h1 : 64 * w ≤ n ∧ n < 64 * w + 64
        · rw [show min (n + 1 - 64 * w) 64 = min (n - 64 * w) 64 + 1 by omega]
          simp only [Uw]
          rw [show 64 * w + min (n - 64 * w) 64 = n by omega, hpn']
          simp
        · rw [show min (n + 1 - 64 * w) 64 = min (n - 64 * w) 64 by omega]
      have hZ : Z n = Z (n + 1) := by
        have h0 := hsame 0
        have h1 := hsame 1
        have h2 := hsame 2
        have h3 := hsame 3
        simp only [Nat.mul_zero, Nat.sub_zero, Nat.mul_one] at h0 h1 h2 h3
        show [((Uw p 0 (min n 64) : Nat) : Int), (Uw p 1 (min (n - 64) 64) : Nat), (Uw p 2 (min (n - 128) 64) : Nat), (Uw p 3 (min (n - 192) 64) : Nat)] = [((Uw p 0 (min (n + 1) 64) : Nat) : Int), (Uw p 1 (min (n + 1 - 64) 64) : Nat), (Uw p 2 (min (n + 1 - 128) 64) : Nat), (Uw p 3 (min (n + 1 - 192) 64) : Nat)]
        rw [h0, h1, show min (n + 1 - 128) 64 = min (n + 1 - 64 * 2) 64 by omega, h2, show min (n + 1 - 192) 64 = min (n + 1 - 64 * 3) 64 by omega, h3]
      unfold S_chaffref_Where_J1
      exact ⟨by unfold InI; omega, ⟨n + 1, by omega, by omega, hZ⟩, by dsimp only; omega⟩
  · have hn : n = 256 := by omega
    subst hn
    exact ⟨_, _, _, _, rfl, rfl, _, _, _, _, rfl, h⟩

theorem both_is (s t : List Nat) (hs : s.length = 4) (ht : t.length = 4) (g : Nat → Nat → Nat) (fv : Value) (M : Mem) (K : Value → Prop)
    (hf : ∀ i, i < 4 → CallF Try.prog fv [.int .u64 (s.getD i 0 : Nat), .int .u64 (t.getD i 0 : Nat)] M (fun v _ => v = .int .u64 (g (s.getD i 0) (t.getD i 0) : Nat)))
    (h : K (.agg #[.int .u64 (g (s.getD 0 0) (t.getD 0 0) : Nat), .int .u64 (g (s.getD 1 0) (t.getD 1 0) : Nat), .int .u64 (g (s.getD 2 0) (t.getD 2 0) : Nat), .int .u64 (g (s.getD 3 0) (t.getD 3 0) : Nat)])) :
    S_set_both (s.getD 0 0 : Nat) (s.getD 1 0 : Nat) (s.getD 2 0 : Nat) (s.getD 3 0 : Nat) (t.getD 0 0 : Nat) (t.getD 1 0 : Nat) (t.getD 2 0 : Nat) (t.getD 3 0 : Nat) fv M K := by
  obtain ⟨a, b, c, d, rfl⟩ : ∃ a b c d, s = [a, b, c, d] := by
    match s, hs with
    | [a, b, c, d], _ => exact ⟨a, b, c, d, rfl⟩
  obtain ⟨a', b', c', d', rfl⟩ : ∃ a b c d, t = [a, b, c, d] := by
    match t, ht with
    | [a, b, c, d], _ => exact ⟨a, b, c, d, rfl⟩
  have f0 := hf 0 (by omega)
  have f1 := hf 1 (by omega)
  have f2 := hf 2 (by omega)
  have f3 := hf 3 (by omega)
  clear hf
  simp only [List.getD_cons_zero, List.getD_cons_succ] at *
  unfold S_set_both
  refine ⟨fun i zs => (i = 0 ∧ zs = [(a : Int), b, c, d]) ∨ (i = 1 ∧ zs = [(g a a' : Int), b, c, d]) ∨ (i = 2 ∧ zs = [(g a a' : Int), (g b b' : Nat), c, d]) ∨ (i = 3 ∧ zs = [(g a a' : Int), (g b b' : Nat), (g c c' : Nat), d]) ∨ (i = 4 ∧ zs = [(g a a' : Int), (g b b' : Nat), (g c c' : Nat), (g d d' : Nat)]), fun i _ => 4 - i.toNat, .inl ⟨rfl, rfl⟩, fun i zs hI => ?_⟩
  rcases hI with ⟨rfl, rfl⟩ | ⟨rfl, rfl⟩ | ⟨rfl, rfl⟩ | ⟨rfl, rfl⟩ | ⟨rfl, rfl⟩
  · refine ⟨fun _ => ⟨by omega, by omega, _, rfl, by omega, by omega, _, rfl, f0.mono fun v _ _ hv => ⟨_, hv, by omega, by omega, by simp, by unfold InI; omega, .inr (.inl ⟨rfl, rfl⟩), by dsimp only; decide⟩⟩, fun h => absurd h (by decide)⟩
  · refine ⟨fun _ => ⟨by omega, by omega, _, rfl, by omega, by omega, _, rfl, f1.mono fun v _ _ hv => ⟨_, hv, by omega, by omega, by simp, by unfold InI; omega, .inr (.inr (.inl ⟨rfl, rfl⟩)), by dsimp only; decide⟩⟩, fun h => absurd h (by decide)⟩
  · refine ⟨fun _ => ⟨by omega, by omega, _, rfl, by omega, by omega, _, rfl, f2.mono fun v _ _ hv => ⟨_, hv, by omega, by omega, by simp, by unfold InI; omega, .inr (.inr (.inr (.inl ⟨rfl, rfl⟩))), by dsimp only; decide⟩⟩, fun h => absurd h (by decide)⟩
  · refine ⟨fun _ => ⟨by omega, by omega, _, rfl, by omega, by omega, _, rfl, f3.mono fun v _ _ hv => ⟨_, hv, by omega, by omega, by simp, by unfold InI; omega, .inr (.inr (.inr (.inr ⟨rfl, rfl⟩))), by dsimp only; decide⟩⟩, fun h => absurd h (by decide)⟩
  · refine ⟨fun h => absurd h (by decide), fun _ => ⟨_, _, _, _, rfl, rfl, _, _, _, _, rfl, h⟩⟩

theorem cellsEq_refl (l : List Int) : cellsEq l l = true := by unfold cellsEq; simp

theorem law_is (s t : List Nat) (hs : s.length = 4) (ht : t.length = 4) (hsl : ∀ i, s.getD i 0 < 2 ^ 64) (htl : ∀ i, t.getD i 0 < 2 ^ 64) (M : Mem) :
    S_chafflaw_SetJoins (s.getD 0 0 : Nat) (s.getD 1 0 : Nat) (s.getD 2 0 : Nat) (s.getD 3 0 : Nat) (t.getD 0 0 : Nat) (t.getD 1 0 : Nat) (t.getD 2 0 : Nat) (t.getD 3 0 : Nat) M (fun v => v = .bool true) := by
  have hS : ∀ x, x < 256 → ∀ (M' : Mem) (K : Value → Prop), K (.bool (hasW s x)) → S_chaffref_Has (s.getD 0 0 : Nat) (s.getD 1 0 : Nat) (s.getD 2 0 : Nat) (s.getD 3 0 : Nat) x M' K := by
    obtain ⟨a, b, c, d, rfl⟩ : ∃ a b c d, s = [a, b, c, d] := by
      match s, hs with
      | [a, b, c, d], _ => exact ⟨a, b, c, d, rfl⟩
    exact fun x hx M' K h => has_is a b c d x hx M' K h
  have hT : ∀ x, x < 256 → ∀ (M' : Mem) (K : Value → Prop), K (.bool (hasW t x)) → S_chaffref_Has (t.getD 0 0 : Nat) (t.getD 1 0 : Nat) (t.getD 2 0 : Nat) (t.getD 3 0 : Nat) x M' K := by
    obtain ⟨a, b, c, d, rfl⟩ : ∃ a b c d, t = [a, b, c, d] := by
      match t, ht with
      | [a, b, c, d], _ => exact ⟨a, b, c, d, rfl⟩
    exact fun x hx M' K h => has_is a b c d x hx M' K h
  have hor : ∀ i, (s.getD i 0 ||| t.getD i 0) = Uw (fun x => hasW s x || hasW t x) i 64 := fun i => word_is _ i (Nat.or_lt_two_pow (hsl i) (htl i)) fun k hk => by rw [Nat.testBit_or, hasW_at s i k hk, hasW_at t i k hk]
  have hand : ∀ i, (s.getD i 0 &&& t.getD i 0) = Uw (fun x => hasW s x && hasW t x) i 64 := fun i => word_is _ i (Nat.and_lt_two_pow _ (htl i)) fun k hk => by rw [Nat.testBit_and, hasW_at s i k hk, hasW_at t i k hk]
  have hnot : ∀ i, ((2 ^ 64 - 1) ^^^ s.getD i 0) = Uw (fun x => !hasW s x) i 64 := fun i => word_is _ i (Nat.xor_lt_two_pow (by decide) (hsl i)) fun k hk => by
    rw [Nat.testBit_xor, hasW_at s i k hk, Nat.testBit_two_pow_sub_one]; simp [hk]
  unfold S_chafflaw_SetJoins
  refine (s_set_Join _ _ _ _ _ _ _ _ _ _ ((s_set_both _ _ _ _ _ _ _ _ _ _ _ (both_is s t hs ht (fun a b => a ||| b) _ _ _ (fun i _ => ?_) ?_)))).mono fun v _ _ hv => hv
  · exact f_set_Join_1 _ _ _ _ (by show Value.int .u64 _ = _; rw [bOrU _ _ (hsl i) (htl i)])
  refine ⟨_, _, _, _, rfl, ?_⟩
  refine ⟨_, _, _, _, rfl, fun M1 b1 hle1 hat1 M2 b2 hle2 hat2 => ?_⟩
  have hat1 := hat1.le hle2
  refine (s_chaffref_Where _ _ _ (where_is _ _ (fun x => hasW s x || hasW t x) (fun x hx => ?_) _ ⟨_, _, _, _, rfl, fun _ => ?_, fun h => ?_⟩))
  · refine f_chafflaw_SetJoins_1 _ _ _ _ _ ⟨_, _, _, _, hat1, s_chaffref_Has _ _ _ _ _ _ _ (hS x hx _ _ ⟨_, rfl, fun h => ?_, fun h => ⟨_, _, _, _, hat2, s_chaffref_Has _ _ _ _ _ _ _ (hT x hx _ _ ⟨_, rfl, ?_⟩)⟩⟩)⟩
    · simp [h]
    · simp at h; simp [h]
  · refine ⟨_, _, _, _, hat1, _, _, _, _, hat2, s_set_Meet _ _ _ _ _ _ _ _ _ _ ((s_set_both _ _ _ _ _ _ _ _ _ _ _ (both_is s t hs ht (fun a b => a &&& b) _ _ _ (fun i _ => ?_) ?_)))⟩
    · exact f_set_Meet_1 _ _ _ _ (by show Value.int .u64 _ = _; rw [bAndU _ _ (hsl i) (htl i)])
    refine ⟨_, _, _, _, rfl, ?_⟩
    refine ⟨_, _, _, _, rfl, ?_⟩
    refine (s_chaffref_Where _ _ _ (where_is _ _ (fun x => hasW s x && hasW t x) (fun x hx => ?_) _ ⟨_, _, _, _, rfl, fun _ => ?_, fun h => ?_⟩))
    · refine f_chafflaw_SetJoins_2 _ _ _ _ _ ⟨_, _, _, _, hat1, s_chaffref_Has _ _ _ _ _ _ _ (hS x hx _ _ ⟨_, rfl, fun h => ⟨_, _, _, _, hat2, s_chaffref_Has _ _ _ _ _ _ _ (hT x hx _ _ ⟨_, rfl, ?_⟩)⟩, fun h => ?_⟩)⟩
      · simp [h]
      · simp at h; simp [h]
    · refine ⟨_, _, _, _, hat1, s_set_Not _ _ _ _ _ _ ((s_set_both _ _ _ _ _ _ _ _ _ _ _ (both_is s s hs hs (fun a _ => (2 ^ 64 - 1) ^^^ a) _ _ _ (fun i _ => ?_) ?_)))⟩
      · exact f_set_Not_1 _ _ _ _ (by show Value.int .u64 _ = _; rw [bNotU _ (hsl i)])
      refine ⟨_, _, _, _, rfl, ?_⟩
      refine ⟨_, _, _, _, rfl, ?_⟩
      refine (s_chaffref_Where _ _ _ (where_is _ _ (fun x => !hasW s x) (fun x hx => ?_) _ ⟨_, _, _, _, rfl, ?_⟩))
      · exact f_chafflaw_SetJoins_3 _ _ _ _ ⟨_, _, _, _, hat1, s_chaffref_Has _ _ _ _ _ _ _ (hS x hx _ _ ⟨_, rfl, rfl⟩)⟩
      · rw [hnot, hnot, hnot, hnot, cellsEq_refl]
    · rw [hand, hand, hand, hand, cellsEq_refl] at h; exact absurd rfl h
  · rw [hor, hor, hor, hor, cellsEq_refl] at h; exact absurd rfl h

theorem nat_of {z : Int} (h : (Lit.int .u64 z).wf = true) : ∃ n : Nat, z = n ∧ n < 2 ^ 64 := by
  simp only [Lit.wf, IntKind.min, IntKind.max, Bool.and_eq_true] at h
  refine ⟨z.toNat, ?_, ?_⟩ <;> simp [IntKind.bits, IntKind.signed] at h <;> omega

theorem walk : WalkGoal := by
  intro H enc W f0 a wa b wb c wc d wd f1 a' wa' b' wb' c' wc' d' wd'
  obtain ⟨a, rfl, ha⟩ := nat_of wa
  obtain ⟨b, rfl, hb⟩ := nat_of wb
  obtain ⟨c, rfl, hc⟩ := nat_of wc
  obtain ⟨d, rfl, hd⟩ := nat_of wd
  obtain ⟨a', rfl, ha'⟩ := nat_of wa'
  obtain ⟨b', rfl, hb'⟩ := nat_of wb'
  obtain ⟨c', rfl, hc'⟩ := nat_of wc'
  obtain ⟨d', rfl, hd'⟩ := nat_of wd'
  have key : ∀ (l : List Nat), l.length = 4 → (∀ x ∈ l, x < 2 ^ 64) → ∀ i, l.getD i 0 < 2 ^ 64 := by
    intro l _ h i
    rw [List.getD_eq_getElem?_getD]
    cases hx : l[i]? with
    | none => simp
    | some x => exact h x (List.mem_of_getElem? hx)
  exact s_chafflaw_SetJoins _ _ _ _ _ _ _ _ _ _ (law_is [a, b, c, d] [a', b', c', d'] rfl rfl (key _ rfl (by simp [ha, hb, hc, hd])) (key _ rfl (by simp [ha', hb', hc', hd'])) _)

theorem holds : Rows.SetJoinsSaid := top walk
#print axioms holds
end Go.Proofs.Ytdlfhmdojbejkaa.lawSetJoins
