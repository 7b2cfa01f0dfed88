/- Contracts of functions: what each answers at every input that its caller may hand it. No condition. -/
import Derived.Test.YtaljnkggjadonaaSetMG
import Derived.Test.YtaljnkggjadonaaCoreX
namespace Go.Proofs.Ytaljnkggjadonaa.core
open Go.Gx Go.RowKit Go.ChangeShapes Go.WideShapes Go.ChangeAt
/-! ### Sets of bytes: four words -/

theorem wrapU (n : Nat) (h : n < 2 ^ 64) : IntKind.wrap .u64 (n : Int) = n := by
  simp only [IntKind.wrap, IntKind.bits, IntKind.signed, Bool.false_and, Bool.false_eq_true, if_false]
  omega
theorem bvU (n : Nat) (h : n < 2 ^ 64) : (BitVec.ofInt 64 (n : Int)).toNat = n := by
  rw [BitVec.ofInt_natCast, BitVec.toNat_ofNat, Nat.mod_eq_of_lt h]
theorem bOrU (a b : Nat) (ha : a < 2 ^ 64) (hb : b < 2 ^ 64) : bOr .u64 a b = ((a ||| b : Nat) : Int) := by
  show IntKind.wrap .u64 ((BitVec.ofInt 64 (a : Int) ||| BitVec.ofInt 64 (b : Int)).toNat : Int) = _
  rw [BitVec.toNat_or, bvU a ha, bvU b hb, wrapU _ (Nat.or_lt_two_pow ha hb)]
theorem bAndU (a b : Nat) (ha : a < 2 ^ 64) (hb : b < 2 ^ 64) : bAnd .u64 a b = ((a &&& b : Nat) : Int) := by
  show IntKind.wrap .u64 ((BitVec.ofInt 64 (a : Int) &&& BitVec.ofInt 64 (b : Int)).toNat : Int) = _
  rw [BitVec.toNat_and, bvU a ha, bvU b hb, wrapU _ (Nat.and_lt_two_pow a hb)]
theorem bNotU (a : Nat) (ha : a < 2 ^ 64) : bNot .u64 a = (((2 ^ 64 - 1) ^^^ a : Nat) : Int) := by
  show IntKind.wrap .u64 ((BitVec.ofInt 64 (18446744073709551615 : Int) ^^^ BitVec.ofInt 64 (a : Int)).toNat : Int) = _
  have h1 : (BitVec.ofInt 64 (18446744073709551615 : Int)).toNat = 2 ^ 64 - 1 := by decide
  rw [BitVec.toNat_xor, bvU a ha, h1, wrapU _ (Nat.xor_lt_two_pow (by decide) ha)]
theorem bShlU (k : Nat) (hk : k < 64) : bShl .u64 1 k = ((2 ^ k : Nat) : Int) := by
  show IntKind.wrap .u64 (1 * 2 ^ (min (k : Int).toNat 64)) = _
  have : min (k : Int).toNat 64 = k := by omega
  rw [this, Int.one_mul]
  have h2 : (2 ^ k : Nat) < 2 ^ 64 := Nat.pow_lt_pow_right (by decide) hk
  have := wrapU (2 ^ k) h2
  rw [Int.natCast_pow] at this ⊢
  exact this
theorem bShrU (a k : Nat) (hk : k < 64) : bShr .u64 a k = ((a / 2 ^ k : Nat) : Int) := by
  show (a : Int).fdiv (2 ^ (min (k : Int).toNat 64)) = _
  have : min (k : Int).toNat 64 = k := by omega
  rw [this, Int.ofNat_fdiv, Int.natCast_pow]; rfl

/-- The word number w of the set of all bytes of which p holds, its first j bits. -/
def Uw (p : Nat → Bool) (w : Nat) : Nat → Nat
  | 0 => 0
  | j + 1 => Uw p w j + (if p (64 * w + j) = true then 2 ^ j else 0)

theorem Uw_lt (p : Nat → Bool) (w : Nat) : ∀ j, Uw p w j < 2 ^ j
  | 0 => by simp [Uw]
  | j + 1 => by
    have := Uw_lt p w j
    simp only [Uw, Nat.pow_succ]
    split <;> omega

theorem Uw_bit (p : Nat → Bool) (w : Nat) (k : Nat) : ∀ j, (Uw p w j).testBit k = (decide (k < j) && p (64 * w + k))
  | 0 => by simp [Uw]
  | j + 1 => by
    have ih := Uw_bit p w k j
    have hlt := Uw_lt p w j
    simp only [Uw]
    split
    · rename_i hp
      have e : Uw p w j + 2 ^ j = 2 ^ j * 1 ||| Uw p w j := by
        rw [← Nat.two_pow_add_eq_or_of_lt hlt 1]; omega
      rw [e, Nat.mul_one, Nat.testBit_or, Nat.testBit_two_pow, ih]
      by_cases hk : j = k
      · subst hk; simp [hp]
      · have : (decide (k < j + 1)) = decide (k < j) := by congr 1; simp; omega
        rw [this]; simp [hk]
    · rename_i hp
      rw [Nat.add_zero, ih]
      by_cases hk : j = k
      · subst hk; simp [hp]
      · have : (decide (k < j + 1)) = decide (k < j) := by congr 1; simp; omega
        rw [this]

/-- Is byte b in the set of these words? -/
def hasW (s : List Nat) (b : Nat) : Bool := (s.getD (b / 64) 0).testBit (b % 64)

theorem word_ext {x y : Nat} (hx : x < 2 ^ 64) (hy : y < 2 ^ 64) (h : ∀ k, k < 64 → x.testBit k = y.testBit k) : x = y := by
  refine Nat.eq_of_testBit_eq fun k => ?_
  by_cases hk : k < 64
  · exact h k hk
  · have : 2 ^ 64 ≤ 2 ^ k := Nat.pow_le_pow_right (by decide) (by omega)
    rw [Nat.testBit_lt_two_pow (by omega), Nat.testBit_lt_two_pow (by omega)]

theorem word_is {x : Nat} (p : Nat → Bool) (w : Nat) (hx : x < 2 ^ 64) (h : ∀ k, k < 64 → x.testBit k = p (64 * w + k)) : x = Uw p w 64 :=
  word_ext hx (Uw_lt p w 64) fun k hk => by rw [h k hk, Uw_bit]; simp [hk]

theorem hasW_at (s : List Nat) (w k : Nat) (hk : k < 64) : hasW s (64 * w + k) = (s.getD w 0).testBit k := by
  unfold hasW
  rw [show (64 * w + k) / 64 = w by omega, show (64 * w + k) % 64 = k by omega]

theorem has_bit (x k : Nat) (hk : k < 64) : ((bShr .u64 (x : Int) (k : Int)).tmod 2 == (1 : Int)) = x.testBit k := by
  rw [bShrU x k hk, Nat.testBit_eq_decide_div_mod_eq, Int.tmod_eq_emod_of_nonneg (Int.natCast_nonneg _)]
  generalize x / 2 ^ k = y
  rw [Bool.eq_iff_iff, beq_iff_eq, decide_eq_true_iff]
  omega


/-- The set of all bytes of which p holds. -/
def Us (p : Nat → Bool) : X_api_Set := ⟨(Uw p 0 64 : Nat), (Uw p 1 64 : Nat), (Uw p 2 64 : Nat), (Uw p 3 64 : Nat)⟩
def bitS (s : X_api_Set) (b : Nat) : Bool := hasW [s.w0.toNat, s.w1.toNat, s.w2.toNat, s.w3.toNat] b

theorem nat_of {z : Int} (h : (Lit.int .u64 z).wf = true) : ∃ n : Nat, z = n ∧ n < 2 ^ 64 := by
  simp only [Lit.wf, IntKind.min, IntKind.max, Bool.and_eq_true] at h
  refine ⟨z.toNat, ?_, ?_⟩ <;> simp [IntKind.bits, IntKind.signed] at h <;> omega
theorem of_nat {n : Nat} (h : n < 2 ^ 64) : (Lit.int .u64 (n : Int)).wf = true := by
  simp only [Lit.wf, IntKind.min, IntKind.max, Bool.and_eq_true]
  simp [IntKind.bits, IntKind.signed]; omega
theorem Us_wf (p : Nat → Bool) : wfS (Us p) := ⟨of_nat (Uw_lt p 0 64), of_nat (Uw_lt p 1 64), of_nat (Uw_lt p 2 64), of_nat (Uw_lt p 3 64)⟩
theorem bit_Us {p : Nat → Bool} {b : Nat} (hb : b < 256) : bitS (Us p) b = p b := by
  have key : ∀ w k : Nat, w < 4 → k < 64 → hasW [Uw p 0 64, Uw p 1 64, Uw p 2 64, Uw p 3 64] (64 * w + k) = p (64 * w + k) := by
    intro w k hw hk
    rw [hasW_at _ w k hk]
    have : [Uw p 0 64, Uw p 1 64, Uw p 2 64, Uw p 3 64].getD w 0 = Uw p w 64 := by
      match w, hw with
      | 0, _ => rfl
      | 1, _ => rfl
      | 2, _ => rfl
      | 3, _ => rfl
    rw [this, Uw_bit]; simp [hk]
  have := key (b / 64) (b % 64) (by omega) (by omega)
  rw [show 64 * (b / 64) + b % 64 = b by omega] at this
  exact this
theorem Us_bit {s : X_api_Set} (h : wfS s) : Us (bitS s) = s := by
  obtain ⟨a, b, c, d⟩ := s
  obtain ⟨h0, h1, h2, h3⟩ := h
  obtain ⟨a, rfl, ha⟩ := nat_of h0
  obtain ⟨b, rfl, hb⟩ := nat_of h1
  obtain ⟨c, rfl, hc⟩ := nat_of h2
  obtain ⟨d, rfl, hd⟩ := nat_of h3
  have key : ∀ (w x : Nat), [a, b, c, d].getD w 0 = x → x < 2 ^ 64 → Uw (bitS ⟨a, b, c, d⟩) w 64 = x := fun w x hx hlt => by
    refine (word_is _ w hlt fun k hk => ?_).symm
    rw [← hx]
    exact (hasW_at [a, b, c, d] w k hk).symm
  unfold Us
  rw [key 0 a rfl ha, key 1 b rfl hb, key 2 c rfl hc, key 3 d rfl hd]
theorem Us_congr {p q : Nat → Bool} (h : ∀ b, b < 256 → p b = q b) : Us p = Us q := by
  have key : ∀ (w : Nat), w < 4 → ∀ j, j ≤ 64 → Uw p w j = Uw q w j := by
    intro w hw j
    induction j with
    | zero => intro _; rfl
    | succ j ih => intro hj; rw [Uw, Uw, ih (by omega), h (64 * w + j) (by omega)]
  unfold Us
  rw [key 0 (by omega) 64 (by omega), key 1 (by omega) 64 (by omega), key 2 (by omega) 64 (by omega), key 3 (by omega) 64 (by omega)]
theorem set_ext {s t : X_api_Set} (hs : wfS s) (ht : wfS t) (h : ∀ b, b < 256 → bitS s b = bitS t b) : s = t := by
  rw [← Us_bit hs, ← Us_bit ht]; exact Us_congr h
theorem bit_get {s : X_api_Set} (h : wfS s) {x : Nat} (hx : x < 256) : ∃ w : Nat, [s.w0, s.w1, s.w2, s.w3][x / 64]? = some (w : Int) ∧ w < 2 ^ 64 ∧ w.testBit (x % 64) = bitS s x := by
  obtain ⟨a, b, c, d⟩ := s
  obtain ⟨h0, h1, h2, h3⟩ := h
  obtain ⟨a, rfl, ha⟩ := nat_of h0
  obtain ⟨b, rfl, hb⟩ := nat_of h1
  obtain ⟨c, rfl, hc⟩ := nat_of h2
  obtain ⟨d, rfl, hd⟩ := nat_of h3
  have hq : x / 64 < 4 := by omega
  have hx' := hasW_at [a, b, c, d] (x / 64) (x % 64) (by omega)
  rw [show 64 * (x / 64) + x % 64 = x by omega] at hx'
  match h : x / 64, hq with
  | 0, _ => exact ⟨a, rfl, ha, by rw [h] at hx'; exact hx'.symm⟩
  | 1, _ => exact ⟨b, rfl, hb, by rw [h] at hx'; exact hx'.symm⟩
  | 2, _ => exact ⟨c, rfl, hc, by rw [h] at hx'; exact hx'.symm⟩
  | 3, _ => exact ⟨d, rfl, hd, by rw [h] at hx'; exact hx'.symm⟩

theorem rhas_is {s : X_api_Set} (hs : wfS s) {x : Nat} (hx : x < 256) {M : Mem} (K : Value → Prop) (h : K (.bool (bitS s x))) : S_chaffref_Has s (x : Int) M K := by
  unfold S_chaffref_Has
  have e1 : (x : Int).tdiv 64 = ((x / 64 : Nat) : Int) := by rw [Int.tdiv_eq_ediv_of_nonneg (by omega)]; omega
  have e2 : (x : Int).tmod 64 = ((x % 64 : Nat) : Int) := by rw [Int.tmod_eq_emod_of_nonneg (by omega)]; omega
  obtain ⟨w, hw, _, hb⟩ := bit_get hs hx
  rw [e1, e2]
  refine ⟨by unfold InI; omega, by omega, by omega, (w : Int), ?_, by omega, ?_⟩
  · rw [show 0 + (((x / 64 : Nat) : Int)).toNat * 1 = x / 64 by omega]; exact hw
  · rw [has_bit _ _ (by omega), hb]; exact h

theorem u8_shift : ∀ n : Nat, n < 256 → bShr .u8 (n : Int) 6 = ((n / 64 : Nat) : Int) ∧ bAnd .u8 (n : Int) 63 = ((n % 64 : Nat) : Int) := by decide +kernel
theorem bit_one (w k : Nat) (hw : w < 2 ^ 64) (hk : k < 64) : ((bAnd .u64 (bShr .u64 (w : Int) (k : Int)) 1 : Int) == (1 : Int)) = w.testBit k := by
  rw [bShrU w k hk, Nat.testBit_eq_decide_div_mod_eq]
  have h1 : w / 2 ^ k < 2 ^ 64 := Nat.lt_of_le_of_lt (Nat.div_le_self _ _) hw
  rw [show (1 : Int) = ((1 : Nat) : Int) from rfl, bAndU _ _ h1 (by decide), Nat.and_one_is_mod]
  generalize w / 2 ^ k = y
  rw [Bool.eq_iff_iff, beq_iff_eq, decide_eq_true_iff]
  omega
theorem has_is {s : X_api_Set} (hs : wfS s) (c : UInt8) {M : Mem} (K : Value → Prop) (h : K (.bool (bitS s c.toNat))) : S_set_Has s (c.toNat : Int) M K := by
  have hc := c.toNat_lt
  obtain ⟨e1, e2⟩ := u8_shift c.toNat hc
  obtain ⟨w, hw, hlt, hb⟩ := bit_get hs hc
  unfold S_set_Has
  rw [e1, e2]
  refine ⟨by omega, by omega, (w : Int), ?_, by omega, ?_⟩
  · rw [show 0 + (((c.toNat / 64 : Nat) : Int)).toNat * 1 = c.toNat / 64 by omega]; exact hw
  · rw [bit_one _ _ hlt (by omega), hb]; exact h

theorem where_is (fv : Value) (M : Mem) (p : Nat → Bool) (hp : ∀ x : Nat, x < 256 → CallF Try.prog fv [.int .i64 x] M (fun v _ => v = .bool (p x))) (K : Value → Prop)
    (h : K (Us p).val) : S_chaffref_Where fv M K := by
  unfold S_chaffref_Where
  let Z : Nat → List Int := fun b => [(Uw p 0 (min b 64) : Nat), (Uw p 1 (min (b - 64) 64) : Nat), (Uw p 2 (min (b - 128) 64) : Nat), (Uw p 3 (min (b - 192) 64) : Nat)]
  refine ⟨fun b zs => ∃ n : Nat, b = n ∧ n ≤ 256 ∧ zs = Z n, fun b _ => 256 - b.toNat, ⟨0, rfl, by omega, rfl⟩, fun b zs ⟨n, hb, hn, hz⟩ => ?_⟩
  subst hb
  subst hz
  refine ⟨fun hlt => ?_, fun hge => ?_⟩
  · have hlt' : n < 256 := by omega
    refine (hp n hlt').mono fun v _ _ hv => ⟨p n, hv, fun hpn => ?_, fun hpn => ?_⟩
    · have e1 : (n : Int).tdiv 64 = ((n / 64 : Nat) : Int) := by rw [Int.tdiv_eq_ediv_of_nonneg (by omega)]; omega
      have e2 : (n : Int).tmod 64 = ((n % 64 : Nat) : Int) := by rw [Int.tmod_eq_emod_of_nonneg (by omega)]; omega
      rw [e1, e2]
      have hq : n / 64 < 4 := by omega
      have ei : (0 + (((n / 64 : Nat) : Int)).toNat * 1) = n / 64 := by omega
      rw [ei]
      have hr : n % 64 < 64 := by omega
      have hU := Uw_lt p (n / 64) (n % 64)
      have hpow : 2 ^ (n % 64) < 2 ^ 64 := Nat.pow_lt_pow_right (by decide) hr
      have hpow2 : 2 ^ (n % 64) * 2 ≤ 2 ^ 64 := by rw [← Nat.pow_succ]; exact Nat.pow_le_pow_right (by decide) (by omega)
      have hget : (Z n)[n / 64]? = some ((Uw p (n / 64) (n % 64) : Nat) : Int) := by
        show [((Uw p 0 (min n 64) : Nat) : Int), (Uw p 1 (min (n - 64) 64) : Nat), (Uw p 2 (min (n - 128) 64) : Nat), (Uw p 3 (min (n - 192) 64) : Nat)][n / 64]? = _
        match h : n / 64, hq with
        | 0, _ => rw [show min n 64 = n % 64 by omega]; rfl
        | 1, _ => rw [show min (n - 64) 64 = n % 64 by omega]; rfl
        | 2, _ => rw [show min (n - 128) 64 = n % 64 by omega]; rfl
        | 3, _ => rw [show min (n - 192) 64 = n % 64 by omega]; rfl
      refine ⟨by unfold InI; omega, by omega, by omega, _, hget, by omega, by omega, by omega, by show n / 64 < 4; exact hq, ?_⟩
      rw [bShlU _ hr]
      have hw : IntKind.wrap .u64 (((Uw p (n / 64) (n % 64) : Nat) : Int) + ((2 ^ (n % 64) : Nat) : Int)) = ((Uw p (n / 64) (n % 64 + 1) : Nat) : Int) := by
        rw [← Int.natCast_add, wrapU _ (by omega)]
        have : p (64 * (n / 64) + n % 64) = true := by rw [show 64 * (n / 64) + n % 64 = n by omega]; exact hpn
        simp only [Uw, this, if_true]
      rw [hw]
      have hset : (Z n).set (n / 64) ((Uw p (n / 64) (n % 64 + 1) : Nat) : Int) = Z (n + 1) := by
        show [((Uw p 0 (min n 64) : Nat) : Int), (Uw p 1 (min (n - 64) 64) : Nat), (Uw p 2 (min (n - 128) 64) : Nat), (Uw p 3 (min (n - 192) 64) : Nat)].set (n / 64) _ = [((Uw p 0 (min (n + 1) 64) : Nat) : Int), (Uw p 1 (min (n + 1 - 64) 64) : Nat), (Uw p 2 (min (n + 1 - 128) 64) : Nat), (Uw p 3 (min (n + 1 - 192) 64) : Nat)]
        match h : n / 64, hq with
        | 0, _ => rw [show min (n + 1) 64 = n % 64 + 1 by omega, show min (n + 1 - 64) 64 = min (n - 64) 64 by omega, show min (n + 1 - 128) 64 = min (n - 128) 64 by omega, show min (n + 1 - 192) 64 = min (n - 192) 64 by omega]; rfl
        | 1, _ => rw [show min (n + 1 - 64) 64 = n % 64 + 1 by omega, show min (n + 1) 64 = min n 64 by omega, show min (n + 1 - 128) 64 = min (n - 128) 64 by omega, show min (n + 1 - 192) 64 = min (n - 192) 64 by omega]; rfl
        | 2, _ => rw [show min (n + 1 - 128) 64 = n % 64 + 1 by omega, show min (n + 1) 64 = min n 64 by omega, show min (n + 1 - 64) 64 = min (n - 64) 64 by omega, show min (n + 1 - 192) 64 = min (n - 192) 64 by omega]; rfl
        | 3, _ => rw [show min (n + 1 - 192) 64 = n % 64 + 1 by omega, show min (n + 1) 64 = min n 64 by omega, show min (n + 1 - 64) 64 = min (n - 64) 64 by omega, show min (n + 1 - 128) 64 = min (n - 128) 64 by omega]; rfl
      rw [hset]
      exact ⟨by unfold InI; omega, ⟨n + 1, by omega, by omega, rfl⟩, by dsimp only; omega⟩
    · have hpn' : p n = false := by simpa using hpn
      have hsame : ∀ w : Nat, Uw p w (min (n + 1 - 64 * w) 64) = Uw p w (min (n - 64 * w) 64) := by
        intro w
        by_cases h1 : 64 * w ≤ n ∧ n < 64 * w + 64
        · rw [show min (n + 1 - 64 * w) 64 = min (n - 64 * w) 64 + 1 by omega]
          simp only [Uw]
          rw [show 64 * w + min (n - 64 * w) 64 = n by omega, hpn']
          simp
        · rw [show min (n + 1 - 64 * w) 64 = min (n - 64 * w) 64 by omega]
      have hZ : Z n = Z (n + 1) := by
        have h0 := hsame 0
        have h1 := hsame 1
        have h2 := hsame 2
        have h3 := hsame 3
        simp only [Nat.mul_zero, Nat.sub_zero, Nat.mul_one] at h0 h1 h2 h3
        show [((Uw p 0 (min n 64) : Nat) : Int), (Uw p 1 (min (n - 64) 64) : Nat), (Uw p 2 (min (n - 128) 64) : Nat), (Uw p 3 (min (n - 192) 64) : Nat)] = [((Uw p 0 (min (n + 1) 64) : Nat) : Int), (Uw p 1 (min (n + 1 - 64) 64) : Nat), (Uw p 2 (min (n + 1 - 128) 64) : Nat), (Uw p 3 (min (n + 1 - 192) 64) : Nat)]
        rw [h0, h1, show min (n + 1 - 128) 64 = min (n + 1 - 64 * 2) 64 by omega, h2, show min (n + 1 - 192) 64 = min (n + 1 - 64 * 3) 64 by omega, h3]
      unfold S_chaffref_Where_J1
      exact ⟨by unfold InI; omega, ⟨n + 1, by omega, by omega, hZ⟩, by dsimp only; omega⟩
  · have hn : n = 256 := by omega
    subst hn
    exact ⟨_, _, _, _, rfl, rfl, _, _, _, _, rfl, h⟩


theorem or_word (a b : Nat) {x y : Int} (hx : x = (a : Int)) (hy : y = (b : Int)) (ha : a < 2 ^ 64) (hb : b < 2 ^ 64) : bOr .u64 x y = ((a ||| b : Nat) : Int) := by rw [hx, hy]; exact bOrU a b ha hb

theorem join_is {s t : X_api_Set} (hs : wfS s) (ht : wfS t) {M : Mem} (K : Value → Prop) (hK : K (Us fun b => bitS s b || bitS t b).val) : S_set_Join s t M K := by
  unfold S_set_Join
  refine s_set_both _ _ _ _ _ ?_
  obtain ⟨a, b, c, d⟩ := s
  obtain ⟨a', b', c', d'⟩ := t
  obtain ⟨h0, h1, h2, h3⟩ := hs
  obtain ⟨k0, k1, k2, k3⟩ := ht
  obtain ⟨a, rfl, ha⟩ := nat_of h0
  obtain ⟨b, rfl, hb⟩ := nat_of h1
  obtain ⟨c, rfl, hc⟩ := nat_of h2
  obtain ⟨d, rfl, hd⟩ := nat_of h3
  obtain ⟨a', rfl, ha'⟩ := nat_of k0
  obtain ⟨b', rfl, hb'⟩ := nat_of k1
  obtain ⟨c', rfl, hc'⟩ := nat_of k2
  obtain ⟨d', rfl, hd'⟩ := nat_of k3
  have hw : ∀ (w x y : Nat), [a, b, c, d].getD w 0 = x → [a', b', c', d'].getD w 0 = y → x < 2 ^ 64 → y < 2 ^ 64 → (x ||| y) = Uw (fun q => bitS ⟨a, b, c, d⟩ q || bitS ⟨a', b', c', d'⟩ q) w 64 := by
    intro w x y hx hy hxl hyl
    refine word_is _ w (Nat.or_lt_two_pow hxl hyl) fun k hk => ?_
    rw [Nat.testBit_or, ← hx, ← hy]
    rw [← hasW_at [a, b, c, d] w k hk, ← hasW_at [a', b', c', d'] w k hk]; rfl
  have hfin : (⟨((a ||| a' : Nat) : Int), ((b ||| b' : Nat) : Int), ((c ||| c' : Nat) : Int), ((d ||| d' : Nat) : Int)⟩ : X_api_Set) = Us fun q => bitS ⟨a, b, c, d⟩ q || bitS ⟨a', b', c', d'⟩ q := by
    unfold Us
    rw [hw 0 a a' rfl rfl ha ha', hw 1 b b' rfl rfl hb hb', hw 2 c c' rfl rfl hc hc', hw 3 d d' rfl rfl hd hd']
  rw [← hfin] at hK
  have call : ∀ (x y : Nat) (K : Value → Prop), x < 2 ^ 64 → y < 2 ^ 64 → K (.int .u64 ((x ||| y : Nat) : Int)) → CallF Try.prog (Value.func (.func 129) #[] #[]) [.int .u64 (x : Int), .int .u64 (y : Int)] M (fun v _ => K v) := fun x y K hx hy hK =>
    f_set_Join_1 _ _ _ _ (by unfold S_set_Join_1; rw [bOrU x y hx hy]; exact hK)
  unfold S_set_both
  refine ⟨fun i zs => (i = 0 ∧ zs = [(a : Int), b, c, d]) ∨ (i = 1 ∧ zs = [((a ||| a' : Nat) : Int), b, c, d]) ∨ (i = 2 ∧ zs = [((a ||| a' : Nat) : Int), ((b ||| b' : Nat) : Int), c, d]) ∨ (i = 3 ∧ zs = [((a ||| a' : Nat) : Int), ((b ||| b' : Nat) : Int), ((c ||| c' : Nat) : Int), d]) ∨ (i = 4 ∧ zs = [((a ||| a' : Nat) : Int), ((b ||| b' : Nat) : Int), ((c ||| c' : Nat) : Int), ((d ||| d' : Nat) : Int)]), fun i _ => 4 - i.toNat, .inl ⟨rfl, rfl⟩, fun i zs hI => ?_⟩
  rcases hI with ⟨rfl, rfl⟩ | ⟨rfl, rfl⟩ | ⟨rfl, rfl⟩ | ⟨rfl, rfl⟩ | ⟨rfl, rfl⟩
  · exact ⟨fun _ => ⟨by omega, by omega, _, rfl, by omega, by omega, _, rfl, call _ _ _ ha ha' ⟨_, rfl, by omega, by omega, by simp, by unfold InI; omega, .inr (.inl ⟨rfl, rfl⟩), by dsimp only; decide⟩⟩, fun h => absurd h (by decide)⟩
  · exact ⟨fun _ => ⟨by omega, by omega, _, rfl, by omega, by omega, _, rfl, call _ _ _ hb hb' ⟨_, rfl, by omega, by omega, by simp, by unfold InI; omega, .inr (.inr (.inl ⟨rfl, rfl⟩)), by dsimp only; decide⟩⟩, fun h => absurd h (by decide)⟩
  · exact ⟨fun _ => ⟨by omega, by omega, _, rfl, by omega, by omega, _, rfl, call _ _ _ hc hc' ⟨_, rfl, by omega, by omega, by simp, by unfold InI; omega, .inr (.inr (.inr (.inl ⟨rfl, rfl⟩))), by dsimp only; decide⟩⟩, fun h => absurd h (by decide)⟩
  · exact ⟨fun _ => ⟨by omega, by omega, _, rfl, by omega, by omega, _, rfl, call _ _ _ hd hd' ⟨_, rfl, by omega, by omega, by simp, by unfold InI; omega, .inr (.inr (.inr (.inr ⟨rfl, rfl⟩))), by dsimp only; decide⟩⟩, fun h => absurd h (by decide)⟩
  · exact ⟨fun h => absurd h (by decide), fun _ => ⟨_, _, _, _, rfl, rfl, _, _, _, _, rfl, _, rfl, hK⟩⟩

theorem Uw_congr {p q : Nat → Bool} {w : Nat} (h : ∀ k, k < 64 → p (64 * w + k) = q (64 * w + k)) : Uw p w 64 = Uw q w 64 := by
  have key : ∀ j, j ≤ 64 → Uw p w j = Uw q w j := by
    intro j
    induction j with
    | zero => intro _; rfl
    | succ j ih => intro hj; rw [Uw, Uw, ih (by omega), h j (by omega)]
  exact key 64 (by omega)
def U4 (p : Nat → Bool) : List Int := [(Uw p 0 64 : Nat), (Uw p 1 64 : Nat), (Uw p 2 64 : Nat), (Uw p 3 64 : Nat)]
theorem U4_get (p : Nat → Bool) {w : Nat} (hw : w < 4) : (U4 p)[w]? = some ((Uw p w 64 : Nat) : Int) := by
  match w, hw with
  | 0, _ => rfl
  | 1, _ => rfl
  | 2, _ => rfl
  | 3, _ => rfl
theorem U4_set {p q : Nat → Bool} {w : Nat} (hw : w < 4) (h : ∀ x, x < 256 → x / 64 ≠ w → p x = q x) : (U4 p).set w ((Uw q w 64 : Nat) : Int) = U4 q := by
  have key : ∀ v, v < 4 → v ≠ w → Uw p v 64 = Uw q v 64 := fun v hv hne => Uw_congr fun k hk => h _ (by omega) (by omega)
  match w, hw with
  | 0, _ => show [_, _, _, _] = [_, _, _, _]; rw [key 1 (by omega) (by omega), key 2 (by omega) (by omega), key 3 (by omega) (by omega)]
  | 1, _ => show [_, _, _, _] = [_, _, _, _]; rw [key 0 (by omega) (by omega), key 2 (by omega) (by omega), key 3 (by omega) (by omega)]
  | 2, _ => show [_, _, _, _] = [_, _, _, _]; rw [key 0 (by omega) (by omega), key 1 (by omega) (by omega), key 3 (by omega) (by omega)]
  | 3, _ => show [_, _, _, _] = [_, _, _, _]; rw [key 0 (by omega) (by omega), key 1 (by omega) (by omega), key 2 (by omega) (by omega)]

theorem i64_shift : ∀ n : Nat, n < 256 → bShr .i64 (n : Int) 6 = ((n / 64 : Nat) : Int) ∧ bAnd .i64 (n : Int) 63 = ((n % 64 : Nat) : Int) := by decide +kernel

def inR (low high : Int) (x : Nat) : Bool := decide (low ≤ x ∧ (x : Int) ≤ high)
theorem range_is (low high : Int) {M : Mem} (K : Value → Prop) (hK : K (Us (inR low high)).val) : S_set_Range low high M K := by
  unfold S_set_Range
  have hz : ∀ p : Nat → Bool, (∀ x, x < 256 → p x = false) → U4 p = [0, 0, 0, 0] := fun p hp => by
    have key : ∀ w, w < 4 → Uw p w 64 = 0 := fun w hw => by
      have h1 : Uw p w 64 = Uw (fun _ => false) w 64 := Uw_congr fun k hk => hp _ (by omega)
      have h2 : ∀ j, Uw (fun _ => false) w j = 0 := by
        intro j
        induction j with
        | zero => rfl
        | succ j ih => rw [Uw, ih]; simp
      rw [h1, h2]
    unfold U4
    rw [key 0 (by omega), key 1 (by omega), key 2 (by omega), key 3 (by omega)]; rfl
  let pb : Int → Nat → Bool := fun b x => decide (low ≤ x ∧ (x : Int) < b)
  refine ⟨fun b zs => (if low > 0 then low else 0) ≤ b ∧ (b = (if low > 0 then low else 0) ∨ b ≤ (if high < 255 then high else 255) + 1) ∧ zs = U4 (pb b), fun b _ => (256 - b).toNat, ⟨Int.le_refl _, .inl rfl, (hz _ fun x _ => ?_).symm⟩, fun b zs ⟨h0, h1, h2⟩ => ⟨fun hlt => ?_, fun hge => ?_⟩⟩
  · simp only [pb, decide_eq_false_iff_not]; split <;> omega
  · subst h2
    have hb0 : 0 ≤ b := by split at h0 <;> omega
    have hb1 : b ≤ 255 := by split at hlt <;> omega
    have hb2 : low ≤ b := by split at h0 <;> omega
    obtain ⟨n, rfl⟩ := Int.eq_ofNat_of_zero_le hb0
    have hn : n < 256 := by omega
    obtain ⟨e1, e2⟩ := i64_shift n hn
    rw [e1, e2]
    have hidx : 0 + (((n / 64 : Nat) : Int)).toNat * 1 = n / 64 := by omega
    rw [hidx]
    have hw4 : n / 64 < 4 := by omega
    refine ⟨by omega, by omega, _, U4_get _ hw4, by omega, by omega, by omega, by show n / 64 < 4; exact hw4, by unfold InI; omega, ⟨?_, ?_, ?_⟩, by dsimp only; omega⟩
    · split at h0 <;> (split <;> omega)
    · right; split at hlt <;> (split <;> omega)
    · rw [bShlU _ (by omega), bOrU _ _ (Uw_lt _ _ _) (Nat.pow_lt_pow_right (by decide) (by omega))]
      have hword : (Uw (pb (n : Int)) (n / 64) 64 ||| 2 ^ (n % 64)) = Uw (pb ((n : Int) + 1)) (n / 64) 64 := by
        refine word_is _ _ (Nat.or_lt_two_pow (Uw_lt _ _ _) (Nat.pow_lt_pow_right (by decide) (by omega))) fun k hk => ?_
        rw [Nat.testBit_or, Uw_bit, Nat.testBit_two_pow]
        simp only [pb, hk, decide_true, Bool.true_and]
        rw [Bool.eq_iff_iff]
        simp only [Bool.or_eq_true, decide_eq_true_eq]
        omega
      rw [hword]
      exact U4_set hw4 fun x hx hne => by simp only [pb]; rw [decide_eq_decide]; omega
  · subst h2
    refine ⟨_, _, _, _, rfl, rfl, _, _, _, _, rfl, ?_⟩
    have : Us (pb b) = Us (inR low high) := Us_congr fun x hx => by
      simp only [pb, inR]; rw [decide_eq_decide]
      split at h0 <;> split at h1 <;> omega
    rw [← this] at hK; exact hK
end Go.Proofs.Ytaljnkggjadonaa.core
