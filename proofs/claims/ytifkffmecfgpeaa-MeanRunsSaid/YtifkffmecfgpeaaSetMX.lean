/- Contracts of functions: what each answers at every input that its caller may hand it. No condition. -/
import Derived.Test.YtifkffmecfgpeaaSetMG
import Derived.Test.YtifkffmecfgpeaaCoreX
namespace Go.Proofs.Ytifkffmecfgpeaa.core
open Go.Gx Go.RowKit Go.ChangeShapes Go.WideShapes Go.ChangeAt
/-! ### Sets of bytes: four words -/

theorem wrapU (n : Nat) (h : n < 2 ^ 64) : IntKind.wrap .u64 (n : Int) = n := by
  simp only [IntKind.wrap, IntKind.bits, IntKind.signed, Bool.false_and, Bool.false_eq_true, if_false]
  omega
theorem bvU (n : Nat) (h : n < 2 ^ 64) : (BitVec.ofInt 64 (n : Int)).toNat = n := by
  rw [BitVec.ofInt_natCast, BitVec.toNat_ofNat, Nat.mod_eq_of_lt h]
theorem bAndU (a b : Nat) (ha : a < 2 ^ 64) (hb : b < 2 ^ 64) : bAnd .u64 a b = ((a &&& b : Nat) : Int) := by
  show IntKind.wrap .u64 ((BitVec.ofInt 64 (a : Int) &&& BitVec.ofInt 64 (b : Int)).toNat : Int) = _
  rw [BitVec.toNat_and, bvU a ha, bvU b hb, wrapU _ (Nat.and_lt_two_pow a hb)]
theorem bShrU (a k : Nat) (hk : k < 64) : bShr .u64 a k = ((a / 2 ^ k : Nat) : Int) := by
  show (a : Int).fdiv (2 ^ (min (k : Int).toNat 64)) = _
  have : min (k : Int).toNat 64 = k := by omega
  rw [this, Int.ofNat_fdiv, Int.natCast_pow]; rfl

/-- The word number w of the set of all bytes of which p holds, its first j bits. -/
def Uw (p : Nat → Bool) (w : Nat) : Nat → Nat
  | 0 => 0
  | j + 1 => Uw p w j + (if p (64 * w + j) = true then 2 ^ j else 0)

theorem Uw_lt (p : Nat → Bool) (w : Nat) : ∀ j, Uw p w j < 2 ^ j
  | 0 => by simp [Uw]
  | j + 1 => by
    have := Uw_lt p w j
    simp only [Uw, Nat.pow_succ]
    split <;> omega

theorem Uw_bit (p : Nat → Bool) (w : Nat) (k : Nat) : ∀ j, (Uw p w j).testBit k = (decide (k < j) && p (64 * w + k))
  | 0 => by simp [Uw]
  | j + 1 => by
    have ih := Uw_bit p w k j
    have hlt := Uw_lt p w j
    simp only [Uw]
    split
    · rename_i hp
      have e : Uw p w j + 2 ^ j = 2 ^ j * 1 ||| Uw p w j := by
        rw [← Nat.two_pow_add_eq_or_of_lt hlt 1]; omega
      rw [e, Nat.mul_one, Nat.testBit_or, Nat.testBit_two_pow, ih]
      by_cases hk : j = k
      · subst hk; simp [hp]
      · have : (decide (k < j + 1)) = decide (k < j) := by congr 1; simp; omega
        rw [this]; simp [hk]
    · rename_i hp
      rw [Nat.add_zero, ih]
      by_cases hk : j = k
      · subst hk; simp [hp]
      · have : (decide (k < j + 1)) = decide (k < j) := by congr 1; simp; omega
        rw [this]

/-- Is byte b in the set of these words? -/
def hasW (s : List Nat) (b : Nat) : Bool := (s.getD (b / 64) 0).testBit (b % 64)

theorem hasW_at (s : List Nat) (w k : Nat) (hk : k < 64) : hasW s (64 * w + k) = (s.getD w 0).testBit k := by
  unfold hasW
  rw [show (64 * w + k) / 64 = w by omega, show (64 * w + k) % 64 = k by omega]

theorem has_bit (x k : Nat) (hk : k < 64) : ((bShr .u64 (x : Int) (k : Int)).tmod 2 == (1 : Int)) = x.testBit k := by
  rw [bShrU x k hk, Nat.testBit_eq_decide_div_mod_eq, Int.tmod_eq_emod_of_nonneg (Int.natCast_nonneg _)]
  generalize x / 2 ^ k = y
  rw [Bool.eq_iff_iff, beq_iff_eq, decide_eq_true_iff]
  omega

/-- The set of all bytes of which p holds. -/
def Us (p : Nat → Bool) : X_api_Set := ⟨(Uw p 0 64 : Nat), (Uw p 1 64 : Nat), (Uw p 2 64 : Nat), (Uw p 3 64 : Nat)⟩
def bitS (s : X_api_Set) (b : Nat) : Bool := hasW [s.w0.toNat, s.w1.toNat, s.w2.toNat, s.w3.toNat] b

theorem nat_of {z : Int} (h : (Lit.int .u64 z).wf = true) : ∃ n : Nat, z = n ∧ n < 2 ^ 64 := by
  simp only [Lit.wf, IntKind.min, IntKind.max, Bool.and_eq_true] at h
  refine ⟨z.toNat, ?_, ?_⟩ <;> simp [IntKind.bits, IntKind.signed] at h <;> omega
theorem bit_Us {p : Nat → Bool} {b : Nat} (hb : b < 256) : bitS (Us p) b = p b := by
  have key : ∀ w k : Nat, w < 4 → k < 64 → hasW [Uw p 0 64, Uw p 1 64, Uw p 2 64, Uw p 3 64] (64 * w + k) = p (64 * w + k) := by
    intro w k hw hk
    rw [hasW_at _ w k hk]
    have : [Uw p 0 64, Uw p 1 64, Uw p 2 64, Uw p 3 64].getD w 0 = Uw p w 64 := by
      match w, hw with
      | 0, _ => rfl
      | 1, _ => rfl
      | 2, _ => rfl
      | 3, _ => rfl
    rw [this, Uw_bit]; simp [hk]
  have := key (b / 64) (b % 64) (by omega) (by omega)
  rw [show 64 * (b / 64) + b % 64 = b by omega] at this
  exact this
theorem bit_get {s : X_api_Set} (h : wfS s) {x : Nat} (hx : x < 256) : ∃ w : Nat, [s.w0, s.w1, s.w2, s.w3][x / 64]? = some (w : Int) ∧ w < 2 ^ 64 ∧ w.testBit (x % 64) = bitS s x := by
  obtain ⟨a, b, c, d⟩ := s
  obtain ⟨h0, h1, h2, h3⟩ := h
  obtain ⟨a, rfl, ha⟩ := nat_of h0
  obtain ⟨b, rfl, hb⟩ := nat_of h1
  obtain ⟨c, rfl, hc⟩ := nat_of h2
  obtain ⟨d, rfl, hd⟩ := nat_of h3
  have hq : x / 64 < 4 := by omega
  have hx' := hasW_at [a, b, c, d] (x / 64) (x % 64) (by omega)
  rw [show 64 * (x / 64) + x % 64 = x by omega] at hx'
  match h : x / 64, hq with
  | 0, _ => exact ⟨a, rfl, ha, by rw [h] at hx'; exact hx'.symm⟩
  | 1, _ => exact ⟨b, rfl, hb, by rw [h] at hx'; exact hx'.symm⟩
  | 2, _ => exact ⟨c, rfl, hc, by rw [h] at hx'; exact hx'.symm⟩
  | 3, _ => exact ⟨d, rfl, hd, by rw [h] at hx'; exact hx'.symm⟩

theorem rhas_is {s : X_api_Set} (hs : wfS s) {x : Nat} (hx : x < 256) {M : Mem} (K : Value → Prop) (h : K (.bool (bitS s x))) : S_chaffref_Has s (x : Int) M K := by
  unfold S_chaffref_Has
  have e1 : (x : Int).tdiv 64 = ((x / 64 : Nat) : Int) := by rw [Int.tdiv_eq_ediv_of_nonneg (by omega)]; omega
  have e2 : (x : Int).tmod 64 = ((x % 64 : Nat) : Int) := by rw [Int.tmod_eq_emod_of_nonneg (by omega)]; omega
  obtain ⟨w, hw, _, hb⟩ := bit_get hs hx
  rw [e1, e2]
  refine ⟨by unfold InI; omega, by omega, by omega, (w : Int), ?_, by omega, ?_⟩
  · rw [show 0 + (((x / 64 : Nat) : Int)).toNat * 1 = x / 64 by omega]; exact hw
  · rw [has_bit _ _ (by omega), hb]; exact h

theorem u8_shift : ∀ n : Nat, n < 256 → bShr .u8 (n : Int) 6 = ((n / 64 : Nat) : Int) ∧ bAnd .u8 (n : Int) 63 = ((n % 64 : Nat) : Int) := by decide +kernel
theorem bit_one (w k : Nat) (hw : w < 2 ^ 64) (hk : k < 64) : ((bAnd .u64 (bShr .u64 (w : Int) (k : Int)) 1 : Int) == (1 : Int)) = w.testBit k := by
  rw [bShrU w k hk, Nat.testBit_eq_decide_div_mod_eq]
  have h1 : w / 2 ^ k < 2 ^ 64 := Nat.lt_of_le_of_lt (Nat.div_le_self _ _) hw
  rw [show (1 : Int) = ((1 : Nat) : Int) from rfl, bAndU _ _ h1 (by decide), Nat.and_one_is_mod]
  generalize w / 2 ^ k = y
  rw [Bool.eq_iff_iff, beq_iff_eq, decide_eq_true_iff]
  omega
theorem has_is {s : X_api_Set} (hs : wfS s) (c : UInt8) {M : Mem} (K : Value → Prop) (h : K (.bool (bitS s c.toNat))) : S_set_Has s (c.toNat : Int) M K := by
  have hc := c.toNat_lt
  obtain ⟨e1, e2⟩ := u8_shift c.toNat hc
  obtain ⟨w, hw, hlt, hb⟩ := bit_get hs hc
  unfold S_set_Has
  rw [e1, e2]
  refine ⟨by omega, by omega, (w : Int), ?_, by omega, ?_⟩
  · rw [show 0 + (((c.toNat / 64 : Nat) : Int)).toNat * 1 = c.toNat / 64 by omega]; exact hw
  · rw [bit_one _ _ hlt (by omega), hb]; exact h

end Go.Proofs.Ytifkffmecfgpeaa.core
