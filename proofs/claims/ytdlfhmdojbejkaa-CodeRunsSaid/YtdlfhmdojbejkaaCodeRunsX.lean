/- For every input CodeRuns answers true and leaves its arguments as they were. No condition. -/
import Derived.Test.YtdlfhmdojbejkaaCodeRunsT
namespace Go.Proofs.Ytdlfhmdojbejkaa.lawCodeRuns
open Go.Gx Go.RowKit Go.ChangeShapes Go.WideShapes Go.ChangeAt
/-! ### Sets of bytes: four words -/

theorem wrapU (n : Nat) (h : n < 2 ^ 64) : IntKind.wrap .u64 (n : Int) = n := by
  simp only [IntKind.wrap, IntKind.bits, IntKind.signed, Bool.false_and, Bool.false_eq_true, if_false]
  omega
theorem bvU (n : Nat) (h : n < 2 ^ 64) : (BitVec.ofInt 64 (n : Int)).toNat = n := by
  rw [BitVec.ofInt_natCast, BitVec.toNat_ofNat, Nat.mod_eq_of_lt h]
theorem bOrU (a b : Nat) (ha : a < 2 ^ 64) (hb : b < 2 ^ 64) : bOr .u64 a b = ((a ||| b : Nat) : Int) := by
  show IntKind.wrap .u64 ((BitVec.ofInt 64 (a : Int) ||| BitVec.ofInt 64 (b : Int)).toNat : Int) = _
  rw [BitVec.toNat_or, bvU a ha, bvU b hb, wrapU _ (Nat.or_lt_two_pow ha hb)]
theorem bAndU (a b : Nat) (ha : a < 2 ^ 64) (hb : b < 2 ^ 64) : bAnd .u64 a b = ((a &&& b : Nat) : Int) := by
  show IntKind.wrap .u64 ((BitVec.ofInt 64 (a : Int) &&& BitVec.ofInt 64 (b : Int)).toNat : Int) = _
  rw [BitVec.toNat_and, bvU a ha, bvU b hb, wrapU _ (Nat.and_lt_two_pow a hb)]
theorem bNotU (a : Nat) (ha : a < 2 ^ 64) : bNot .u64 a = (((2 ^ 64 - 1) ^^^ a : Nat) : Int) := by
  show IntKind.wrap .u64 ((BitVec.ofInt 64 (18446744073709551615 : Int) ^^^ BitVec.ofInt 64 (a : Int)).toNat : Int) = _
  have h1 : (BitVec.ofInt 64 (18446744073709551615 : Int)).toNat = 2 ^ 64 - 1 := by decide
  rw [BitVec.toNat_xor, bvU a ha, h1, wrapU _ (Nat.xor_lt_two_pow (by decide) ha)]
theorem bShlU (k : Nat) (hk : k < 64) : bShl .u64 1 k = ((2 ^ k : Nat) : Int) := by
  show IntKind.wrap .u64 (1 * 2 ^ (min (k : Int).toNat 64)) = _
  have : min (k : Int).toNat 64 = k := by omega
  rw [this, Int.one_mul]
  have h2 : (2 ^ k : Nat) < 2 ^ 64 := Nat.pow_lt_pow_right (by decide) hk
  have := wrapU (2 ^ k) h2
  rw [Int.natCast_pow] at this ⊢
  exact this
theorem bShrU (a k : Nat) (hk : k < 64) : bShr .u64 a k = ((a / 2 ^ k : Nat) : Int) := by
  show (a : Int).fdiv (2 ^ (min (k : Int).toNat 64)) = _
  have : min (k : Int).toNat 64 = k := by omega
  rw [this, Int.ofNat_fdiv, Int.natCast_pow]; rfl

/-- The word number w of the set of all bytes of which p holds, its first j bits. -/
def Uw (p : Nat → Bool) (w : Nat) : Nat → Nat
  | 0 => 0
  | j + 1 => Uw p w j + (if p (64 * w + j) = true then 2 ^ j else 0)

theorem Uw_lt (p : Nat → Bool) (w : Nat) : ∀ j, Uw p w j < 2 ^ j
  | 0 => by simp [Uw]
  | j + 1 => by
    have := Uw_lt p w j
    simp only [Uw, Nat.pow_succ]
    split <;> omega

theorem Uw_bit (p : Nat → Bool) (w : Nat) (k : Nat) : ∀ j, (Uw p w j).testBit k = (decide (k < j) && p (64 * w + k))
  | 0 => by simp [Uw]
  | j + 1 => by
    have ih := Uw_bit p w k j
    have hlt := Uw_lt p w j
    simp only [Uw]
    split
    · rename_i hp
      have e : Uw p w j + 2 ^ j = 2 ^ j * 1 ||| Uw p w j := by
        rw [← Nat.two_pow_add_eq_or_of_lt hlt 1]; omega
      rw [e, Nat.mul_one, Nat.testBit_or, Nat.testBit_two_pow, ih]
      by_cases hk : j = k
      · subst hk; simp [hp]
      · have : (decide (k < j + 1)) = decide (k < j) := by congr 1; simp; omega
        rw [this]; simp [hk]
    · rename_i hp
      rw [Nat.add_zero, ih]
      by_cases hk : j = k
      · subst hk; simp [hp]
      · have : (decide (k < j + 1)) = decide (k < j) := by congr 1; simp; omega
        rw [this]


/-- A set's words as numbers. -/
def SetR (x : X_api_Set) : Prop := (0 ≤ x.w0 ∧ x.w0 < 2 ^ 64) ∧ (0 ≤ x.w1 ∧ x.w1 < 2 ^ 64) ∧ (0 ≤ x.w2 ∧ x.w2 < 2 ^ 64) ∧ (0 ≤ x.w3 ∧ x.w3 < 2 ^ 64)
theorem setR_of {x : X_api_Set} (h : (Lit.int .u64 x.w0).wf = true ∧ (Lit.int .u64 x.w1).wf = true ∧ (Lit.int .u64 x.w2).wf = true ∧ (Lit.int .u64 x.w3).wf = true) : SetR x := by
  simp [Lit.wf, IntKind.min, IntKind.max, IntKind.signed, IntKind.bits] at h
  unfold SetR; omega
def wsOf (x : X_api_Set) : List Nat := [x.w0.toNat, x.w1.toNat, x.w2.toNat, x.w3.toNat]
/-- Is byte b in the set? -/
def hasX (x : X_api_Set) (b : Nat) : Bool := ((wsOf x).getD (b / 64) 0).testBit (b % 64)

theorem word_ext {x y : Nat} (hx : x < 2 ^ 64) (hy : y < 2 ^ 64) (h : ∀ k, k < 64 → x.testBit k = y.testBit k) : x = y := by
  refine Nat.eq_of_testBit_eq fun k => ?_
  by_cases hk : k < 64
  · exact h k hk
  · have : 2 ^ 64 ≤ 2 ^ k := Nat.pow_le_pow_right (by decide) (by omega)
    rw [Nat.testBit_lt_two_pow (by omega), Nat.testBit_lt_two_pow (by omega)]

theorem word_get {x : X_api_Set} (h : SetR x) {q : Nat} (hq : q < 4) : ∃ w : Nat, [x.w0, x.w1, x.w2, x.w3][q]? = some (w : Int) ∧ w < 2 ^ 64 ∧ (wsOf x).getD q 0 = w := by
  obtain ⟨h0, h1, h2, h3⟩ := h
  match q, hq with
  | 0, _ => exact ⟨x.w0.toNat, by simp; omega, by omega, rfl⟩
  | 1, _ => exact ⟨x.w1.toNat, by simp; omega, by omega, rfl⟩
  | 2, _ => exact ⟨x.w2.toNat, by simp; omega, by omega, rfl⟩
  | 3, _ => exact ⟨x.w3.toNat, by simp; omega, by omega, rfl⟩

/-- Two sets with the same bytes. -/
theorem set_ext {x y : X_api_Set} (hx : SetR x) (hy : SetR y) (h : ∀ b, b < 256 → hasX x b = hasX y b) : x = y := by
  have e : ∀ q, q < 4 → (wsOf x).getD q 0 = (wsOf y).getD q 0 := by
    intro q hq
    obtain ⟨u, _, hu, eu⟩ := word_get hx hq
    obtain ⟨v, _, hv, ev⟩ := word_get hy hq
    rw [eu, ev]
    refine word_ext hu hv fun k hk => ?_
    have := h (64 * q + k) (by omega)
    unfold hasX at this
    rw [show (64 * q + k) / 64 = q by omega, show (64 * q + k) % 64 = k by omega, eu, ev] at this
    exact this
  have e0 := e 0 (by decide)
  have e1 := e 1 (by decide)
  have e2 := e 2 (by decide)
  have e3 := e 3 (by decide)
  obtain ⟨a, b, c, d⟩ := x
  obtain ⟨a', b', c', d'⟩ := y
  unfold SetR at hx hy
  simp only [wsOf, List.getD_cons_zero, List.getD_cons_succ] at e0 e1 e2 e3 hx hy
  congr 1 <;> omega

theorem and63 : ∀ n : Nat, n < 256 → bAnd .u8 (n : Int) 63 = ((n % 64 : Nat) : Int) ∧ bShr .u8 (n : Int) 6 = ((n / 64 : Nat) : Int) := by decide +kernel
theorem bit1 (x k : Nat) (hk : k < 64) (hx : x < 2 ^ 64) : (bAnd .u64 (bShr .u64 (x : Int) (k : Int)) 1 == (1 : Int)) = x.testBit k := by
  rw [bShrU x k hk]
  have hd : x / 2 ^ k < 2 ^ 64 := Nat.lt_of_le_of_lt (Nat.div_le_self _ _) hx
  have := bAndU (x / 2 ^ k) 1 hd (by decide)
  rw [show ((1 : Nat) : Int) = 1 from rfl] at this
  rw [this, Nat.testBit_eq_decide_div_mod_eq, Nat.and_one_is_mod, Bool.eq_iff_iff, beq_iff_eq, decide_eq_true_iff]
  omega
theorem has_bit (x k : Nat) (hk : k < 64) : ((bShr .u64 (x : Int) (k : Int)).tmod 2 == (1 : Int)) = x.testBit k := by
  rw [bShrU x k hk, Nat.testBit_eq_decide_div_mod_eq, Int.tmod_eq_emod_of_nonneg (Int.natCast_nonneg _)]
  generalize x / 2 ^ k = y
  rw [Bool.eq_iff_iff, beq_iff_eq, decide_eq_true_iff]
  omega

theorem shas_is (s : X_api_Set) (hs : SetR s) (b : Nat) (hb : b < 256) (M : Mem) (K : Value → Prop) (h : K (.bool (hasX s b))) : S_set_Has s (b : Int) M K := by
  obtain ⟨e1, e2⟩ := and63 b hb
  obtain ⟨w, hw, hlt, he⟩ := word_get hs (q := b / 64) (by omega)
  unfold S_set_Has
  rw [e1, e2]
  refine ⟨by omega, by omega, (w : Int), ?_, by omega, ?_⟩
  · rw [← hw]; congr 1; omega
  · rw [bit1 w _ (by omega) hlt, ← he]; exact h

theorem rhas_is (s : X_api_Set) (hs : SetR s) (b : Nat) (hb : b < 256) (M : Mem) (K : Value → Prop) (h : K (.bool (hasX s b))) : S_chaffref_Has s (b : Int) M K := by
  obtain ⟨w, hw, hlt, he⟩ := word_get hs (q := b / 64) (by omega)
  have e1 : (b : Int).tdiv 64 = ((b / 64 : Nat) : Int) := by rw [Int.tdiv_eq_ediv_of_nonneg (by omega)]; omega
  have e2 : (b : Int).tmod 64 = ((b % 64 : Nat) : Int) := by rw [Int.tmod_eq_emod_of_nonneg (by omega)]; omega
  unfold S_chaffref_Has
  rw [e1, e2]
  refine ⟨by unfold InI; omega, by omega, by omega, (w : Int), ?_, by omega, ?_⟩
  · rw [← hw]; congr 1; omega
  · rw [has_bit w _ (by omega), ← he]; exact h
/-! ### Code: what is in form -/

def jmp (op : Int) : Prop := op = 2 ∨ op = 3 ∨ op = 4 ∨ op = 5 ∨ op = 9 ∨ op = 10
instance (op : Int) : Decidable (jmp op) := by unfold jmp; infer_instance

/-- An instruction that is not in form, in a code of l instructions. -/
def badI (l : Nat) (x : X_api_Inst) : Prop := x.Op < 1 ∨ x.Op > 11 ∨ x.N < 0 ∨ (jmp x.Op ∧ x.N ≥ l) ∨ (¬ jmp x.Op ∧ x.N ≠ 0) ∨ (x.Op ≠ 1 ∧ cellsEq [x.Set.w0, x.Set.w1, x.Set.w2, x.Set.w3] [0, 0, 0, 0] = false)
instance (l : Nat) (x : X_api_Inst) : Decidable (badI l x) := by unfold badI; infer_instance

def chkI (l : List X_api_Inst) : Int := if l.length > 6000 then 2 else if ∃ x ∈ l, badI l.length x then 3 else 0

theorem chkI_large {l : List X_api_Inst} (h : ((l.length : Nat) : Int) > 6000) : chkI l = 2 := by unfold chkI; rw [if_pos (by omega)]
theorem chkI_bad {l : List X_api_Inst} (h : ¬ ((l.length : Nat) : Int) > 6000) {i : Nat} {x : X_api_Inst} (hx : l[i]? = some x) (hb : badI l.length x) : chkI l = 3 := by
  unfold chkI; rw [if_neg (by omega), if_pos ⟨x, List.mem_of_getElem? hx, hb⟩]
theorem chkI_ok {l : List X_api_Inst} (h : ¬ ((l.length : Nat) : Int) > 6000) (hb : ∀ (i : Nat) x, l[i]? = some x → ¬ badI l.length x) : chkI l = 0 := by
  unfold chkI; rw [if_neg (by omega), if_neg]
  rintro ⟨x, hx, h⟩
  obtain ⟨i, hi⟩ := List.mem_iff_getElem?.1 hx
  exact hb i x hi h

/-- The first i are in form. -/
def OkTo (l : List X_api_Inst) (i : Int) : Prop := 0 ≤ i ∧ i ≤ (l.length : Int) ∧ ∀ (j : Nat) x, (j : Int) < i → l[j]? = some x → ¬ badI l.length x
theorem OkTo.next {l : List X_api_Inst} {i : Int} (h : OkTo l i) {x : X_api_Inst} (hx : l[i.toNat]? = some x) (hb : ¬ badI l.length x) : OkTo l (i + 1) := by
  obtain ⟨h0, h1, h2⟩ := h
  have := (List.getElem?_eq_some_iff.1 hx).1
  refine ⟨by omega, by omega, fun j y hj hy => ?_⟩
  by_cases e : (j : Int) = i
  · have : i.toNat = j := by omega
    rw [this] at hx; rw [hx] at hy; cases hy; exact hb
  · exact h2 j y (by omega) hy

theorem jumps_is (op : Int) (M : Mem) (K : Value → Prop) (h : ∀ b : Bool, (b = true ↔ jmp op) → K (.bool b)) : S_code_jumps op M K := by
  unfold S_code_jumps S_code_jumps_J1 jmp at *
  have ht := h true
  have hf := h false
  simp only [true_iff, Bool.false_eq_true, false_iff, beq_iff_eq] at *
  refine ⟨fun e => ⟨fun _ => ht (by omega), fun h => absurd e h⟩, fun n2 => ⟨fun e => ⟨fun _ => ht (by omega), fun h => absurd e h⟩, fun n3 => ⟨fun e => ⟨fun _ => ht (by omega), fun h => absurd e h⟩, fun n4 => ⟨fun e => ⟨fun _ => ht (by omega), fun h => absurd e h⟩, fun n5 => ⟨fun e => ⟨fun _ => ht (by omega), fun h => absurd e h⟩, fun n9 => ⟨fun _ => ht (by omega), fun h => hf (by omega)⟩⟩⟩⟩⟩⟩

theorem check_is {A : Option Addr} {c : Nat} {es : List X_api_Inst} {M : Mem} (h : SlV M A es.length c 6 (cl X_api_Inst.cells es)) (hm : es.length ≤ maxLen) :
    S_code_Check A es.length c M (fun v => v = .int .i64 (chkI es)) := by
  unfold S_code_Check
  refine ⟨fun hl => by rw [chkI_large hl], fun hl => ⟨OkTo es, fun i => es.length - i.toNat, ⟨by omega, by omega, fun j x hj => by omega⟩, fun i hi => ⟨fun hlt => ?_, fun hge => ?_⟩⟩⟩
  · obtain ⟨h0, h1, h2⟩ := id hi
    have hx : es[i.toNat]? = some (es[i.toNat]'(by omega)) := List.getElem?_eq_getElem _
    generalize es[i.toNat]'(by omega) = x at hx
    obtain ⟨b, o, ha, hat⟩ := h.elem rfl (fun _ _ => rfl) hx
    refine ⟨b, o, ha, h0, hlt, x, hat, (s_code_jumps _ _ _ (jumps_is _ _ _ fun jb hj => ⟨jb, rfl, ?_⟩))⟩
    have hbad : ∀ z : Int, badI es.length x → z = 3 → Value.int .i64 z = .int .i64 (chkI es) := fun z hb e => by rw [chkI_bad hl hx hb, e]
    have hnext : ¬ badI es.length x → (InI (i + 1) ∧ OkTo es (i + 1) ∧ es.length - (i + 1).toNat < es.length - i.toNat) := fun hb => ⟨by unfold InI; omega, hi.next hx hb, by omega⟩
    have j1 : ∀ most : Int, (jmp x.Op → most = es.length - 1) → (¬ jmp x.Op → most = 0) → S_code_Check_J1 i (OkTo es) (fun i => es.length - i.toNat) x most (fun v => v = .int .i64 (chkI es)) := by
      intro most hm1 hm2
      have yes : badI es.length x → S_code_Check_J2 i (OkTo es) (fun i => es.length - i.toNat) true (fun v => v = .int .i64 (chkI es)) := fun hb => ⟨fun _ => hbad 3 hb rfl, fun h => absurd rfl h⟩
      have no : ∀ b, (b = true → badI es.length x) → (b = false → ¬ badI es.length x) → S_code_Check_J2 i (OkTo es) (fun i => es.length - i.toNat) b (fun v => v = .int .i64 (chkI es)) := fun b h1 h2 => ⟨fun hb => hbad 3 (h1 hb) rfl, fun hb => hnext (h2 (by simpa using hb))⟩
      unfold S_code_Check_J1
      refine ⟨fun h => yes (.inl h), fun h1 => ⟨fun h => yes (.inr (.inl h)), fun h2 => ⟨fun h => yes (.inr (.inr (.inl h))), fun h3 => ⟨fun h => yes ?_, fun h4 => ⟨fun h => no _ (fun e => ?_) (fun e => ?_), fun h => no _ (fun e => by cases e) (fun _ => ?_)⟩⟩⟩⟩⟩
      · by_cases hj : jmp x.Op
        · exact .inr (.inr (.inr (.inl ⟨hj, by have := hm1 hj; omega⟩)))
        · exact .inr (.inr (.inr (.inr (.inl ⟨hj, by have := hm2 hj; omega⟩))))
      · exact .inr (.inr (.inr (.inr (.inr ⟨h, by simpa using e⟩))))
      · rintro (hb | hb | hb | ⟨hj, hb⟩ | ⟨hj, hb⟩ | ⟨_, hb⟩)
        · omega
        · omega
        · omega
        · have := hm1 hj; omega
        · have := hm2 hj; omega
        · rw [hb] at e; cases e
      · rintro (hb | hb | hb | ⟨hj, hb⟩ | ⟨hj, hb⟩ | ⟨hb, _⟩)
        · omega
        · omega
        · omega
        · have := hm1 hj; omega
        · have := hm2 hj; omega
        · exact h hb
    refine ⟨fun hb => ⟨by unfold InI; unfold maxLen at hm; omega, j1 _ (fun _ => rfl) (fun hn => absurd (hj.1 hb) hn)⟩, fun hb => j1 _ (fun h => absurd (hj.2 h) hb) (fun _ => rfl)⟩
  · obtain ⟨h0, h1, h2⟩ := hi
    show Value.int .i64 0 = _
    rw [chkI_ok hl (fun j x hx => h2 j x (by have := (List.getElem?_eq_some_iff.1 hx).1; omega) hx)]

theorem index_is {A : Option Addr} {c : Nat} {zs : List Int} {v : Int} {M : Mem} (h : SlV M A zs.length c 1 (cl iC zs)) (hm : zs.length ≤ maxLen) (K : Value → Prop) (hK : ∀ k : Int, (0 ≤ k ↔ v ∈ zs) → K (.int .i64 k)) : S_slices_Index_int A zs.length c v M K := by
  unfold S_slices_Index_int
  refine ⟨fun i => 0 ≤ i ∧ i ≤ (zs.length : Int) ∧ ∀ j : Nat, (j : Int) < i → zs[j]? ≠ some v, fun i => zs.length - i.toNat, ⟨by omega, by omega, fun j hj => by omega⟩, fun i ⟨h0, h1, h2⟩ => ⟨fun hlt => ?_, fun hge => ?_⟩⟩
  · have hx : zs[i.toNat]? = some (zs[i.toNat]'(by omega)) := List.getElem?_eq_getElem _
    generalize zs[i.toNat]'(by omega) = x at hx
    obtain ⟨b, o, ha, hat⟩ := h.elem rfl (fun _ _ => rfl) hx
    refine ⟨b, o, ha, h0, hlt, x, hat, fun e => hK i ⟨fun _ => List.mem_of_getElem? (e ▸ hx), fun _ => h0⟩, fun e => ⟨by unfold InI; unfold maxLen at hm; omega, ⟨by omega, by omega, fun j hj => ?_⟩, by dsimp only; omega⟩⟩
    by_cases ej : (j : Int) = i
    · have : i.toNat = j := by omega
      rw [← this, hx]; simp; omega
    · exact h2 j (by omega)
  · refine hK (-1) ⟨fun h => by omega, fun hv => ?_⟩
    obtain ⟨j, hj⟩ := List.mem_iff_getElem?.1 hv
    have := (List.getElem?_eq_some_iff.1 hj).1
    exact absurd hj (h2 j (by omega))

theorem ref_is {A : Option Addr} {c : Nat} {es : List X_api_Inst} {M : Mem} (h : SlV M A es.length c 6 (cl X_api_Inst.cells es)) (_hm : es.length ≤ maxLen) :
    S_chaffref_Code A es.length c M (fun v => v = .int .i64 (chkI es)) := by
  unfold S_chaffref_Code
  refine ⟨fun hl => by rw [chkI_large hl], fun hl => ⟨fun i M' => OkTo es i ∧ M.le M', fun i => es.length - i.toNat, ⟨⟨by omega, by omega, fun j x hj => by omega⟩, Mem.le.refl M⟩, fun i M' ⟨hi, hle⟩ => ⟨fun hlt => ?_, fun hge => ?_⟩⟩⟩
  · obtain ⟨h0, h1, h2⟩ := id hi
    have hx : es[i.toNat]? = some (es[i.toNat]'(by omega)) := List.getElem?_eq_getElem _
    generalize es[i.toNat]'(by omega) = x at hx
    obtain ⟨b, o, ha, hat⟩ := h.elem rfl (fun _ _ => rfl) hx
    refine ⟨b, o, ha, h0, hlt, x, hat.le hle, fun M2 ad cap hle2 hsl => s_slices_Contains_int _ _ _ _ _ _ (s_slices_Index_int _ _ _ _ _ _ (index_is (zs := [2, 3, 4, 5, 9, 10]) hsl (by unfold maxLen; decide) _ fun k hk => ⟨k, rfl, decide (k ≥ 0), rfl, ?_⟩))⟩
    have hj : decide (k ≥ 0) = true ↔ jmp x.Op := by rw [decide_eq_true_iff]; show 0 ≤ k ↔ _; rw [hk]; simp [jmp]
    generalize decide (k ≥ 0) = jb at hj
    clear hk k
    have hbad : ∀ z : Int, badI es.length x → z = 3 → Value.int .i64 z = .int .i64 (chkI es) := fun z hb e => by rw [chkI_bad hl hx hb, e]
    have hnext : ¬ badI es.length x → (InI (i + 1) ∧ (OkTo es (i + 1) ∧ M.le M2) ∧ es.length - (i + 1).toNat < es.length - i.toNat) := fun hb => ⟨by unfold InI; omega, ⟨hi.next hx hb, hle.trans hle2⟩, by omega⟩
    have yes : badI es.length x → S_chaffref_Code_J1 i (fun i M' => OkTo es i ∧ M.le M') (fun i => es.length - i.toNat) M2 true (fun v => v = .int .i64 (chkI es)) := fun hb => ⟨fun _ => hbad 3 hb rfl, fun h => absurd rfl h⟩
    have no : ∀ b, (b = true → badI es.length x) → (b = false → ¬ badI es.length x) → S_chaffref_Code_J1 i (fun i M' => OkTo es i ∧ M.le M') (fun i => es.length - i.toNat) M2 b (fun v => v = .int .i64 (chkI es)) := fun b h1 h2 => ⟨fun hb => hbad 3 (h1 hb) rfl, fun hb => hnext (h2 (by simpa using hb))⟩
    have last : ¬ x.Op < 1 → ¬ x.Op > 11 → (jmp x.Op → 0 ≤ x.N ∧ x.N < es.length) → (¬ jmp x.Op → x.N = 0) →
        (((x.Op : Int) ≠ 1 → (S_chaffref_Code_J1 i (fun i M' => OkTo es i ∧ M.le M') (fun i => es.length - i.toNat) M2 (!(cellsEq [x.Set.w0, x.Set.w1, x.Set.w2, x.Set.w3] [0, 0, 0, 0])) (fun v => v = .int .i64 (chkI es)))) ∧ (¬ ((x.Op : Int) ≠ 1) → (S_chaffref_Code_J1 i (fun i M' => OkTo es i ∧ M.le M') (fun i => es.length - i.toNat) M2 false (fun v => v = .int .i64 (chkI es))))) := by
      intro g1 g2 g3 g4
      refine ⟨fun h => no _ (fun e => .inr (.inr (.inr (.inr (.inr ⟨h, by simpa using e⟩))))) (fun e => ?_), fun h => no _ (fun e => by cases e) (fun _ => ?_)⟩
      · rintro (hb | hb | hb | ⟨hj, hb⟩ | ⟨hj, hb⟩ | ⟨_, hb⟩)
        · omega
        · omega
        · by_cases hj : jmp x.Op
          · have := g3 hj; omega
          · have := g4 hj; omega
        · have := g3 hj; omega
        · exact hb (g4 hj)
        · rw [hb] at e; cases e
      · rintro (hb | hb | hb | ⟨hj, hb⟩ | ⟨hj, hb⟩ | ⟨hb, _⟩)
        · omega
        · omega
        · by_cases hj : jmp x.Op
          · have := g3 hj; omega
          · have := g4 hj; omega
        · have := g3 hj; omega
        · exact hb (g4 hj)
        · exact h hb
    refine ⟨fun h => yes (.inl h), fun g1 => ⟨fun h => yes (.inr (.inl h)), fun g2 => ⟨fun hb => ⟨fun h => yes (.inr (.inr (.inl h))), fun g3 => ⟨fun h => yes (.inr (.inr (.inr (.inl ⟨hj.1 hb, h⟩)))), fun g4 => ⟨fun h => absurd hb h, fun _ => last g1 g2 (fun _ => by omega) (fun h => absurd (hj.1 hb) h)⟩⟩⟩, fun hb => ⟨fun _ => ⟨fun h => yes (.inr (.inr (.inr (.inr (.inl ⟨fun h' => hb (hj.2 h'), h⟩))))), fun g3 => last g1 g2 (fun h => absurd (hj.2 h) hb) (fun _ => by omega)⟩, fun h => absurd hb h⟩⟩⟩⟩
  · obtain ⟨h0, h1, h2⟩ := hi
    show Value.int .i64 0 = _
    rw [chkI_ok hl (fun j x hx => h2 j x (by have := (List.getElem?_eq_some_iff.1 hx).1; omega) hx)]

/-! ### The machine -/

/-- An entry of the stack; a call's place is below 0. -/
abbrev Ent := X_code_entry
inductive Res where
  | go (pc at_ : Int) (st : List Ent)
  | fin (ok : Bool) (n err : Int)

def failM : List Ent → Res
  | [] => .fin false 0 0
  | e :: r => if e.f_at ≥ 0 then .go e.pc e.f_at r else failM r

def top6 (c : Bool) (st : List Ent) (k : Ent → List Ent → Res) : Res :=
  match st with
  | [] => .fin false 0 13
  | e :: r => if decide (e.f_at < 0) = c then k e r else .fin false 0 13

def stepM (x : X_api_Inst) (s : List UInt8) (pc at_ : Int) (st : List Ent) : Res :=
  if x.Op = 8 then .fin true at_ 0
  else if x.Op = 1 then (match s[at_.toNat]? with
    | none => failM st
    | some c => if hasX x.Set c.toNat then .go (pc + 1) (at_ + 1) st else failM st)
  else if x.Op = 2 then .go x.N at_ st
  else if x.Op = 3 then (if st.length = 10000 then .fin false 0 14 else .go (pc + 1) at_ (⟨x.N, at_⟩ :: st))
  else if x.Op = 5 then (if st.length = 10000 then .fin false 0 14 else .go x.N at_ (⟨pc + 1, -1⟩ :: st))
  else if x.Op = 7 then failM st
  else if x.Op = 6 then top6 true st fun e r => .go e.pc at_ r
  else if x.Op = 4 then top6 false st fun _ r => .go x.N at_ r
  else if x.Op = 9 then top6 false st fun e r => .go x.N at_ (⟨e.pc, at_⟩ :: r)
  else if x.Op = 10 then top6 false st fun e r => .go x.N e.f_at r
  else top6 false st fun _ r => failM r

/-- What a run of at most n steps comes to. -/
def runM (is : List X_api_Inst) (s : List UInt8) : Nat → Int → Int → List Ent → Bool × Int × Int
  | n, pc, at_, st => match is[pc.toNat]? with
    | none => (false, 0, 13)
    | some x => match n with
      | 0 => (false, 0, 10)
      | n + 1 => match stepM x s pc at_ st with
        | .go pc' at' st' => runM is s n pc' at' st'
        | .fin ok k e => (ok, k, e)

/-- A state as it should be. -/
structure OkM (is : List X_api_Inst) (s : List UInt8) (pc at_ : Int) (st : List Ent) : Prop where
  pc0 : 0 ≤ pc
  pc1 : pc ≤ is.length
  at0 : 0 ≤ at_
  at1 : at_ ≤ s.length
  len : st.length ≤ 10000
  ent : ∀ e ∈ st, 0 ≤ e.pc ∧ e.pc ≤ is.length ∧ -1 ≤ e.f_at ∧ e.f_at ≤ s.length

def okI (is : List X_api_Inst) (x : X_api_Inst) : Prop := 1 ≤ x.Op ∧ x.Op ≤ 11 ∧ (jmp x.Op → 0 ≤ x.N ∧ x.N < is.length)

theorem okI_of {is : List X_api_Inst} (h : chkI is = 0) : is.length ≤ 6000 ∧ ∀ x ∈ is, okI is x := by
  unfold chkI at h
  split at h
  · omega
  · split at h
    · omega
    · rename_i hn
      refine ⟨by omega, fun x hx => ?_⟩
      have hb : ¬ badI is.length x := fun hb => hn ⟨x, hx, hb⟩
      unfold badI at hb
      refine ⟨?_, ?_, fun hj => ⟨?_, ?_⟩⟩
      · exact Int.not_lt.1 fun h => hb (.inl h)
      · exact Int.not_lt.1 fun h => hb (.inr (.inl h))
      · exact Int.not_lt.1 fun h => hb (.inr (.inr (.inl h)))
      · exact Int.not_le.1 fun h => hb (.inr (.inr (.inr (.inl ⟨hj, h⟩))))

theorem failM_fin : ∀ {st : List Ent} {ok : Bool} {n e : Int}, failM st = .fin ok n e → ok = false ∧ n = 0 ∧ e = 0
  | [], _, _, _, h => by cases h; exact ⟨rfl, rfl, rfl⟩
  | x :: r, _, _, _, h => by
    unfold failM at h
    split at h
    · cases h
    · exact failM_fin h

theorem failM_ok {is : List X_api_Inst} {s : List UInt8} : ∀ {st : List Ent}, st.length ≤ 10000 → (∀ e ∈ st, 0 ≤ e.pc ∧ e.pc ≤ is.length ∧ -1 ≤ e.f_at ∧ e.f_at ≤ s.length) → ∀ {p a : Int} {r : List Ent}, failM st = .go p a r → OkM is s p a r
  | [], _, _, p, a, r, h => by cases h
  | e :: t, hl, he, p, a, r, h => by
    unfold failM at h
    simp only [List.length_cons] at hl
    split at h
    · rename_i ha
      cases h
      have := he e (by simp)
      exact ⟨this.1, this.2.1, ha, this.2.2.2, by omega, fun x hx => he x (by simp [hx])⟩
    · exact failM_ok (by omega) (fun x hx => he x (by simp [hx])) h

theorem stepM_ok {is : List X_api_Inst} {s : List UInt8} {pc at_ : Int} {st : List Ent} (h : OkM is s pc at_ st) {x : X_api_Inst} (hx : okI is x) (hpc : pc < is.length) {p a : Int} {r : List Ent} (hr : stepM x s pc at_ st = .go p a r) : OkM is s p a r := by
  obtain ⟨h1, h2, h3, h4, h5, h6⟩ := h
  obtain ⟨g1, g2, g3⟩ := hx
  have hN : jmp x.Op → 0 ≤ x.N ∧ x.N < is.length := g3
  have top : ∀ (c : Bool) (k : Ent → List Ent → Res), top6 c st k = .go p a r → ∃ e t, st = e :: t ∧ decide (e.f_at < 0) = c ∧ k e t = .go p a r := by
    intro c k hk
    cases st with
    | nil => cases hk
    | cons e t =>
      simp only [top6] at hk
      split at hk
      · rename_i hc; exact ⟨e, t, rfl, hc, hk⟩
      · cases hk
  unfold stepM at hr
  split at hr
  · cases hr
  split at hr
  · split at hr
    · exact failM_ok h5 h6 hr
    · rename_i hc
      split at hr
      · cases hr
        have := (List.getElem?_eq_some_iff.1 hc).1
        exact ⟨by omega, by omega, by omega, by omega, h5, h6⟩
      · exact failM_ok h5 h6 hr
  split at hr
  · rename_i hop; have := hN (by unfold jmp; omega); cases hr; exact ⟨by omega, by omega, h3, h4, h5, h6⟩
  split at hr
  · rename_i hop; have := hN (by unfold jmp; omega)
    split at hr
    · cases hr
    · cases hr
      exact ⟨by omega, by omega, h3, h4, by simp only [List.length_cons]; omega, fun e he => by
        rcases List.mem_cons.1 he with rfl | he
        · simp only; omega
        · exact h6 e he⟩
  split at hr
  · rename_i hop; have := hN (by unfold jmp; omega)
    split at hr
    · cases hr
    · cases hr
      exact ⟨by omega, by omega, h3, h4, by simp only [List.length_cons]; omega, fun e he => by
        rcases List.mem_cons.1 he with rfl | he
        · simp only; omega
        · exact h6 e he⟩
  split at hr
  · exact failM_ok h5 h6 hr
  split at hr
  · obtain ⟨e, t, rfl, _, hk⟩ := top _ _ hr
    cases hk
    have := h6 e (by simp)
    exact ⟨this.1, this.2.1, h3, h4, by simp only [List.length_cons] at h5; omega, fun y hy => h6 y (by simp [hy])⟩
  split at hr
  · rename_i hop; have := hN (by unfold jmp; omega)
    obtain ⟨e, t, rfl, _, hk⟩ := top _ _ hr
    cases hk
    exact ⟨by omega, by omega, h3, h4, by simp only [List.length_cons] at h5; omega, fun y hy => h6 y (by simp [hy])⟩
  split at hr
  · rename_i hop; have := hN (by unfold jmp; omega)
    obtain ⟨e, t, rfl, _, hk⟩ := top _ _ hr
    cases hk
    have he := h6 e (by simp)
    exact ⟨by omega, by omega, h3, h4, by simp only [List.length_cons] at h5 ⊢; omega, fun y hy => by
      rcases List.mem_cons.1 hy with rfl | hy
      · simp only; omega
      · exact h6 y (by simp [hy])⟩
  split at hr
  · rename_i hop; have := hN (by unfold jmp; omega)
    obtain ⟨e, t, rfl, hc, hk⟩ := top _ _ hr
    cases hk
    have he := h6 e (by simp)
    have hc : ¬ e.f_at < 0 := by simpa using hc
    exact ⟨by omega, by omega, by omega, by omega, by simp only [List.length_cons] at h5; omega, fun y hy => h6 y (by simp [hy])⟩
  · obtain ⟨e, t, rfl, _, hk⟩ := top _ _ hr
    exact failM_ok (by simp only [List.length_cons] at h5; omega) (fun y hy => h6 y (by simp [hy])) hk

/-! The program's stack: a row, the top last. -/

abbrev rowOf (st : List Ent) : List Value := cl X_code_entry.cells st.reverse
theorem Xen_len (x : X_code_entry) : x.cells.length = 2 := rfl
theorem rowOf_cons (e : Ent) (r : List Ent) : rowOf r ++ e.cells = rowOf (e :: r) := by unfold rowOf; rw [cl_snoc, List.reverse_cons]
theorem rowOf_take (e : Ent) (r : List Ent) : (rowOf (e :: r)).take (r.length * 2) = rowOf r := by
  unfold rowOf
  rw [cl_take Xen_len, List.reverse_cons, List.take_left' (by simp)]
theorem rowOf_get (e : Ent) (r : List Ent) : (e :: r).reverse[r.length]? = some e := by
  rw [List.reverse_cons, List.getElem?_append_right (by simp)]; simp
theorem rowOf_Cs (e : Ent) (r : List Ent) : Cs (rowOf (e :: r)) (0 + r.length * 2) e.cells := cl_Cs Xen_len (rowOf_get e r)
theorem rowOf_Cs1 (e : Ent) (r : List Ent) : Cs (rowOf (e :: r)) (0 + r.length * 2 + 1) [.int .i64 e.f_at] := by
  have h := rowOf_Cs e r
  unfold Cs at *
  rw [← List.drop_drop]
  have e1 : (List.take 2 (List.drop (0 + r.length * 2) (rowOf (e :: r)))) = e.cells := h
  generalize List.drop (0 + r.length * 2) (rowOf (e :: r)) = l at *
  match l, e1 with
  | [], e1 => simp [X_code_entry.cells] at e1
  | [_], e1 => simp [X_code_entry.cells] at e1
  | a :: b :: l, e1 =>
    simp only [List.take_succ_cons, List.take_zero, X_code_entry.cells, List.cons.injEq, and_true] at e1
    simp [e1.2]

theorem tn (r : Nat) : (((r + 1 : Nat) : Int) - 1).toNat = r := by omega

theorem mfail_is : ∀ (st : List Ent) (s : List UInt8) (pc at_ : Int) (M : Mem) (K : Value → Int → Int → Nat → List Value → Mem → Prop), st.length ≤ 10000 →
    (match failM st with
      | .go p a r => K (.bool true) p a r.length (rowOf r) M
      | .fin _ _ _ => K (.bool false) pc at_ 0 [] M) → C_code_machine_fail s pc at_ st.length (rowOf st) M K := by
  intro st s pc at_ M K hl hK
  refine s_code_machine_fail _ _ _ _ _ _ _ ?_
  unfold S_code_machine_fail
  refine ⟨fun n rx => ∃ t : List Ent, n = t.length ∧ rx = rowOf t ∧ failM t = failM st ∧ t.length ≤ 10000, fun n _ => n, ⟨st, rfl, rfl, rfl, hl⟩, ?_⟩
  rintro n rx ⟨t, rfl, rfl, hf, htl⟩
  refine ⟨fun hp => ?_, fun hz => ?_⟩
  · cases t with
    | nil => simp only [List.length_nil] at hp; omega
    | cons e r =>
      simp only [List.length_cons] at htl ⊢
      rw [tn]
      refine ⟨by unfold InI; omega, by omega, by omega, e, rowOf_Cs e r, by omega, by omega, fun ha => ?_, fun ha => ?_⟩
      · rw [rowOf_take]
        rw [failM, if_pos ha] at hf
        rw [← hf] at hK
        exact hK
      · rw [rowOf_take]
        rw [failM, if_neg ha] at hf
        exact ⟨⟨r, rfl, rfl, hf, by omega⟩, by omega⟩
  · have : t = [] := List.eq_nil_of_length_eq_zero (by omega)
    subst this
    rw [← hf] at hK
    exact hK

theorem mpush_is (e : Ent) (st : List Ent) (s : List UInt8) (pc at_ : Int) (M : Mem) (K : Value → Nat → List Value → Mem → Prop) (hl : st.length ≤ 10000)
    (h1 : st.length = 10000 → K (.int .i64 14) st.length (rowOf st) M) (h2 : st.length ≠ 10000 → K (.int .i64 0) (e :: st).length (rowOf (e :: st)) M) : C_code_machine_push e s pc at_ st.length (rowOf st) M K := by
  refine s_code_machine_push _ _ _ _ _ _ _ _ ?_
  unfold S_code_machine_push
  refine ⟨fun h => h1 (by omega), fun h => ⟨by omega, ?_⟩⟩
  rw [rowOf_cons]
  exact h2 (by omega)

theorem mpop_is (c : Bool) (st : List Ent) (s : List UInt8) (pc at_ : Int) (M : Mem) (K : Value → Nat → List Value → Mem → Prop) (hl : st.length ≤ 10000)
    (h1 : (∀ e r, st = e :: r → decide (e.f_at < 0) ≠ c) → K (.tuple #[(X_code_entry.mk 0 0).val, .bool false]) st.length (rowOf st) M)
    (h2 : ∀ e r, st = e :: r → decide (e.f_at < 0) = c → K (.tuple #[e.val, .bool true]) r.length (rowOf r) M) : C_code_machine_pop c s pc at_ st.length (rowOf st) M K := by
  refine s_code_machine_pop _ _ _ _ _ _ _ _ ?_
  unfold S_code_machine_pop
  refine ⟨by unfold InI; omega, fun h => ⟨fun _ => h1 fun e r he => ?_, fun h => absurd rfl h⟩, fun h => ?_⟩
  · subst he; simp only [List.length_cons] at h; omega
  cases st with
  | nil => simp only [List.length_nil] at h; omega
  | cons e r =>
    simp only [List.length_cons] at hl ⊢
    have t1 : ((r.length + 1 : Nat) : Int) - 1 = (r.length : Int) := by omega
    rw [t1]
    refine ⟨by omega, by omega, e.f_at, rowOf_Cs1 e r, fun hb => h1 fun e' r' he => ?_, fun hb => ?_⟩
    · cases he; simpa using hb
    · rw [t1]
      refine ⟨by omega, by omega, e, rowOf_Cs e r, by omega, by omega, ?_⟩
      rw [show ((r.length : Nat) : Int).toNat = r.length by omega, rowOf_take]
      exact h2 e r rfl (by simpa using hb)

theorem mback_is (x : X_api_Inst) (st : List Ent) (s : List UInt8) (pc at_ : Int) (M : Mem) (K : Value → Int → Int → Nat → List Value → Mem → Prop) (hl : st.length ≤ 10000) (hx : x.Op = 4 ∨ x.Op = 6 ∨ x.Op = 9 ∨ x.Op = 10 ∨ x.Op = 11)
    (h : match stepM x s (pc - 1) at_ st with
      | .go p a r => K (.tuple #[.bool true, .int .i64 0]) p a r.length (rowOf r) M
      | .fin _ _ e => ∀ p a n rx, K (.tuple #[.bool false, .int .i64 e]) p a n rx M) : C_code_machine_back x s pc at_ st.length (rowOf st) M K := by
  refine s_code_machine_back _ _ _ _ _ _ _ _ ?_
  unfold S_code_machine_back
  have nope : (∀ e r, st = e :: r → decide (e.f_at < 0) ≠ (x.Op == (6 : Int))) → stepM x s (pc - 1) at_ st = .fin false 0 13 := by
    intro hno
    have t6 : ∀ (c : Bool) k, c = (x.Op == (6 : Int)) → top6 c st k = .fin false 0 13 := by
      rintro c k rfl
      cases st with
      | nil => rfl
      | cons e r => simp only [top6]; rw [if_neg (hno e r rfl)]
    unfold stepM
    rw [if_neg (by omega), if_neg (by omega), if_neg (by omega), if_neg (by omega), if_neg (by omega), if_neg (by omega)]
    rcases hx with hx | hx | hx | hx | hx <;> simp only [hx] <;> simp <;> exact t6 _ _ (by rw [hx]; rfl)
  refine mpop_is _ st s pc at_ M _ hl (fun hno => ⟨_, _, rfl, fun _ => ?_, fun h => absurd (by simp) h⟩) (fun e r he hc => ⟨_, _, rfl, fun h => absurd rfl h, fun _ => ?_⟩)
  · rw [nope hno] at h; exact h _ _ _ _
  subst he
  have st6 : ∀ (c : Bool) k, c = (x.Op == (6 : Int)) → top6 c (e :: r) k = k e r := by
    rintro c k rfl
    simp only [top6]; rw [if_pos hc]
  simp only [List.length_cons] at hl
  refine ⟨fun h6 => ?_, fun n6 => ⟨fun h4 => ?_, fun n4 => ⟨fun h9 => ⟨by omega, ?_⟩, fun n9 => ⟨fun h10 => ?_, fun n10 => ⟨fun h11 => ?_, fun n11 => by omega⟩⟩⟩⟩⟩
  · have : stepM x s (pc - 1) at_ (e :: r) = .go e.pc at_ r := by unfold stepM; simp only [h6]; simp; exact st6 true _ (by rw [h6]; rfl)
    rw [this] at h; exact h
  · have : stepM x s (pc - 1) at_ (e :: r) = .go x.N at_ r := by unfold stepM; simp only [h4]; simp; exact st6 false _ (by rw [h4]; rfl)
    rw [this] at h; exact h
  · have : stepM x s (pc - 1) at_ (e :: r) = .go x.N at_ (⟨e.pc, at_⟩ :: r) := by unfold stepM; simp only [h9]; simp; exact st6 false _ (by rw [h9]; rfl)
    rw [this] at h
    rw [rowOf_cons]
    exact h
  · have : stepM x s (pc - 1) at_ (e :: r) = .go x.N e.f_at r := by unfold stepM; simp only [h10]; simp; exact st6 false _ (by rw [h10]; rfl)
    rw [this] at h; exact h
  · have : stepM x s (pc - 1) at_ (e :: r) = failM r := by unfold stepM; simp only [h11]; simp; exact st6 false _ (by rw [h11]; rfl)
    rw [this] at h
    refine mfail_is r s pc at_ M _ (by omega) ?_
    cases hq : failM r with
    | go p a t => rw [hq] at h; exact ⟨_, rfl, h⟩
    | fin ok k er => rw [hq] at h; obtain ⟨_, _, rfl⟩ := failM_fin hq; exact ⟨_, rfl, h _ _ _ _⟩

theorem one_fail {st : List Ent} {s : List UInt8} {pc at_ : Int} {M : Mem} {K : Value → Int → Int → Nat → List Value → Mem → Prop} (hl : st.length ≤ 10000)
    (h : match failM st with
      | .go p a r => K (.tuple #[.bool true, .int .i64 0]) p a r.length (rowOf r) M
      | .fin _ _ e => ∀ p a n rx, K (.tuple #[.bool false, .int .i64 e]) p a n rx M) :
    C_code_machine_fail s pc at_ st.length (rowOf st) M (fun v c20 c21 rn22 rx23 M19 => ∃ (x18 : Bool), v = (Value.bool x18) ∧ K (Value.tuple #[(Value.bool x18), (Value.int .i64 0)]) c20 c21 rn22 rx23 M19) := by
  refine mfail_is st s pc at_ M _ hl ?_
  cases hq : failM st with
  | go p a t => rw [hq] at h; exact ⟨_, rfl, h⟩
  | fin ok k er => rw [hq] at h; obtain ⟨_, _, rfl⟩ := failM_fin hq; exact ⟨_, rfl, h _ _ _ _⟩

theorem one_is (x : X_api_Inst) (hs : SetR x.Set) (st : List Ent) (s : List UInt8) (pc at_ : Int) (M : Mem) (K : Value → Int → Int → Nat → List Value → Mem → Prop) (hl : st.length ≤ 10000) (hx : 1 ≤ x.Op ∧ x.Op ≤ 11 ∧ x.Op ≠ 8) (hpc : 0 ≤ pc ∧ pc < 10000) (hat : 0 ≤ at_ ∧ at_ ≤ s.length) (hsl : s.length ≤ 60)
    (h : match stepM x s pc at_ st with
      | .go p a r => K (.tuple #[.bool true, .int .i64 0]) p a r.length (rowOf r) M
      | .fin _ _ e => ∀ o p a n rx, (e = 0 → o = false) → K (.tuple #[.bool o, .int .i64 e]) p a n rx M) : C_code_machine_one x s pc at_ st.length (rowOf st) M K := by
  refine s_code_machine_one _ _ _ _ _ _ _ _ ?_
  unfold S_code_machine_one
  refine ⟨by unfold InI; omega, fun h1 => ?_, fun n1 => ⟨fun h2 => ?_, fun n2 => ⟨fun h3 => ?_, fun n3 => ⟨fun h5 => ?_, fun n5 => ⟨fun h7 => ?_, fun n7 => ?_⟩⟩⟩⟩⟩
  · have e1 : stepM x s pc at_ st = (match s[at_.toNat]? with
      | none => failM st
      | some c => if hasX x.Set c.toNat then .go (pc + 1) (at_ + 1) st else failM st) := by unfold stepM; rw [if_neg (by omega), if_pos h1]
    have failed : stepM x s pc at_ st = failM st → S_code_machine_one_J1 s pc at_ st.length (rowOf st) M true K := by
      intro e
      rw [e] at h
      refine ⟨fun _ => one_fail hl ?_, fun h => absurd rfl h⟩
      cases hq : failM st with
      | go p a t => rw [hq] at h; exact h
      | fin ok k er => rw [hq] at h; exact fun p a n rx => h _ _ _ _ _ fun _ => rfl
    refine ⟨fun he => failed ?_, fun hne => ?_⟩
    · rw [e1, List.getElem?_eq_none (by omega)]
    · obtain ⟨c, hc⟩ := getI (l := s) hat.1 (by omega)
      rw [hc] at e1
      simp only at e1
      refine ⟨c, hat.1, hc, s_set_Has _ _ _ _ (shas_is _ hs c.toNat c.toNat_lt _ _ ⟨_, rfl, ?_⟩)⟩
      cases hb : hasX x.Set c.toNat with
      | false => rw [hb] at e1; exact failed (by rw [e1]; simp)
      | true =>
        rw [hb] at e1
        simp only [if_true] at e1
        rw [e1] at h
        exact ⟨fun h => (by cases h), fun _ => ⟨by unfold InI; omega, h⟩⟩
  · have : stepM x s pc at_ st = .go x.N at_ st := by unfold stepM; rw [if_neg (by omega), if_neg n1, if_pos h2]
    rw [this] at h; exact h
  · have e1 : stepM x s pc at_ st = if st.length = 10000 then .fin false 0 14 else .go (pc + 1) at_ (⟨x.N, at_⟩ :: st) := by unfold stepM; rw [if_neg (by omega), if_neg n1, if_neg n2, if_pos h3]
    rw [e1] at h
    refine mpush_is ⟨x.N, at_⟩ st s _ _ M _ hl (fun he => ⟨_, rfl, ?_⟩) (fun he => ⟨_, rfl, ?_⟩)
    · rw [if_pos he] at h; exact h _ _ _ _ _ fun h => by cases h
    · rw [if_neg he] at h; exact h
  · have e1 : stepM x s pc at_ st = if st.length = 10000 then .fin false 0 14 else .go x.N at_ (⟨pc + 1, -1⟩ :: st) := by unfold stepM; rw [if_neg (by omega), if_neg n1, if_neg n2, if_neg n3, if_pos h5]
    rw [e1] at h
    refine mpush_is ⟨pc + 1, -1⟩ st s _ _ M _ hl (fun he => ⟨_, rfl, ?_⟩) (fun he => ⟨_, rfl, ?_⟩)
    · rw [if_pos he] at h; exact h _ _ _ _ _ fun h => by cases h
    · rw [if_neg he] at h; exact h
  · have e1 : stepM x s pc at_ st = failM st := by unfold stepM; rw [if_neg (by omega), if_neg n1, if_neg n2, if_neg n3, if_neg n5, if_pos h7]
    rw [e1] at h
    refine one_fail hl ?_
    cases hq : failM st with
    | go p a t => rw [hq] at h; exact h
    | fin ok k er => rw [hq] at h; exact fun p a n rx => h _ _ _ _ _ fun _ => rfl
  · refine mback_is x st s (pc + 1) at_ M _ hl (by omega) ?_
    rw [Int.add_sub_cancel]
    cases hq : stepM x s pc at_ st with
    | go p a t => rw [hq] at h; exact ⟨_, _, rfl, h⟩
    | fin ok k er => rw [hq] at h; exact fun p a n rx => ⟨_, _, rfl, h _ _ _ _ _ fun _ => rfl⟩

theorem stepM_fin {x : X_api_Inst} {s : List UInt8} {pc at_ : Int} {st : List Ent} (hx : x.Op ≠ 8) {ok : Bool} {n e : Int} (h : stepM x s pc at_ st = .fin ok n e) : ok = false ∧ n = 0 := by
  have t6 : ∀ (c : Bool) (k : Ent → List Ent → Res), (∀ a b, k a b = .fin ok n e → ok = false ∧ n = 0) → top6 c st k = .fin ok n e → ok = false ∧ n = 0 := by
    intro c k hk ht
    cases st with
    | nil => cases ht; exact ⟨rfl, rfl⟩
    | cons a b =>
      simp only [top6] at ht
      split at ht
      · exact hk _ _ ht
      · cases ht; exact ⟨rfl, rfl⟩
  have ff : ∀ t, failM t = .fin ok n e → ok = false ∧ n = 0 := fun t ht => ⟨(failM_fin ht).1, (failM_fin ht).2.1⟩
  unfold stepM at h
  rw [if_neg hx] at h
  split at h
  · split at h
    · exact ff _ h
    · split at h
      · cases h
      · exact ff _ h
  split at h
  · cases h
  split at h
  · split at h
    · cases h; exact ⟨rfl, rfl⟩
    · cases h
  split at h
  · split at h
    · cases h; exact ⟨rfl, rfl⟩
    · cases h
  split at h
  · exact ff _ h
  split at h
  · exact t6 _ _ (fun _ _ h => by cases h) h
  split at h
  · exact t6 _ _ (fun _ _ h => by cases h) h
  split at h
  · exact t6 _ _ (fun _ _ h => by cases h) h
  split at h
  · exact t6 _ _ (fun _ _ h => by cases h) h
  · exact t6 _ _ (fun _ _ h => ff _ h) h

def runAll (is : List X_api_Inst) (s : List UInt8) (steps : Int) : Bool × Int × Int :=
  if chkI is ≠ 0 then (false, 0, chkI is) else if s.length > 60 then (false, 0, 2) else if steps < 0 ∨ steps > 16777216 then (false, 0, 1) else runM is s steps.toNat 0 0 []

def outV (r : Bool × Int × Int) : Value := .tuple #[(X_api_Outcome.mk r.1 r.2.1).val, .int .i64 r.2.2]

theorem part0 {M : Mem} {b o : Nat} {vs : List Value} (h : At M b o vs) (us : List Value) (hk : vs.take us.length = us) : At M b o us := by
  have := h.part 0 us (by simpa using hk)
  simpa using this

theorem crun_is {A : Option Addr} {c : Nat} {is : List X_api_Inst} {M : Mem} (h : SlV M A is.length c 6 (cl X_api_Inst.cells is)) (hm : is.length ≤ maxLen) (hset : ∀ x ∈ is, SetR x.Set) (s : List UInt8) (steps : Int) (K : Value → Prop) (hK : K (outV (runAll is s steps))) : S_code_Run A is.length c s steps M K := by
  unfold S_code_Run
  refine (s_code_Check _ _ _ _ _ (check_is h hm)).mono fun v M1 _ hv => ⟨_, hv, fun hne => ?_, fun he => ?_⟩
  · unfold runAll at hK; rw [if_pos hne] at hK; exact hK
  have he : chkI is = 0 := by simpa using he
  unfold runAll at hK
  rw [if_neg (by simp [he])] at hK
  obtain ⟨hlen, hin⟩ := okI_of he
  refine ⟨fun hl => ?_, fun hl => ?_⟩
  · rw [if_pos (by omega)] at hK; exact hK
  rw [if_neg (by omega)] at hK
  have j1 : ∀ b : Bool, b = decide (steps < 0 ∨ steps > 16777216) → S_code_Run_J1 A is.length s steps M b K := by
    rintro b hb
    refine ⟨fun e => ?_, fun e => ?_⟩
    · rw [e] at hb; rw [if_pos (of_decide_eq_true hb.symm)] at hK; exact hK
    have hst : ¬ (steps < 0 ∨ steps > 16777216) := fun q => e (by rw [hb]; exact decide_eq_true q)
    rw [if_neg hst] at hK
    generalize hR : runM is s steps.toNat 0 0 [] = R at hK
    refine ⟨fun k pc at_ n rx M' => ∃ st : List Ent, n = st.length ∧ rx = rowOf st ∧ M.le M' ∧ 0 ≤ k ∧ k ≤ 16777216 ∧ OkM is s pc at_ st ∧ runM is s k.toNat pc at_ st = R, fun k _ _ _ _ => k.toNat,
      ⟨[], rfl, rfl, Mem.le.refl M, by omega, by omega, ⟨by omega, by omega, by omega, by omega, by simp, by simp⟩, hR⟩, ?_⟩
    rintro k pc at_ n rx M' ⟨st, rfl, rfl, hle, hk0, hk1, hok, hrun⟩
    obtain ⟨h1, h2, h3, h4, h5, h6⟩ := id hok
    refine ⟨fun hge => ?_, fun hlt => ?_⟩
    · unfold runM at hrun
      rw [List.getElem?_eq_none (by omega)] at hrun
      simp only at hrun
      rw [← hrun] at hK; exact hK
    obtain ⟨x, hx⟩ := getI (l := is) h1 (by omega)
    obtain ⟨b, o, ha, hat⟩ := h.at (fun _ => rfl) rfl hx
    have hxi := hin x (List.mem_of_getElem? hx)
    have hxs := hset x (List.mem_of_getElem? hx)
    refine ⟨fun hz => ?_, fun hz => ⟨by unfold InI; omega, b, o, ha, h1, by omega, x.Op, (part0 hat _ rfl).le hle, fun h8 => ?_, fun n8 => ⟨b, o, ha, h1, by omega, x, hat.le hle, ?_⟩⟩⟩
    · subst hz
      unfold runM at hrun
      rw [hx] at hrun
      rw [← hrun] at hK; exact hK
    · obtain ⟨m, hm'⟩ : ∃ m, k.toNat = m + 1 := ⟨k.toNat - 1, by omega⟩
      rw [hm', runM, hx] at hrun
      have : stepM x s pc at_ st = .fin true at_ 0 := by unfold stepM; rw [if_pos h8]
      simp only [this] at hrun
      rw [← hrun] at hK; exact hK
    · obtain ⟨m, hm'⟩ : ∃ m, k.toNat = m + 1 := ⟨k.toNat - 1, by omega⟩
      rw [hm', runM, hx] at hrun
      simp only at hrun
      refine one_is x hxs st s pc at_ M' _ h5 ⟨hxi.1, hxi.2.1, n8⟩ ⟨h1, by omega⟩ ⟨h3, h4⟩ (by omega) ?_
      cases hq : stepM x s pc at_ st with
      | go p a r =>
        rw [hq] at hrun
        have hok' := stepM_ok hok hxi (by omega) hq
        refine ⟨_, _, rfl, fun h => absurd rfl h, fun _ => ⟨fun h => (by cases h), fun _ => ⟨⟨r, rfl, rfl, hle, by omega, by omega, hok', ?_⟩, by dsimp only; omega⟩⟩⟩
        rw [show (k - 1).toNat = m by omega]; exact hrun
      | fin ok n' er =>
        rw [hq] at hrun
        simp only at hrun
        obtain ⟨rfl, rfl⟩ := stepM_fin n8 hq
        rw [← hrun] at hK
        intro o' p a n rx ho
        refine ⟨_, _, rfl, fun _ => ⟨fun _ => hK, fun h => absurd rfl h⟩, fun h => ⟨fun _ => hK, fun h' => ?_⟩⟩
        have h0 : er = 0 := by simpa using h
        rw [ho h0] at h'; exact absurd rfl h'
  refine ⟨fun q => j1 _ (by simp [q]), fun q => j1 _ (by rw [Bool.eq_iff_iff]; simp; omega)⟩

/-! ### The reference's machine: frames that know the one below -/

def FrR (M : Mem) : Option Addr → List Ent → Prop
  | p, [] => p = none
  | p, e :: r => ∃ b o below, p = some ⟨b, o, none⟩ ∧ At M b o [.int .i64 e.pc, .int .i64 (if e.f_at < 0 then 0 else e.f_at), .bool (decide (e.f_at < 0)), .pointer below, .int .i64 ((r.length : Int) + 1)] ∧ FrR M below r

theorem FrR.le {M M' : Mem} (hl : M.le M') : ∀ {st : List Ent} {p : Option Addr}, FrR M p st → FrR M' p st
  | [], _, h => h
  | _ :: _, _, ⟨b, o, below, h1, h2, h3⟩ => ⟨b, o, below, h1, h2.le hl, h3.le hl⟩
theorem FrR.nil {M : Mem} {p : Option Addr} {st : List Ent} (h : FrR M p st) : p.isNone = true ↔ st = [] := by
  cases st with
  | nil => simp only [FrR] at h; subst h; simp
  | cons e r => obtain ⟨b, o, below, rfl, _⟩ := h; simp

theorem on_is (e : Ent) (st : List Ent) (p : Option Addr) (M : Mem) (K : Value → Mem → Prop) (hp : FrR M p st) (hl : st.length ≤ 10000) (at_ : Int) (ha : at_ = if e.f_at < 0 then 0 else e.f_at) (c : Bool) (hc : c = decide (e.f_at < 0))
    (hK : ∀ M' q, M.le M' → FrR M' q (e :: st) → K (.pointer q) M') : S_chaffref_frame_on p e.pc at_ c M K := by
  have j1 : ∀ many : Int, many = (st.length : Int) + 1 → S_chaffref_frame_on_J1 p e.pc at_ c M many K := by
    rintro many rfl M2 b hle hat M3 hle2
    refine hK M3 _ (hle.trans hle2) ⟨b, 0, p, rfl, ?_, hp.le (hle.trans hle2)⟩
    rw [← ha, ← hc]
    exact hat.le hle2
  unfold S_chaffref_frame_on
  refine ⟨fun h => ?_, fun h => ?_⟩
  · cases st with
    | nil => rw [hp.nil] at h; exact absurd rfl h
    | cons a r =>
      obtain ⟨b, o, below, rfl, hat, _⟩ := hp
      simp only [List.length_cons] at hl
      refine ⟨b, o, rfl, (r.length : Int) + 1, hat.part 4 _ rfl, by unfold InI; omega, j1 _ ?_⟩
      simp only [List.length_cons]; omega
  · have : st = [] := by
      have : p.isNone = true := by simpa using h
      exact hp.nil.1 this
    subst this
    exact j1 _ (by simp)

def manyOf (M : Mem) (p : Option Addr) : Nat := match p with
  | none => 0
  | some a => match M.cell a.block (a.off + 4) with
    | some (.int _ z) => z.toNat
    | _ => 0
theorem manyOf_is {M : Mem} {p : Option Addr} {st : List Ent} (h : FrR M p st) : manyOf M p = st.length := by
  cases st with
  | nil => simp only [FrR] at h; subst h; rfl
  | cons e r =>
    obtain ⟨b, o, below, rfl, hat, _⟩ := h
    have := hat 4 _ rfl
    simp only [manyOf, this, List.length_cons]
    omega

theorem rrun_is {A : Option Addr} {c : Nat} {is : List X_api_Inst} {M : Mem} (h : SlV M A is.length c 6 (cl X_api_Inst.cells is)) (hm : is.length ≤ maxLen) (hset : ∀ x ∈ is, SetR x.Set) (s : List UInt8) (steps : Int) (K : Value → Prop) (hK : K (outV (runAll is s steps))) : S_chaffref_Machine A is.length c s steps M K := by
  unfold S_chaffref_Machine
  refine (s_chaffref_Code _ _ _ _ _ (ref_is h hm)).mono fun v M1 _ hv => ⟨_, hv, fun hne => ?_, fun he => ?_⟩
  · unfold runAll at hK; rw [if_pos hne] at hK; exact hK
  have he : chkI is = 0 := by simpa using he
  unfold runAll at hK
  rw [if_neg (by simp [he])] at hK
  obtain ⟨hlen, hin⟩ := okI_of he
  refine ⟨fun hl => ?_, fun hl => ?_⟩
  · rw [if_pos (by omega)] at hK; exact hK
  rw [if_neg (by omega)] at hK
  have j1 : ∀ b : Bool, b = decide (steps < 0 ∨ steps > 16777216) → S_chaffref_Machine_J1 A is.length s steps M b K := by
    rintro b hb
    refine ⟨fun e => ?_, fun e => ?_⟩
    · rw [e] at hb; rw [if_pos (of_decide_eq_true hb.symm)] at hK; exact hK
    have hst : ¬ (steps < 0 ∨ steps > 16777216) := fun q => e (by rw [hb]; exact decide_eq_true q)
    rw [if_neg hst] at hK
    generalize hR : runM is s steps.toNat 0 0 [] = R at hK
    let I : Int → Int → Option Addr → Int → Mem → Prop := fun pc at_ top n M' => ∃ st : List Ent, M.le M' ∧ FrR M' top st ∧ 0 ≤ n ∧ n ≤ steps ∧ OkM is s pc at_ st ∧ runM is s (steps - n).toNat pc at_ st = R
    let mu : Int → Int → Option Addr → Int → Nat := fun _ _ _ n => (steps - n).toNat
    refine ⟨I, mu, ⟨[], Mem.le.refl M, rfl, by omega, by omega, ⟨by omega, by omega, by omega, by omega, by simp, by simp⟩, by rw [Int.sub_zero]; exact hR⟩, ?_⟩
    rintro pc at_ top n M' ⟨st, hle, hfr, hn0, hn1, hok, hrun⟩
    obtain ⟨h1, h2, h3, h4, h5, h6⟩ := id hok
    refine ⟨fun hge => ?_, fun hlt => ?_⟩
    · unfold runM at hrun
      rw [List.getElem?_eq_none (by omega)] at hrun
      simp only at hrun
      rw [← hrun] at hK; exact hK
    obtain ⟨x, hx⟩ := getI (l := is) h1 (by omega)
    obtain ⟨b, o, ha, hat⟩ := h.at (fun _ => rfl) rfl hx
    obtain ⟨hx1, hx2, hxN⟩ := hin x (List.mem_of_getElem? hx)
    have hxs := hset x (List.mem_of_getElem? hx)
    refine ⟨fun hz => ?_, fun hz => ⟨b, o, ha, h1, by omega, x, hat.le hle, by unfold InI; omega, fun M2 ad cap hle2 hsl => s_slices_Contains_int _ _ _ _ _ _ (s_slices_Index_int _ _ _ _ _ _ (index_is (zs := [4, 6, 9, 10, 11]) hsl (by unfold maxLen; decide) _ fun k hk => ⟨k, rfl, decide (k ≥ 0), rfl, ?_⟩))⟩⟩
    · subst hz
      rw [Int.sub_self] at hrun
      unfold runM at hrun
      rw [hx] at hrun
      rw [← hrun] at hK; exact hK
    have hj : decide (k ≥ 0) = true ↔ (x.Op = 4 ∨ x.Op = 6 ∨ x.Op = 9 ∨ x.Op = 10 ∨ x.Op = 11) := by rw [decide_eq_true_iff]; show 0 ≤ k ↔ _; rw [hk]; simp
    generalize decide (k ≥ 0) = jb at hj
    clear hk k
    obtain ⟨m, hm'⟩ : ∃ m, (steps - n).toNat = m + 1 := ⟨(steps - n).toNat - 1, by omega⟩
    rw [hm', runM, hx] at hrun
    simp only at hrun
    -- what is to come of a step
    let cont : Res → Prop := fun q => match q with
      | .go p a r => OkM is s p a r ∧ runM is s m p a r = R
      | .fin ok k e => R = (ok, k, e)
    have hcont : cont (stepM x s pc at_ st) := by
      cases hq : stepM x s pc at_ st with
      | go p a r => rw [hq] at hrun; exact ⟨stepM_ok hok ⟨hx1, hx2, hxN⟩ (by omega) hq, hrun⟩
      | fin ok k e => rw [hq] at hrun; exact hrun.symm
    have hle02 := hle.trans hle2
    have hfr2 := hfr.le hle2
    have j8 : ∀ (p a : Int) (t : Option Addr) (M3 : Mem) (r : List Ent), M.le M3 → FrR M3 t r → cont (.go p a r) → S_chaffref_Machine_J8 pc at_ top n I mu p a t M3 K := by
      intro p a t M3 r hl3 hf hc
      refine ⟨by unfold InI; omega, ⟨r, hl3, hf, by omega, by omega, hc.1, ?_⟩, by show (steps - (n + 1)).toNat < (steps - n).toNat; omega⟩
      rw [show (steps - (n + 1)).toNat = m by omega]; exact hc.2
    have j5f : ∀ (p a : Int) (t : Option Addr) (M3 : Mem) (r : List Ent), M.le M3 → FrR M3 t r → cont (.go p a r) → S_chaffref_Machine_J5 pc at_ top n I mu p a t false M3 K := by
      intro p a t M3 r hl3 hf hc
      have j7 : S_chaffref_Machine_J7 pc at_ top n I mu p a false M3 t false K := ⟨fun h => (by cases h), fun _ => ⟨fun h => (by cases h), fun _ => j8 p a t M3 r hl3 hf hc⟩⟩
      have j6 : S_chaffref_Machine_J6 pc at_ top n I mu p a false M3 t (fun q => q = t) (fun _ => 0) false K := ⟨fun h => (by cases h), fun _ => ⟨fun h => (by cases h), fun _ => j7⟩⟩
      refine ⟨fun q => q = t, fun _ => 0, rfl, ?_⟩
      rintro q rfl
      exact ⟨fun h => (by cases h), fun _ => j6⟩
    have j5t : ∀ (p a : Int) (t : Option Addr) (M3 : Mem) (r : List Ent), M.le M3 → FrR M3 t r → cont (failM r) → S_chaffref_Machine_J5 pc at_ top n I mu p a t true M3 K := by
      intro p a t M3 r hl3 hf hc
      refine ⟨fun q => ∃ r, FrR M3 q r ∧ cont (failM r), manyOf M3, ⟨r, hf, hc⟩, ?_⟩
      rintro q ⟨r, hf, hc⟩
      have j7 : ∀ b : Bool, b = q.isNone → (∀ e t, r = e :: t → ¬ e.f_at < 0) → S_chaffref_Machine_J7 pc at_ top n I mu p a true M3 q b K := by
        intro b hb hne
        refine ⟨fun h => ?_, fun h => ⟨fun _ => ?_, fun h => absurd rfl h⟩⟩
        · rw [h] at hb
          have := hf.nil.1 hb.symm
          subst this
          have hc : R = (false, 0, 0) := hc
          rw [hc] at hK; exact hK
        · cases r with
          | nil => rw [hb] at h; exact absurd (hf.nil.2 rfl) h
          | cons e t =>
            have ha : e.f_at ≥ 0 := by have := hne e t rfl; omega
            rw [failM, if_pos ha] at hc
            obtain ⟨b1, o1, below, rfl, hat, hr⟩ := hf
            rw [if_neg (by omega)] at hat
            exact ⟨b1, o1, rfl, e.pc, part0 hat _ rfl, b1, o1, rfl, e.f_at, hat.part 1 _ rfl, b1, o1, rfl, below, hat.part 3 _ rfl, j8 _ _ _ M3 t hl3 hr hc⟩
      refine ⟨fun _ => ⟨fun hnn => ?_, fun hnn => ⟨fun h => (by cases h), fun _ => ⟨fun _ => j7 _ rfl fun e t he => ?_, fun h => absurd rfl h⟩⟩⟩, fun h => absurd rfl h⟩
      · cases r with
        | nil => exact absurd (hf.nil.2 rfl) hnn
        | cons e t =>
          have hf' := hf
          obtain ⟨b1, o1, below, rfl, hat, hr⟩ := hf
          refine ⟨b1, o1, rfl, decide (e.f_at < 0), hat.part 2 _ rfl, fun hca => ?_, fun hca => ⟨fun _ => j7 _ rfl fun e' t' he => ?_, fun h => absurd rfl h⟩⟩
          · have hca : e.f_at < 0 := of_decide_eq_true hca
            refine ⟨b1, o1, rfl, below, hat.part 3 _ rfl, ⟨t, hr, ?_⟩, ?_⟩
            · rw [failM, if_neg (by omega)] at hc; exact hc
            · rw [manyOf_is hr, manyOf_is hf']; simp
          · cases he; simpa using hca
      · have : q.isNone = true := by simpa using hnn
        rw [hf.nil.1 this] at he; cases he
    have st6 : ∀ (c : Bool) (k : Ent → List Ent → Res), top6 c st k = .fin false 0 13 ∨ ∃ e r, st = e :: r ∧ decide (e.f_at < 0) = c := by
      intro c k
      cases st with
      | nil => exact .inl rfl
      | cons e r =>
        by_cases hc : decide (e.f_at < 0) = c
        · exact .inr ⟨e, r, rfl, hc⟩
        · left; simp only [top6]; rw [if_neg hc]
    have j3 : ∀ b : Bool, (b = true → cont (.fin false 0 14)) → (b = false → ((x.Op = 3 ∨ x.Op = 5) → st.length ≠ 10000) ∧ ((x.Op = 4 ∨ x.Op = 6 ∨ x.Op = 9 ∨ x.Op = 10 ∨ x.Op = 11) → ∃ e r, st = e :: r ∧ decide (e.f_at < 0) = (x.Op == (6 : Int)))) → S_chaffref_Machine_J3 s pc at_ top n I mu x M2 b K := by
      intro b hb1 hb2
      refine ⟨fun e => ?_, fun e => ?_⟩
      · have : R = (false, 0, 14) := hb1 e
        rw [this] at hK; exact hK
      obtain ⟨g1, g2⟩ := hb2 (by simpa using e)
      have u := hcont
      unfold stepM at u
      refine ⟨fun q1 => ?_, fun n1 => ⟨fun q => ?_, fun n2 => ⟨fun q => ?_, fun n3 => ⟨fun q => ?_, fun n4 => ⟨fun q => ?_, fun n5 => ⟨fun q => ?_, fun n6 => ⟨fun q => ?_, fun n7 => ⟨fun q => ?_, fun n8 => ⟨fun q => ?_, fun n9 => ⟨fun q => ?_, fun n10 => ⟨fun q => ?_, fun n11 => by omega⟩⟩⟩⟩⟩⟩⟩⟩⟩⟩⟩
      · rw [if_neg (by omega), if_pos q1] at u
        have j4t : cont (failM st) → S_chaffref_Machine_J4 pc at_ top n I mu M2 true K := fun hc => ⟨by unfold InI; omega, j5t _ _ _ M2 st hle02 hfr2 hc⟩
        refine ⟨fun hge => ?_, fun hlt2 => ?_⟩
        · rw [List.getElem?_eq_none (by omega)] at u; exact j4t u
        · obtain ⟨c, hc⟩ := getI (l := s) h3 (by omega)
          rw [hc] at u
          simp only at u
          have e1 : (if ((s.length : Nat) : Int) - 1 < at_ then ((s.length : Nat) : Int) - 1 else at_) = at_ := by rw [if_neg (by omega)]
          have e2 : IntKind.wrap .i64 ((c.toNat : Nat) : Int) = (c.toNat : Int) := wrap_in (by have := c.toNat_lt; unfold InI; omega)
          refine ⟨by unfold InI; omega, c, by rw [e1]; exact h3, by rw [e1]; exact hc, ?_⟩
          rw [e2]
          refine s_chaffref_Has _ _ _ _ (rhas_is _ hxs c.toNat c.toNat_lt _ _ ⟨_, rfl, ?_⟩)
          cases hh : hasX x.Set c.toNat with
          | false => rw [hh] at u; exact j4t u
          | true => rw [hh] at u; exact ⟨by unfold InI; omega, j5f _ _ _ M2 st hle02 hfr2 u⟩
      · rw [if_neg (by omega), if_neg n1, if_pos q] at u; exact j5f _ _ _ M2 st hle02 hfr2 u
      · rw [if_neg (by omega), if_neg n1, if_neg n2, if_pos q, if_neg (g1 (.inl q))] at u
        refine s_chaffref_frame_on _ _ _ _ _ _ (on_is ⟨x.N, at_⟩ st top M2 _ hfr2 h5 at_ (by simp only; rw [if_neg (by omega)]) false (by simp; omega) fun M3 p hl3 hp => ⟨p, rfl, j5f _ _ _ M3 _ (hle02.trans hl3) hp u⟩)
      · obtain ⟨e, r, rfl, hc⟩ := g2 (.inl q)
        rw [if_neg (by omega), if_neg n1, if_neg n2, if_neg n3, if_neg (by omega), if_neg (by omega), if_neg (by omega), if_pos q] at u
        simp only [top6] at u
        rw [if_pos (by rw [hc, q]; rfl)] at u
        obtain ⟨b1, o1, below, rfl, hat1, hr⟩ := hfr2
        exact ⟨b1, o1, rfl, below, hat1.part 3 _ rfl, j5f _ _ _ M2 r hle02 hr u⟩
      · rw [if_neg (by omega), if_neg n1, if_neg n2, if_neg n3, if_pos q, if_neg (g1 (.inr q))] at u
        refine s_chaffref_frame_on _ _ _ _ _ _ (on_is ⟨pc + 1, -1⟩ st top M2 _ hfr2 h5 0 rfl true rfl fun M3 p hl3 hp => ⟨p, rfl, j5f _ _ _ M3 _ (hle02.trans hl3) hp u⟩)
      · obtain ⟨e, r, rfl, hc⟩ := g2 (.inr (.inl q))
        rw [if_neg (by omega), if_neg n1, if_neg n2, if_neg n3, if_neg n5, if_neg (by omega), if_pos q] at u
        simp only [top6] at u
        rw [if_pos (by rw [hc, q]; rfl)] at u
        obtain ⟨b1, o1, below, rfl, hat1, hr⟩ := hfr2
        exact ⟨b1, o1, rfl, below, hat1.part 3 _ rfl, b1, o1, rfl, e.pc, part0 hat1 _ rfl, j5f _ _ _ M2 r hle02 hr u⟩
      · rw [if_neg (by omega), if_neg n1, if_neg n2, if_neg n3, if_neg n5, if_pos q] at u
        exact j5t _ _ _ M2 st hle02 hfr2 u
      · rw [if_pos q] at u
        have : R = (true, at_, 0) := u
        rw [this] at hK; exact hK
      · obtain ⟨e, r, rfl, hc⟩ := g2 (.inr (.inr (.inl q)))
        rw [if_neg (by omega), if_neg n1, if_neg n2, if_neg n3, if_neg n5, if_neg n7, if_neg n6, if_neg n4, if_pos q] at u
        simp only [top6] at u
        rw [if_pos (by rw [hc, q]; rfl)] at u
        obtain ⟨b1, o1, below, rfl, hat1, hr⟩ := hfr2
        simp only [List.length_cons] at h5
        refine ⟨b1, o1, rfl, below, hat1.part 3 _ rfl, b1, o1, rfl, e.pc, part0 hat1 _ rfl, ?_⟩
        refine s_chaffref_frame_on _ _ _ _ _ _ (on_is ⟨e.pc, at_⟩ r below M2 _ hr (by omega) at_ (by simp only; rw [if_neg (by omega)]) false (by simp; omega) fun M3 p hl3 hp => ⟨p, rfl, j5f _ _ _ M3 _ (hle02.trans hl3) hp u⟩)
      · obtain ⟨e, r, rfl, hc⟩ := g2 (.inr (.inr (.inr (.inl q))))
        rw [if_neg (by omega), if_neg n1, if_neg n2, if_neg n3, if_neg n5, if_neg n7, if_neg n6, if_neg n4, if_neg n9, if_pos q] at u
        simp only [top6] at u
        rw [if_pos (by rw [hc, q]; rfl)] at u
        obtain ⟨b1, o1, below, rfl, hat1, hr⟩ := hfr2
        have ha : ¬ e.f_at < 0 := by rw [q] at hc; simpa using hc
        rw [if_neg ha] at hat1
        exact ⟨b1, o1, rfl, below, hat1.part 3 _ rfl, b1, o1, rfl, e.f_at, hat1.part 1 _ rfl, j5f _ _ _ M2 r hle02 hr u⟩
      · obtain ⟨e, r, rfl, hc⟩ := g2 (.inr (.inr (.inr (.inr q))))
        rw [if_neg (by omega), if_neg n1, if_neg n2, if_neg n3, if_neg n5, if_neg n7, if_neg n6, if_neg n4, if_neg n9, if_neg n10] at u
        simp only [top6] at u
        rw [if_pos (by rw [hc, q]; rfl)] at u
        obtain ⟨b1, o1, below, rfl, hat1, hr⟩ := hfr2
        exact ⟨b1, o1, rfl, below, hat1.part 3 _ rfl, j5t _ _ _ M2 r hle02 hr u⟩
    have j2 : ∀ b : Bool, (b = true → cont (.fin false 0 13)) → (b = false → ((x.Op = 4 ∨ x.Op = 6 ∨ x.Op = 9 ∨ x.Op = 10 ∨ x.Op = 11) → ∃ e r, st = e :: r ∧ decide (e.f_at < 0) = (x.Op == (6 : Int)))) → S_chaffref_Machine_J2 s pc at_ top n I mu x b M2 K := by
      intro b hb1 hb2
      refine ⟨fun e => ?_, fun e => ?_⟩
      · have : R = (false, 0, 13) := hb1 e
        rw [this] at hK; exact hK
      have hb2 := hb2 (by simpa using e)
      have big : (x.Op = 3 ∨ x.Op = 5) → st.length = 10000 → cont (.fin false 0 14) := by
        intro hq hl
        have u := hcont
        unfold stepM at u
        rcases hq with q | q
        · rw [if_neg (by omega), if_neg (by omega), if_neg (by omega), if_pos q, if_pos hl] at u; exact u
        · rw [if_neg (by omega), if_neg (by omega), if_neg (by omega), if_neg (by omega), if_pos q, if_pos hl] at u; exact u
      have many : (x.Op = 3 ∨ x.Op = 5) → (¬ (top.isNone = true) → (∃ (b216 o217 : Nat), top = some ⟨b216, o217, none⟩ ∧ (∃ (z : Int), At M2 b216 (o217 + 4) [(Value.int .i64 z)] ∧ (S_chaffref_Machine_J3 s pc at_ top n I mu x M2 ((z : Int) == (10000 : Int)) K)))) ∧ (¬ (¬ (top.isNone = true)) → (S_chaffref_Machine_J3 s pc at_ top n I mu x M2 false K)) := by
        intro hq
        refine ⟨fun hnn => ?_, fun hnn => ?_⟩
        · cases st with
          | nil => exact absurd (hfr.nil.2 rfl) hnn
          | cons e r =>
            have hf' := hfr2
            obtain ⟨b1, o1, below, rfl, hat1, hr⟩ := hf'
            refine ⟨b1, o1, rfl, _, hat1.part 4 _ rfl, j3 _ (fun hb => big hq ?_) (fun hb => ⟨fun _ => ?_, hb2⟩)⟩
            · simp at hb; simp only [List.length_cons]; omega
            · simp at hb; simp only [List.length_cons]; omega
        · have : top.isNone = true := by simpa using hnn
          have := hfr.nil.1 this
          exact j3 _ (fun h => by cases h) (fun _ => ⟨fun _ => by rw [this]; simp, hb2⟩)
      refine ⟨fun q => many (.inl q), fun n3 => ⟨fun q => many (.inr q), fun n5 => j3 _ (fun h => by cases h) (fun _ => ⟨fun h => by omega, hb2⟩)⟩⟩
    have bad : (x.Op = 4 ∨ x.Op = 6 ∨ x.Op = 9 ∨ x.Op = 10 ∨ x.Op = 11) → (∀ e r, st = e :: r → decide (e.f_at < 0) ≠ (x.Op == (6 : Int))) → cont (.fin false 0 13) := by
      intro hq hno
      have t6 : ∀ (c : Bool) k, c = (x.Op == (6 : Int)) → top6 c st k = .fin false 0 13 := by
        rintro c k rfl
        rcases st6 (x.Op == (6 : Int)) k with h | ⟨e, r, h1, h2⟩
        · exact h
        · exact absurd h2 (hno e r h1)
      have u := hcont
      unfold stepM at u
      rcases hq with q | q | q | q | q
      · rw [if_neg (by omega), if_neg (by omega), if_neg (by omega), if_neg (by omega), if_neg (by omega), if_neg (by omega), if_neg (by omega), if_pos q, t6 _ _ (by rw [q]; rfl)] at u; exact u
      · rw [if_neg (by omega), if_neg (by omega), if_neg (by omega), if_neg (by omega), if_neg (by omega), if_neg (by omega), if_pos q, t6 _ _ (by rw [q]; rfl)] at u; exact u
      · rw [if_neg (by omega), if_neg (by omega), if_neg (by omega), if_neg (by omega), if_neg (by omega), if_neg (by omega), if_neg (by omega), if_neg (by omega), if_pos q, t6 _ _ (by rw [q]; rfl)] at u; exact u
      · rw [if_neg (by omega), if_neg (by omega), if_neg (by omega), if_neg (by omega), if_neg (by omega), if_neg (by omega), if_neg (by omega), if_neg (by omega), if_neg (by omega), if_pos q, t6 _ _ (by rw [q]; rfl)] at u; exact u
      · rw [if_neg (by omega), if_neg (by omega), if_neg (by omega), if_neg (by omega), if_neg (by omega), if_neg (by omega), if_neg (by omega), if_neg (by omega), if_neg (by omega), if_neg (by omega), t6 _ _ (by rw [q]; rfl)] at u; exact u
    refine ⟨fun hjt => ⟨fun hn => j2 _ (fun _ => bad (hj.1 hjt) fun e r he => ?_) (fun h => by cases h), fun hnn => ?_⟩, fun hjf => j2 _ (fun h => by cases h) (fun _ h => absurd (hj.2 h) hjf)⟩
    · rw [hfr.nil.1 hn] at he; cases he
    · cases st with
      | nil => exact absurd (hfr.nil.2 rfl) hnn
      | cons e r =>
        have hf' := hfr
        obtain ⟨b1, o1, below, rfl, hat1, hr⟩ := hf'
        refine ⟨b1, o1, rfl, decide (e.f_at < 0), hat1.part 2 _ rfl, j2 _ (fun hb => bad (hj.1 hjt) fun e' r' he => ?_) (fun hb _ => ⟨e, r, rfl, ?_⟩)⟩
        · cases he; simpa using hb
        · simpa using hb
  refine ⟨fun q => j1 _ (by simp [q]), fun q => j1 _ (by rw [Bool.eq_iff_iff]; simp; omega)⟩

theorem walk : WalkGoal := by
  intro H enc W x0 n0 hx0 s hs steps hst
  obtain ⟨is, hsl, hl, hm, hall⟩ := open_L_Inst hx0
  obtain ⟨A, l, c⟩ := x0
  simp only at hl hm hsl
  subst hl
  have hset : ∀ x ∈ is, SetR x.Set := fun x hx => by
    obtain ⟨k, _, h1, h2, h3, h4, h5, h6⟩ := hall x hx
    exact setR_of ⟨h3, h4, h5, h6⟩
  refine s_chafflaw_CodeRuns _ _ _ _ _ _ _ ?_
  unfold S_chafflaw_CodeRuns
  refine s_code_Run _ _ _ _ _ _ _ (crun_is hsl hm hset s steps _ ⟨_, _, rfl, ?_⟩)
  refine s_chaffref_Machine _ _ _ _ _ _ _ (rrun_is hsl hm hset s steps _ ⟨_, _, rfl, fun _ => by simp, fun h => absurd ⟨rfl, rfl⟩ h⟩)

theorem holds : Rows.CodeRunsSaid := top walk
#print axioms holds
end Go.Proofs.Ytdlfhmdojbejkaa.lawCodeRuns
