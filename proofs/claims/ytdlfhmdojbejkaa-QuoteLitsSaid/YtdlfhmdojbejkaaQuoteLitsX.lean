/- For every input QuoteLits answers true and leaves its arguments as they were. No condition. -/
import Derived.Test.YtdlfhmdojbejkaaQuoteLitsT
namespace Go.Proofs.Ytdlfhmdojbejkaa.lawQuoteLits
open Go.Gx Go.RowKit Go.ChangeShapes Go.WideShapes Go.ChangeAt
/-! ### Where a byte stands in a text -/

theorem slIndexByte_is (s : List UInt8) (c : UInt8) (M : Mem) (K : Value → Prop) (h : K (.int .i64 (idxB s c.toNat))) : S_internal_stringslite_IndexByte s (c.toNat : Int) M K := h
theorem indexByte_is (s : List UInt8) (c : UInt8) (M : Mem) (K : Value → Prop) (h : K (.int .i64 (idxB s c.toNat))) : S_strings_IndexByte s (c.toNat : Int) M K :=
  s_internal_stringslite_IndexByte _ _ _ _ (slIndexByte_is s c _ _ ⟨_, rfl, h⟩)
theorem idxB_mem (s : List UInt8) (c : UInt8) : decide (idxB s c.toNat ≥ 0) = decide (c ∈ s) := by
  rcases idxB_cases s c with ⟨h, hn⟩ | ⟨i, h, hi, _⟩
  · rw [h]
    have : ¬ c ∈ s := fun hm => by
      obtain ⟨j, hj⟩ := List.mem_iff_getElem?.1 hm
      exact hn j c hj rfl
    simp [this]
  · rw [h]
    have := List.mem_of_getElem? hi
    simp [this]
/-! ### Is a byte, as a text, in a text? -/
theorem bytesV_one (c : UInt8) : [Value.int .u8 (c.toNat : Int)] = bytesV [c] := rfl
theorem bytesV_inj {a b : List UInt8} (h : bytesV a = bytesV b) : a = b := by
  unfold bytesV at h
  induction a generalizing b with
  | nil => cases b with
    | nil => rfl
    | cons y t => cases h
  | cons x r ih => cases b with
    | nil => cases h
    | cons y t =>
      simp only [List.map_cons, List.cons.injEq, Value.int.injEq, true_and] at h
      rw [ih h.2]
      congr 1
      exact UInt8.toNat_inj.1 (by omega)

theorem slIndex1_is (s : List UInt8) (c : UInt8) (M : Mem) (K : Value → Prop) (h : ∀ z : Int, decide (z ≥ 0) = decide (c ∈ s) → (z = idxB s c.toNat) → K (.int .i64 z)) : S_internal_stringslite_Index s [c] M K := by
  have j1 : ∀ b : Bool, b = ((mkS [c]).toList == (mkS s).toList) → S_internal_stringslite_Index_J1 s [c] M b K := by
    intro b hb
    refine ⟨fun e => ?_, fun e => ⟨fun _ => ⟨c, by omega, rfl, ?_⟩, fun h => absurd rfl h⟩⟩
    · rw [e] at hb
      have : [c] = s := mkS_beq.1 hb.symm
      subst this
      refine h 0 (by simp) ?_
      rcases idxB_cases [c] c with ⟨_, hn⟩ | ⟨i, h1, hi, _⟩
      · exact absurd rfl (hn 0 c rfl)
      · have := (List.getElem?_eq_some_iff.1 hi).1
        simp at this
        subst this
        rw [h1]; rfl
    · exact s_internal_stringslite_IndexByte _ _ _ _ (slIndexByte_is s c _ _ ⟨_, rfl, h _ (idxB_mem s c) rfl⟩)
  exact ⟨fun h => by simp at h, fun _ => j1 _ rfl⟩
theorem index1_is (s : List UInt8) (c : UInt8) (M : Mem) (K : Value → Prop) (h : ∀ z : Int, decide (z ≥ 0) = decide (c ∈ s) → (z = idxB s c.toNat) → K (.int .i64 z)) : S_strings_Index s [c] M K :=
  s_internal_stringslite_Index _ _ _ _ (slIndex1_is s c _ _ fun z hz hz2 => ⟨_, rfl, h z hz hz2⟩)
theorem contains1_is (s : List UInt8) (c : UInt8) (M : Mem) (K : Value → Prop) (h : K (.bool (decide (c ∈ s)))) : S_strings_Contains s [c] M K :=
  s_strings_Index _ _ _ _ (index1_is s c _ _ fun z hz _ => ⟨_, rfl, by rw [hz]; exact h⟩)
/-! ### Bytes as text -/

abbrev hexL : List UInt8 := [48, 49, 50, 51, 52, 53, 54, 55, 56, 57, 97, 98, 99, 100, 101, 102]
def hexC (n : Nat) : UInt8 := hexL.getD n 0
/-- A byte as text; low: the least that stands as it is. -/
def shownP (signs : List UInt8) (low : Nat) (b : UInt8) : List UInt8 :=
  if b.toNat = 10 then [92, 110] else if b.toNat = 9 then [92, 116] else if b.toNat < low ∨ b.toNat > 126 then [92, 120, hexC (b.toNat / 16), hexC (b.toNat % 16)] else if b ∈ signs then [92, b] else [b]
theorem shownP_len (signs : List UInt8) (low : Nat) (b : UInt8) : (shownP signs low b).length ≤ 4 := by
  unfold shownP
  split
  · simp
  · split
    · simp
    · split
      · simp
      · split <;> simp

theorem hex_cut : ∀ n : Nat, n < 16 → (hexL.take (n + 1)).drop n = [hexC n] := by decide

theorem hi4 : ∀ n : Nat, n < 256 → bShr .u8 (n : Int) 4 = ((n / 16 : Nat) : Int) ∧ bAnd .u8 (n : Int) 15 = ((n % 16 : Nat) : Int) ∧ IntKind.wrap .u8 (((n / 16 : Nat) : Int) + 1) = ((n / 16 + 1 : Nat) : Int) ∧ IntKind.wrap .u8 (((n % 16 : Nat) : Int) + 1) = ((n % 16 + 1 : Nat) : Int) := by decide +kernel

theorem qone_is (b : UInt8) (signs : List UInt8) (M : Mem) (K : Value → Prop) (low : Nat) (hlow : low = if signs = [39, 92] then 32 else 33) (h : K (.string (mkS (shownP signs low b)))) : S_quote_one (b.toNat : Int) signs M K := by
  have hb := b.toNat_lt
  obtain ⟨e1, e2, e3, e4⟩ := hi4 b.toNat hb
  have q16 : b.toNat / 16 < 16 := by omega
  have r16 : b.toNat % 16 < 16 := by omega
  have j1 : ∀ v : Bool, b.toNat ≠ 10 → b.toNat ≠ 9 → v = decide (b.toNat < low ∨ b.toNat > 126) → S_quote_one_J1 (b.toNat : Int) signs M v K := by
    intro v n10 n9 hv
    unfold S_quote_one_J1
    rw [e1, e2, e3, e4]
    refine ⟨fun e => ?_, fun e => ?_⟩
    · have hc : b.toNat < low ∨ b.toNat > 126 := by rw [e] at hv; exact of_decide_eq_true hv.symm
      have t1 : (((b.toNat / 16 + 1 : Nat) : Int)).toNat = b.toNat / 16 + 1 := by omega
      have t2 : (((b.toNat / 16 : Nat) : Int)).toNat = b.toNat / 16 := by omega
      have t3 : (((b.toNat % 16 + 1 : Nat) : Int)).toNat = b.toNat % 16 + 1 := by omega
      have t4 : (((b.toNat % 16 : Nat) : Int)).toNat = b.toNat % 16 := by omega
      have c1 := hex_cut _ q16
      have c2 := hex_cut _ r16
      rw [t1, t2, t3, t4, c1, c2]
      refine ⟨by omega, by omega, by simp; omega, by simp, by omega, by omega, by simp; omega, by simp, ?_⟩
      have : shownP signs low b = [92, 120, hexC (b.toNat / 16), hexC (b.toNat % 16)] := by unfold shownP; rw [if_neg n10, if_neg n9, if_pos hc]
      rw [this] at h; exact h
    · have hc : ¬ (b.toNat < low ∨ b.toNat > 126) := fun q => e (by rw [hv]; exact decide_eq_true q)
      have hs : shownP signs low b = if b ∈ signs then [92, b] else [b] := by unfold shownP; rw [if_neg n10, if_neg n9, if_neg hc]
      refine s_strings_IndexByte _ _ _ _ (indexByte_is signs b _ _ ⟨_, rfl, fun hi => ⟨[b], rfl, by simp, ?_⟩, fun hi => ⟨[b], rfl, ?_⟩⟩)
      · have hm := idxB_mem signs b
        rw [decide_eq_true hi] at hm
        rw [hs, if_pos (of_decide_eq_true hm.symm)] at h; exact h
      · have hm := idxB_mem signs b
        rw [decide_eq_false hi] at hm
        rw [hs, if_neg (of_decide_eq_false hm.symm)] at h; exact h
  unfold S_quote_one
  refine ⟨fun q => ?_, fun n10 => ⟨fun q => ?_, fun n9 => ?_⟩⟩
  · have : shownP signs low b = [92, 110] := by unfold shownP; rw [if_pos (by omega)]
    rw [this] at h; exact h
  · have : shownP signs low b = [92, 116] := by unfold shownP; rw [if_neg (by omega), if_pos (by omega)]
    rw [this] at h; exact h
  have n10' : b.toNat ≠ 10 := by omega
  have n9' : b.toNat ≠ 9 := by omega
  refine ⟨fun h32 => ⟨fun hne => j1 _ n10' n9' ?_, fun he => ⟨fun hs => j1 _ n10' n9' ?_, fun hs => j1 _ n10' n9' ?_⟩⟩, fun h32 => j1 _ n10' n9' ?_⟩
  · rw [eq_comm, decide_eq_true_iff]
    left; rw [hlow]; split <;> omega
  · rw [eq_comm, decide_eq_true_iff]
    left; rw [hlow, if_neg hs]; omega
  · have hs : signs = [39, 92] := by simpa using hs
    rw [hlow, if_pos hs, Bool.eq_iff_iff]; simp; omega
  · rw [hlow, Bool.eq_iff_iff]; split <;> simp <;> omega

/-! The byte that is said at the beginning of a text, and by how many. -/

def hexV (c : UInt8) : Int := idxB hexL c.toNat
theorem hexV_lt (c : UInt8) : hexV c ≤ 15 := by
  unfold hexV
  rcases idxB_cases hexL c with ⟨h, _⟩ | ⟨i, h, hi, _⟩
  · rw [h]; omega
  · have := (List.getElem?_eq_some_iff.1 hi).1
    simp at this
    rw [h]; omega
theorem hexV_ge (c : UInt8) : -1 ≤ hexV c := by
  unfold hexV
  rcases idxB_cases hexL c with ⟨h, _⟩ | ⟨i, h, hi, _⟩ <;> rw [h] <;> omega
theorem hex_add : ∀ a : Nat, a < 16 → ∀ b : Nat, b < 16 → IntKind.wrap .u8 (bOr .i64 (bShl .i64 (a : Int) 4) (b : Int)) = ((16 * a + b : Nat) : Int) := by decide +kernel

def saidP (signs : List UInt8) (s : List UInt8) : Int × Int :=
  match s with
  | [] => (0, 0)
  | c :: r => if c.toNat = 10 then (0, 0) else if c.toNat ≠ 92 then (c.toNat, 1) else match r with
    | [] => (0, 0)
    | d :: t => if d.toNat = 110 then (10, 2) else if d.toNat = 116 then (9, 2) else if d ∈ signs then (d.toNat, 2) else if d.toNat = 120 then (match t with
      | a :: b :: _ => if hexV a ≥ 0 ∧ hexV b ≥ 0 then (16 * hexV a + hexV b, 4) else (0, 0)
      | _ => (0, 0)) else (0, 0)

theorem saidP_cons (signs : List UInt8) (c : UInt8) (r : List UInt8) : saidP signs (c :: r) = if c.toNat = 10 then ((0, 0) : Int × Int) else if c.toNat ≠ 92 then ((c.toNat : Int), 1) else match r with
    | [] => (0, 0)
    | d :: t => if d.toNat = 110 then (10, 2) else if d.toNat = 116 then (9, 2) else if d ∈ signs then (d.toNat, 2) else if d.toNat = 120 then (match t with
      | a :: b :: _ => if hexV a ≥ 0 ∧ hexV b ≥ 0 then (16 * hexV a + hexV b, 4) else (0, 0)
      | _ => (0, 0)) else (0, 0) := rfl

theorem saidP_two (signs : List UInt8) (c d : UInt8) (t : List UInt8) (h : c.toNat = 92) : saidP signs (c :: d :: t) = if d.toNat = 110 then ((10, 2) : Int × Int) else if d.toNat = 116 then (9, 2) else if d ∈ signs then ((d.toNat : Int), 2) else if d.toNat = 120 then (match t with
      | a :: b :: _ => if hexV a ≥ 0 ∧ hexV b ≥ 0 then (16 * hexV a + hexV b, 4) else (0, 0)
      | _ => (0, 0)) else (0, 0) := by
  have := saidP_cons signs c (d :: t)
  rw [if_neg (show ¬ c.toNat = 10 by omega), if_neg (show ¬ c.toNat ≠ 92 by omega)] at this
  exact this

theorem saidP_ok (signs s : List UInt8) : 0 ≤ (saidP signs s).1 ∧ (saidP signs s).1 < 256 ∧ 0 ≤ (saidP signs s).2 ∧ (saidP signs s).2 ≤ s.length ∧ (saidP signs s).2 ≤ 4 := by
  unfold saidP
  split
  · simp
  · rename_i c r
    have hc := c.toNat_lt
    split
    · simp; omega
    split
    · simp only [List.length_cons]; omega
    split
    · simp only [List.length_cons, List.length_nil]; omega
    · rename_i d t
      have hd := d.toNat_lt
      split
      · simp only [List.length_cons]; omega
      split
      · simp only [List.length_cons]; omega
      split
      · simp only [List.length_cons]; omega
      split
      · split
        · rename_i a b _
          have := hexV_lt a
          have := hexV_lt b
          split
          · simp only [List.length_cons]; omega
          · simp only [List.length_cons]; omega
        · simp only [List.length_cons]; omega
      · simp only [List.length_cons]; omega

theorem qnext_is (s signs : List UInt8) (hne : s ≠ []) (hs : (120 : UInt8) ∉ signs) (M : Mem) (K : Value → Prop) (h : K (.tuple #[.int .u8 (saidP signs s).1, .int .i64 (saidP signs s).2])) : S_quote_next s signs M K := by
  have key : ∀ p : Int × Int, p = saidP signs s → K (.tuple #[.int .u8 p.1, .int .i64 p.2]) := fun p e => e ▸ h
  obtain ⟨c, r, rfl⟩ := List.exists_cons_of_ne_nil hne
  unfold S_quote_next
  refine ⟨c, by omega, rfl, fun n92 => ⟨c, by omega, rfl, fun h10 => key (0, 0) ?_, fun n10 => ⟨c, by omega, rfl, key (c.toNat, 1) ?_⟩⟩, fun h92 => ⟨fun hl => key (0, 0) ?_, fun hl => ?_⟩⟩
  · rw [saidP_cons, if_pos (by omega)]
  · rw [saidP_cons, if_neg (by omega), if_pos (by omega)]
  · have : r = [] := by cases r with
      | nil => rfl
      | cons _ _ => simp only [List.length_cons] at hl; omega
    subst this
    rw [saidP_cons]
    simp only [if_neg (show ¬ c.toNat = 10 by omega), if_neg (show ¬ c.toNat ≠ 92 by omega)]
  obtain ⟨d, t, rfl⟩ : ∃ d t, r = d :: t := by
    cases r with
    | nil => simp only [List.length_cons, List.length_nil] at hl; omega
    | cons d t => exact ⟨d, t, rfl⟩
  have hP := saidP_two signs c d t (by omega)
  refine ⟨d, by omega, rfl, fun q => key (10, 2) ?_, fun n110 => ⟨fun q => key (9, 2) ?_, fun n116 => ?_⟩⟩
  · rw [hP, if_pos (by omega)]
  · rw [hP, if_neg (by omega), if_pos (by omega)]
  rw [if_neg (by omega), if_neg (by omega)] at hP
  have hm := idxB_mem signs d
  refine s_strings_IndexByte _ _ _ _ (indexByte_is signs d _ _ ⟨_, rfl, fun hi => key (d.toNat, 2) ?_, fun hi => ?_⟩)
  · rw [decide_eq_true hi] at hm
    rw [hP, if_pos (of_decide_eq_true hm.symm)]
  rw [decide_eq_false hi] at hm
  rw [if_neg (of_decide_eq_false hm.symm)] at hP
  have j1 : ∀ b : Bool, b = decide (d.toNat = 120 ∧ 2 ≤ t.length) → S_quote_next_J1 (c :: d :: t) M b K := by
    intro b hb
    refine ⟨fun e => ?_, fun e => key (0, 0) ?_⟩
    · obtain ⟨h120, h2⟩ : d.toNat = 120 ∧ 2 ≤ t.length := by rw [e] at hb; exact of_decide_eq_true hb.symm
      obtain ⟨x, y, u, rfl⟩ : ∃ x y u, t = x :: y :: u := by
        match t, h2 with
        | x :: y :: u, _ => exact ⟨x, y, u, rfl⟩
      rw [if_pos h120] at hP
      simp only at hP
      refine ⟨x, by omega, rfl, y, by omega, rfl, s_strings_IndexByte _ _ _ _ (indexByte_is hexL x _ _ ⟨_, rfl, s_strings_IndexByte _ _ _ _ (indexByte_is hexL y _ _ ⟨_, rfl, ?_⟩)⟩)⟩
      have hx1 := hexV_lt x
      have hy1 := hexV_lt y
      have j2 : ∀ b : Bool, b = decide (hexV x ≥ 0 ∧ hexV y ≥ 0) → S_quote_next_J2 (hexV x) (hexV y) b K := by
        intro b hb
        refine ⟨fun e => ?_, fun e => key (0, 0) ?_⟩
        · have hq : hexV x ≥ 0 ∧ hexV y ≥ 0 := by rw [e] at hb; exact of_decide_eq_true hb.symm
          rw [if_pos hq] at hP
          have := hex_add (hexV x).toNat (by omega) (hexV y).toNat (by omega)
          rw [show (((hexV x).toNat : Nat) : Int) = hexV x by omega, show (((hexV y).toNat : Nat) : Int) = hexV y by omega] at this
          rw [this]
          have e2 : ((16 * (hexV x).toNat + (hexV y).toNat : Nat) : Int) = 16 * hexV x + hexV y := by omega
          rw [e2]
          exact key (16 * hexV x + hexV y, 4) hP.symm
        · have hq : ¬ (hexV x ≥ 0 ∧ hexV y ≥ 0) := fun q => e (by rw [hb]; exact decide_eq_true q)
          rw [if_neg hq] at hP; exact hP.symm
      refine ⟨fun h1 => j2 _ ?_, fun h1 => j2 _ ?_⟩
      · have h1 : hexV x ≥ 0 := h1
        have e3 : idxB hexL y.toNat = hexV y := rfl
        rw [e3, Bool.eq_iff_iff]; simp; omega
      · rw [eq_comm, decide_eq_false_iff_not]; exact fun q => h1 q.1
    · have hq : ¬ (d.toNat = 120 ∧ 2 ≤ t.length) := fun q => e (by rw [hb]; exact decide_eq_true q)
      by_cases h120 : d.toNat = 120
      · rw [if_pos h120] at hP
        rcases t with _ | ⟨x, _ | ⟨y, u⟩⟩
        · exact hP.symm
        · exact hP.symm
        · exact absurd ⟨h120, by simp⟩ hq
      · rw [if_neg h120] at hP; exact hP.symm
  refine ⟨fun q => j1 _ (by rw [Bool.eq_iff_iff]; simp; omega), fun q => j1 _ (by rw [eq_comm, decide_eq_false_iff_not]; omega)⟩
/-! ### The reference's -/

theorem digit_is (n : Nat) (hn : n < 16) (M : Mem) (K : Value → Prop) (h : K (.string (mkS [hexC n]))) : S_chaffref_digit (n : Int) M K := by
  unfold S_chaffref_digit
  have t1 : ((n : Int) + 1).toNat = n + 1 := by omega
  have t2 : ((n : Int)).toNat = n := by omega
  rw [t1, t2, hex_cut n hn]
  exact ⟨by unfold InI; omega, by omega, by omega, by simp; omega, h⟩

theorem value_is (c : UInt8) (M : Mem) (K : Value → Prop) (h : K (.int .i64 (hexV c))) : S_chaffref_value (c.toNat : Int) M K :=
  ⟨[c], rfl, s_strings_Index _ _ _ _ (index1_is hexL c _ _ fun z _ hz => ⟨_, rfl, by rw [hz]; exact h⟩)⟩

theorem wrapB (b : UInt8) : IntKind.wrap .u8 (b.toNat : Int) = (b.toNat : Int) := by
  have := b.toNat_lt
  simp only [IntKind.wrap, IntKind.bits, IntKind.signed, Bool.false_and, Bool.false_eq_true, if_false]
  omega
theorem wrapI (b : UInt8) : IntKind.wrap .i64 (b.toNat : Int) = (b.toNat : Int) := wrap_in (by have := b.toNat_lt; unfold InI; omega)

theorem shown_is (b : UInt8) (signs : List UInt8) (low : Nat) (M : Mem) (K : Value → Prop) (h : K (.string (mkS (shownP signs low b)))) : S_chaffref_shown (b.toNat : Int) signs low M K := by
  have hb := b.toNat_lt
  have j1 : ∀ v : Bool, b.toNat ≠ 10 → b.toNat ≠ 9 → v = decide (b.toNat < low ∨ b.toNat > 126) → S_chaffref_shown_J1 (b.toNat : Int) signs M v K := by
    intro v n10 n9 hv
    have e1 : (b.toNat : Int).tdiv 16 = ((b.toNat / 16 : Nat) : Int) := by rw [Int.tdiv_eq_ediv_of_nonneg (by omega)]; omega
    have e2 : (b.toNat : Int).tmod 16 = ((b.toNat % 16 : Nat) : Int) := by rw [Int.tmod_eq_emod_of_nonneg (by omega)]; omega
    unfold S_chaffref_shown_J1
    rw [e1, e2, wrapB]
    refine ⟨fun e => ?_, fun e => ?_⟩
    · have hc : b.toNat < low ∨ b.toNat > 126 := by rw [e] at hv; exact of_decide_eq_true hv.symm
      refine ⟨by unfold InI; omega, s_chaffref_digit _ _ _ (digit_is _ (by omega) _ _ ⟨_, rfl, by simp, s_chaffref_digit _ _ _ (digit_is _ (by omega) _ _ ⟨_, rfl, by simp, ?_⟩)⟩)⟩
      have : shownP signs low b = [92, 120, hexC (b.toNat / 16), hexC (b.toNat % 16)] := by unfold shownP; rw [if_neg n10, if_neg n9, if_pos hc]
      rw [this] at h; exact h
    · have hc : ¬ (b.toNat < low ∨ b.toNat > 126) := fun q => e (by rw [hv]; exact decide_eq_true q)
      have hs : shownP signs low b = if b ∈ signs then [92, b] else [b] := by unfold shownP; rw [if_neg n10, if_neg n9, if_neg hc]
      refine ⟨[b], rfl, s_strings_Contains _ _ _ _ (contains1_is signs b _ _ ⟨_, rfl, fun hi => ⟨[b], rfl, by simp, ?_⟩, fun hi => ⟨[b], rfl, ?_⟩⟩)⟩
      · rw [hs, if_pos (of_decide_eq_true hi)] at h; exact h
      · have hi : decide (b ∈ signs) = false := by simpa using hi
        rw [hs, if_neg (of_decide_eq_false hi)] at h; exact h
  unfold S_chaffref_shown
  refine ⟨fun q => ?_, fun n10 => ⟨fun q => ?_, fun n9 => ⟨fun q => j1 _ (by omega) (by omega) ?_, fun q => j1 _ (by omega) (by omega) ?_⟩⟩⟩
  · have : shownP signs low b = [92, 110] := by unfold shownP; rw [if_pos (by omega)]
    rw [this] at h; exact h
  · have : shownP signs low b = [92, 116] := by unfold shownP; rw [if_neg (by omega), if_pos (by omega)]
    rw [this] at h; exact h
  · rw [eq_comm, decide_eq_true_iff]; left; omega
  · rw [Bool.eq_iff_iff]; simp; omega

theorem said_is (s signs : List UInt8) (hs : (120 : UInt8) ∉ signs ∧ (110 : UInt8) ∉ signs ∧ (116 : UInt8) ∉ signs) (ha : ∀ c ∈ signs, c.toNat < 128) (M : Mem) (K : Value → Prop) (h : K (.tuple #[.int .i64 (saidP signs s).1, .int .i64 (saidP signs s).2])) : S_chaffref_said s signs M K := by
  have key : ∀ p : Int × Int, p = saidP signs s → K (.tuple #[.int .i64 p.1, .int .i64 p.2]) := fun p e => e ▸ h
  have j1 : ∀ b : Bool, (b = true → saidP signs s = (0, 0)) → (b = false → ∃ c r, s = c :: r ∧ c.toNat ≠ 10) → S_chaffref_said_J1 s signs M b K := by
    intro b h1 h2
    refine ⟨fun e => key (0, 0) (h1 e).symm, fun e => ?_⟩
    obtain ⟨c, r, rfl, n10⟩ := h2 (by simpa using e)
    refine ⟨c, by omega, rfl, fun n92 => ⟨c, by omega, rfl, ?_⟩, fun h92 => ⟨fun hl => key (0, 0) ?_, fun hl => ?_⟩⟩
    · rw [wrapI]
      refine key (c.toNat, 1) ?_
      rw [saidP_cons, if_neg n10, if_pos (by omega)]
    · have : r = [] := by cases r with
        | nil => rfl
        | cons _ _ => simp only [List.length_cons] at hl; omega
      subst this
      rw [saidP_cons]
      simp only [if_neg n10, if_neg (show ¬ c.toNat ≠ 92 by omega)]
    obtain ⟨d, t, rfl⟩ : ∃ d t, r = d :: t := by
      cases r with
      | nil => simp only [List.length_cons, List.length_nil] at hl; omega
      | cons d t => exact ⟨d, t, rfl⟩
    have hP := saidP_two signs c d t (by omega)
    refine ⟨d, by omega, rfl, fun q => key (10, 2) ?_, fun n110 => ⟨d, by omega, rfl, fun q => key (9, 2) ?_, fun n116 => ⟨d, by omega, rfl, fun q => ?_, fun n120 => ?_⟩⟩⟩
    · rw [hP, if_pos (by omega)]
    · rw [hP, if_neg (by omega), if_pos (by omega)]
    · have hd : d = 120 := UInt8.toNat_inj.1 (by show d.toNat = 120; omega)
      have hnm : d ∉ signs := by rw [hd]; exact hs.1
      rw [if_neg (by omega), if_neg (by omega), if_neg hnm, if_pos (by omega)] at hP
      have j2t : saidP signs (c :: d :: t) = (0, 0) → S_chaffref_said_J2 (c :: d :: t) M true K := fun e => ⟨fun _ => key (0, 0) e.symm, fun h => absurd rfl h⟩
      refine ⟨fun hl2 => j2t ?_, fun hl2 => ?_⟩
      · rcases t with _ | ⟨x, _ | ⟨y, u⟩⟩
        · exact hP
        · exact hP
        · simp only [List.length_cons] at hl2; omega
      obtain ⟨x, y, u, rfl⟩ : ∃ x y u, t = x :: y :: u := by
        rcases t with _ | ⟨x, _ | ⟨y, u⟩⟩
        · simp only [List.length_cons, List.length_nil] at hl2; omega
        · simp only [List.length_cons, List.length_nil] at hl2; omega
        · exact ⟨x, y, u, rfl⟩
      simp only at hP
      have hx1 := hexV_lt x
      have hy1 := hexV_lt y
      have hx2 := hexV_ge x
      have hy2 := hexV_ge y
      refine ⟨x, by omega, rfl, s_chaffref_value _ _ _ (value_is x _ _ ⟨_, rfl, fun hx => j2t ?_, fun hx => ⟨y, by omega, rfl, s_chaffref_value _ _ _ (value_is y _ _ ⟨_, rfl, ?_⟩)⟩⟩)⟩
      · rw [hP, if_neg (by omega)]
      · refine ⟨fun e => ?_, fun e => ⟨x, by omega, rfl, y, by omega, rfl, s_chaffref_value _ _ _ (value_is x _ _ ⟨_, rfl, by unfold InI; omega, s_chaffref_value _ _ _ (value_is y _ _ ⟨_, rfl, by unfold InI; omega, key (16 * hexV x + hexV y, 4) ?_⟩)⟩)⟩⟩
        · have : hexV y < 0 := of_decide_eq_true e
          refine key (0, 0) ?_
          rw [hP, if_neg (by omega)]
        · have : ¬ hexV y < 0 := fun q => e (decide_eq_true q)
          rw [hP, if_pos (by omega)]
    · rw [if_neg (by omega), if_neg (by omega), if_neg (show ¬ d.toNat = 120 by omega)] at hP
      have ecut : (((c :: d :: t).take (2 : Int).toNat).drop (1 : Int).toNat) = [d] := rfl
      rw [ecut]
      refine ⟨by omega, by omega, by simp only [List.length_cons]; omega, s_strings_Contains _ _ _ _ (contains1_is signs d _ _ ⟨_, rfl, fun hi => ⟨d, by omega, rfl, ?_⟩, fun hi => ?_⟩)⟩
      · have hm : d ∈ signs := of_decide_eq_true hi
        have := ha d hm
        refine ⟨fun _ => ⟨d, by omega, rfl, ?_⟩, fun h => absurd (decide_eq_true (by omega)) h⟩
        rw [wrapI]
        exact key (d.toNat, 2) (by rw [hP, if_pos hm])
      · have hi : decide (d ∈ signs) = false := by simpa using hi
        refine ⟨fun h => (by cases h), fun _ => key (0, 0) ?_⟩
        rw [hP, if_neg (of_decide_eq_false hi)]
  refine ⟨fun e => j1 _ (fun _ => by subst e; rfl) (fun h => by cases h), fun hne => ?_⟩
  obtain ⟨c, r, rfl⟩ := List.exists_cons_of_ne_nil hne
  refine ⟨c, by omega, rfl, j1 _ (fun hb => ?_) (fun hb => ⟨c, r, rfl, ?_⟩)⟩
  · have : (c.toNat : Int) = 10 := by simpa using hb
    rw [saidP_cons, if_pos (by omega)]
  · have : ¬ (c.toNat : Int) = 10 := by simpa using hb
    omega
/-! ### Literals -/

def litP (s : List UInt8) : List UInt8 := [39] ++ s.flatMap (shownP [39, 92] 32) ++ [39]
theorem flat4 (signs : List UInt8) (low : Nat) : ∀ s : List UInt8, (s.flatMap (shownP signs low)).length ≤ 4 * s.length
  | [] => by simp
  | c :: r => by
    have h1 := shownP_len signs low c
    have h2 := flat4 signs low r
    rw [List.flatMap_cons, List.length_append, List.length_cons]
    omega
theorem flat_take {s : List UInt8} {i : Nat} {c : UInt8} (f : UInt8 → List UInt8) (h : s[i]? = some c) : (s.take (i + 1)).flatMap f = (s.take i).flatMap f ++ f c := by
  rw [take_get h, List.flatMap_append]; simp

theorem qlit_is (s : List UInt8) (hl : s.length ≤ 140737488355328) (M : Mem) (K : Value → Prop) (h : K (.string (mkS (litP s)))) : S_quote_Lit s M K := by
  unfold S_quote_Lit
  refine ⟨fun out i => 0 ≤ i ∧ i ≤ s.length ∧ out = [39] ++ (s.take i.toNat).flatMap (shownP [39, 92] 32), fun _ i => s.length - i.toNat, ⟨by omega, by omega, by simp⟩, ?_⟩
  rintro out i ⟨h0, h1, rfl⟩
  have hlen := flat4 [39, 92] 32 (s.take i.toNat)
  have htl : (s.take i.toNat).length ≤ s.length := by rw [List.length_take]; omega
  refine ⟨fun hlt => ?_, fun hge => ⟨?_, ?_⟩⟩
  · obtain ⟨c, hc⟩ := getI h0 hlt
    have := shownP_len [39, 92] 32 c
    refine ⟨c, h0, hc, s_quote_one _ _ _ _ (qone_is c [39, 92] _ _ 32 rfl ⟨_, rfl, ?_, by unfold InI; omega, ⟨by omega, by omega, ?_⟩, by dsimp only; omega⟩)⟩
    · simp only [List.length_append, List.length_cons, List.length_nil]; omega
    · rw [show (i + 1).toNat = i.toNat + 1 by omega, flat_take _ hc, List.append_assoc]
  · simp only [List.length_append, List.length_cons, List.length_nil]; omega
  · have : i.toNat = s.length := by omega
    rw [this, List.take_length]; exact h

theorem rlit_is (s : List UInt8) (hl : s.length ≤ 140737488355328) (M : Mem) (K : Value → Prop) (h : K (.string (mkS (litP s)))) : S_chaffref_Lit s M K := by
  unfold S_chaffref_Lit
  refine ⟨fun out i => 0 ≤ i ∧ i ≤ s.length ∧ out = [39] ++ (s.take i.toNat).flatMap (shownP [39, 92] 32), fun _ i => s.length - i.toNat, ⟨by omega, by omega, by simp⟩, ?_⟩
  rintro out i ⟨h0, h1, rfl⟩
  have hlen := flat4 [39, 92] 32 (s.take i.toNat)
  have htl : (s.take i.toNat).length ≤ s.length := by rw [List.length_take]; omega
  refine ⟨fun hlt => ?_, fun hge => ⟨?_, ?_⟩⟩
  · obtain ⟨c, hc⟩ := getI h0 hlt
    have := shownP_len [39, 92] 32 c
    refine ⟨c, h0, hc, ?_⟩
    rw [wrapI]
    refine s_chaffref_shown _ _ _ _ _ (shown_is c [39, 92] 32 _ _ ⟨_, rfl, ?_, by unfold InI; omega, ⟨by omega, by omega, ?_⟩, by dsimp only; omega⟩)
    · simp only [List.length_append, List.length_cons, List.length_nil]; omega
    · rw [show (i + 1).toNat = i.toNat + 1 by omega, flat_take _ hc, List.append_assoc]
  · simp only [List.length_append, List.length_cons, List.length_nil]; omega
  · have : i.toNat = s.length := by omega
    rw [this, List.take_length]; exact h

/-- What is left of a literal: its text, where it ends, the error. -/
def unlG (q : UInt8) (r : List UInt8) (i : Int) (out : List UInt8) : List UInt8 × Int × Int :=
  match r with
  | [] => ([], 0, 4)
  | c :: t => if c = q then (out, i + 1, 0) else if (saidP [39, 34, 92] (c :: t)).2 = 0 then ([], 0, 4)
    else unlG q ((c :: t).drop ((saidP [39, 34, 92] (c :: t)).2.toNat - 1 + 1)) (i + (saidP [39, 34, 92] (c :: t)).2) (out ++ [(saidP [39, 34, 92] (c :: t)).1.toNat.toUInt8])
termination_by r.length
decreasing_by simp only [List.length_drop, List.length_cons]; omega

def unlitP (s : List UInt8) : List UInt8 × Int × Int :=
  match s with
  | [] => ([], 0, 4)
  | q :: r => if q.toNat ≠ 39 ∧ q.toNat ≠ 34 then ([], 0, 4) else unlG q r 1 []

theorem unlitP_cons (q : UInt8) (r : List UInt8) : unlitP (q :: r) = if q.toNat ≠ 39 ∧ q.toNat ≠ 34 then (([] : List UInt8), (0 : Int), (4 : Int)) else unlG q r 1 [] := rfl
theorem said_perm (s : List UInt8) : saidP [92, 39, 34] s = saidP [39, 34, 92] s := by
  unfold saidP
  have : ∀ d : UInt8, (d ∈ [92, 39, 34]) = (d ∈ [39, 34, 92]) := fun d => by simp only [List.mem_cons, List.not_mem_nil, or_false]; exact propext ⟨fun h => by rcases h with h | h | h <;> simp [h], fun h => by rcases h with h | h | h <;> simp [h]⟩
  split
  · rfl
  · split
    · rfl
    · split
      · rfl
      · split
        · rfl
        · simp only [this]

def outT (r : List UInt8 × Int × Int) : Value := .tuple #[.string (mkS r.1), .int .i64 r.2.1, .int .i64 r.2.2]

theorem take_all (s : List UInt8) : s.take ((s.length : Nat) : Int).toNat = s := by rw [Int.toNat_natCast, List.take_length]

theorem qunlit_is (s : List UInt8) (hl : s.length ≤ 140737488355328) (M : Mem) (K : Value → Prop) (h : K (outT (unlitP s))) : S_quote_Unlit s M K := by
  have j1 : ∀ b : Bool, (b = true → unlitP s = ([], 0, 4)) → (b = false → ∃ q r, s = q :: r ∧ ¬ (q.toNat ≠ 39 ∧ q.toNat ≠ 34)) → S_quote_Unlit_J1 s M b K := by
    intro b h1 h2
    refine ⟨fun e => by rw [h1 e] at h; exact h, fun e => ?_⟩
    obtain ⟨q, r, rfl, hq⟩ := h2 (by simpa using e)
    have hU : unlitP (q :: r) = unlG q r 1 [] := by rw [unlitP_cons, if_neg hq]
    rw [hU] at h
    have hl0 : (q :: r).length = r.length + 1 := rfl
    refine ⟨fun i n rx => ∃ out : List UInt8, 1 ≤ i ∧ i ≤ (q :: r).length ∧ n = out.length ∧ rx = bytesV out ∧ (out.length : Int) ≤ i ∧ unlG q ((q :: r).drop i.toNat) i out = unlG q r 1 [], fun i _ _ => (q :: r).length - i.toNat, ⟨[], by omega, by omega, rfl, rfl, by simp, rfl⟩, ?_⟩
    rintro i n rx ⟨out, h0, hi, rfl, rfl, hol, hrun⟩
    refine ⟨fun hlt => ?_, fun hge => ?_⟩
    · obtain ⟨c, hc⟩ := getI (l := q :: r) (by omega) hlt
      rw [drop_get hc, unlG] at hrun
      refine ⟨c, by omega, hc, q, by omega, rfl, fun e => ⟨out, rfl, by unfold InI; omega, ?_⟩, fun hne => ⟨by omega, by omega, by omega, ?_⟩⟩
      · rw [if_pos (UInt8.toNat_inj.1 (by omega))] at hrun
        rw [← hrun] at h; exact h
      · have hne' : ¬ c = q := fun e => hne (by rw [e])
        rw [if_neg hne'] at hrun
        rw [take_all]
        have hdr := drop_get hc
        have hok := saidP_ok [39, 34, 92] ((q :: r).drop i.toNat)
        rw [List.length_drop] at hok
        rw [← hdr] at hrun
        refine s_quote_next _ _ _ _ (qnext_is _ [39, 34, 92] (by rw [hdr]; simp) (by decide) _ _ ⟨_, _, rfl, fun hz => ?_, fun hz => ⟨by omega, by unfold InI; omega, ⟨out ++ [(saidP [39, 34, 92] ((q :: r).drop i.toNat)).1.toNat.toUInt8], by omega, by omega, by simp, ?_, ?_, ?_⟩, by dsimp only; omega⟩⟩)
        · rw [if_pos hz] at hrun
          rw [← hrun] at h; exact h
        · have hb : (((saidP [39, 34, 92] ((q :: r).drop i.toNat)).1.toNat.toUInt8.toNat : Nat) : Int) = (saidP [39, 34, 92] ((q :: r).drop i.toNat)).1 := by
            rw [Nat.toUInt8, UInt8.toNat_ofNat']
            omega
          show bytesV out ++ [Value.int .u8 _] = bytesV (out ++ [_])
          unfold bytesV
          rw [List.map_append, List.map_singleton, hb]
        · simp only [List.length_append, List.length_cons, List.length_nil]; omega
        · rw [if_neg hz] at hrun
          rw [List.drop_drop] at hrun
          rw [← hrun]
          congr 2
          omega
    · have : i.toNat = (q :: r).length := by omega
      rw [this, List.drop_length, unlG] at hrun
      rw [← hrun] at h; exact h
  refine ⟨fun e => j1 _ (fun _ => by subst e; rfl) (fun h => by cases h), fun hne => ?_⟩
  obtain ⟨q, r, rfl⟩ := List.exists_cons_of_ne_nil hne
  refine ⟨q, by omega, rfl, fun n39 => ⟨q, by omega, rfl, j1 _ (fun hb => ?_) (fun hb => ⟨q, r, rfl, ?_⟩)⟩, fun h39 => j1 _ (fun h => by cases h) (fun _ => ⟨q, r, rfl, by omega⟩)⟩
  · have : ¬ (q.toNat : Int) = 34 := by simpa using hb
    rw [unlitP_cons, if_pos ⟨by omega, by omega⟩]
  · have : (q.toNat : Int) = 34 := by simpa using hb
    omega

theorem runlit_is (s : List UInt8) (hl : s.length ≤ 140737488355328) (M : Mem) (K : Value → Prop) (h : K (outT (unlitP s))) : S_chaffref_Unlit s M K := by
  have j1 : ∀ b : Bool, (b = true → unlitP s = ([], 0, 4)) → (b = false → ∃ q r, s = q :: r ∧ ¬ (q.toNat ≠ 39 ∧ q.toNat ≠ 34)) → S_chaffref_Unlit_J1 s M b K := by
    intro b h1 h2
    refine ⟨fun e => by rw [h1 e] at h; exact h, fun e => ?_⟩
    obtain ⟨q, r, rfl, hq⟩ := h2 (by simpa using e)
    have hU : unlitP (q :: r) = unlG q r 1 [] := by rw [unlitP_cons, if_neg hq]
    rw [hU] at h
    have hl0 : (q :: r).length = r.length + 1 := rfl
    let I : List UInt8 → Int → Prop := fun out i => 1 ≤ i ∧ i ≤ (q :: r).length ∧ (out.length : Int) ≤ i ∧ unlG q ((q :: r).drop i.toNat) i out = unlG q r 1 []
    let mu : List UInt8 → Int → Nat := fun _ i => (q :: r).length - i.toNat
    refine ⟨I, mu, ⟨by omega, by omega, by simp, rfl⟩, ?_⟩
    rintro out i ⟨h0, hi, hol, hrun⟩
    have j2 : ∀ b : Bool, (b = true → ∃ c, (q :: r)[i.toNat]? = some c ∧ c ≠ q) → (b = false → (q :: r).length ≤ i.toNat ∨ (q :: r)[i.toNat]? = some q) → S_chaffref_Unlit_J2 (q :: r) M out i I mu b K := by
      intro b g1 g2
      refine ⟨fun e => ?_, fun e => ⟨fun hge => ?_, fun hlt => ⟨by unfold InI; omega, ?_⟩⟩⟩
      · obtain ⟨c, hc, hne⟩ := g1 e
        have hlt := (List.getElem?_eq_some_iff.1 hc).1
        have hdr := drop_get hc
        rw [hdr, unlG, if_neg hne, ← hdr] at hrun
        have hok := saidP_ok [39, 34, 92] ((q :: r).drop i.toNat)
        rw [List.length_drop] at hok
        rw [take_all]
        refine ⟨by omega, by omega, by omega, s_chaffref_said _ _ _ _ (said_is _ [92, 39, 34] (by decide) (by decide) _ _ ?_)⟩
        rw [said_perm]
        refine ⟨_, _, rfl, fun hz => ?_, fun hz => ⟨[(saidP [39, 34, 92] ((q :: r).drop i.toNat)).1.toNat.toUInt8], ?_, by simp only [List.length_cons, List.length_nil]; omega, by unfold InI; omega, ⟨by omega, by omega, by simp only [List.length_append, List.length_cons, List.length_nil]; omega, ?_⟩, by show (q :: r).length - _ < (q :: r).length - _; omega⟩⟩
        · rw [if_pos hz] at hrun
          rw [← hrun] at h; exact h
        · have hb : (((saidP [39, 34, 92] ((q :: r).drop i.toNat)).1.toNat.toUInt8.toNat : Nat) : Int) = (saidP [39, 34, 92] ((q :: r).drop i.toNat)).1 := by
            rw [Nat.toUInt8, UInt8.toNat_ofNat']
            omega
          have hw := wrapB (saidP [39, 34, 92] ((q :: r).drop i.toNat)).1.toNat.toUInt8
          rw [hb] at hw
          rw [hw, bytesV, List.map_singleton, hb]
        · rw [if_neg hz, List.drop_drop] at hrun
          rw [← hrun]
          congr 2
          omega
      · have : i.toNat = (q :: r).length := by omega
        rw [this, List.drop_length, unlG] at hrun
        rw [← hrun] at h; exact h
      · rcases g2 (by simpa using e) with hge | hc
        · omega
        · rw [drop_get hc, unlG, if_pos rfl] at hrun
          rw [← hrun] at h; exact h
    refine ⟨fun hlt => ?_, fun hge => j2 _ (fun h => by cases h) (fun _ => .inl (by omega))⟩
    obtain ⟨c, hc⟩ := getI (l := q :: r) (by omega) hlt
    refine ⟨c, by omega, hc, q, by omega, rfl, j2 _ (fun hb => ⟨c, hc, fun e => ?_⟩) (fun hb => .inr ?_)⟩
    · rw [e] at hb; simp at hb
    · have : (c.toNat : Int) = q.toNat := by simpa using hb
      rw [hc]; congr 1; exact UInt8.toNat_inj.1 (by omega)
  refine ⟨fun e => j1 _ (fun _ => by subst e; rfl) (fun h => by cases h), fun hne => ?_⟩
  obtain ⟨q, r, rfl⟩ := List.exists_cons_of_ne_nil hne
  refine ⟨q, by omega, rfl, fun n39 => ⟨q, by omega, rfl, j1 _ (fun hb => ?_) (fun hb => ⟨q, r, rfl, ?_⟩)⟩, fun h39 => j1 _ (fun h => by cases h) (fun _ => ⟨q, r, rfl, by omega⟩)⟩
  · have : ¬ (q.toNat : Int) = 34 := by simpa using hb
    rw [unlitP_cons, if_pos ⟨by omega, by omega⟩]
  · have : (q.toNat : Int) = 34 := by simpa using hb
    omega

theorem walk : WalkGoal := by
  intro H enc W s hs t ht
  refine s_chafflaw_QuoteLits _ _ _ _ ?_
  unfold S_chafflaw_QuoteLits
  refine s_quote_Unlit _ _ _ (qunlit_is t (by omega) _ _ ⟨_, _, _, rfl, ?_⟩)
  refine s_chaffref_Unlit _ _ _ (runlit_is t (by omega) _ _ ⟨_, _, _, rfl, ?_⟩)
  refine s_quote_Lit _ _ _ (qlit_is s (by omega) _ _ ⟨_, rfl, ?_⟩)
  refine s_chaffref_Lit _ _ _ (rlit_is s (by omega) _ _ ⟨_, rfl, ?_⟩)
  refine ⟨fun _ => ⟨fun _ => ⟨fun _ => by simp, fun h => absurd rfl h⟩, fun h => absurd rfl h⟩, fun h => absurd rfl h⟩

theorem holds : Rows.QuoteLitsSaid := top walk
#print axioms holds
end Go.Proofs.Ytdlfhmdojbejkaa.lawQuoteLits
