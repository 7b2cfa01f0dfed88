/- Contracts and what they hang on, of several parts. No condition. -/
import Derived.Test.YthljpajbcllhhaaAlphaG
import Derived.Test.YthljpajbcllhhaaM2
namespace Go.Proofs.Ythljpajbcllhhaa.core
open Go.Gx Go.RowKit Go.ChangeShapes Go.WideShapes Go.ChangeAt
set_option linter.unusedVariables false
theorem inI_big {z : Int} (h1 : -100000000 ≤ z) (h2 : z ≤ 100000000) : InI z := by unfold InI; omega
def by8 (l : List UInt8) (i : Nat) : UInt8 := (l[i]?).getD 0
def at8 (l : List UInt8) (i : Nat) : Nat := (by8 l i).toNat
def Asc (l : List UInt8) : Prop := ∀ i, i + 1 < l.length → at8 l i < at8 l (i + 1)
theorem at8_get {l : List UInt8} {i : Nat} (h : i < l.length) : l[i]? = some (by8 l i) := by
 unfold by8; rw [List.getElem?_eq_getElem h]; rfl
theorem at8_set {l : List UInt8} {i j : Nat} {x : UInt8} (hi : i < l.length) : at8 (l.set i x) j = if j = i then x.toNat else at8 l j := by
 unfold at8 by8
 rw [List.getElem?_set]
 by_cases h : j = i
 ·subst h; rw [if_pos rfl, if_pos hi, if_pos rfl]; rfl
 ·rw [if_neg (Ne.symm h), if_neg h]
structure RowB (M : Mem) (g c : Nat) (l : List UInt8) : Prop where
 len : l.length ≤ c
 max : c ≤ maxLen
 blk : ∃ cur t f, M g = some (.cells cur t f) ∧ cur.size = c ∧ (f = (0, 0) ∨ cur.size ≤ f.1) ∧ cur.toList.take l.length = bytesV l
def Kp (g : Nat) (M M' : Mem) : Prop := ∀ b o, b ≠ g → M b = some o → M' b = some o
section
variable {M M' : Mem} {g c : Nat} {l : List UInt8}
theorem bytes_at {i : Nat} (h : i < l.length) : (bytesV l)[i]? = some (.int .u8 ((at8 l i : Nat) : Int)) := by
 unfold bytesV at8
 rw [List.getElem?_map, at8_get h]; rfl
theorem RowB.at (h : RowB M g c l) {i : Nat} (hi : i < l.length) : At M g (0 + i * 1) [.int .u8 ((at8 l i : Nat) : Int)] := by
 obtain ⟨cur, t, f, h1, h2, _, h4⟩ := h.blk
 intro j v hj
 cases j with
 | succ j => simp at hj
 | zero =>
  simp only [List.getElem?_cons_zero, Option.some.injEq] at hj
  subst hj
  unfold Mem.cell
  rw [h1]
  have h5 := bytes_at hi
  rw [← h4, List.getElem?_take, if_pos hi] at h5
  simpa using h5
theorem RowB.has (h : RowB M g c l) {i k : Nat} (hi : i + k ≤ l.length) : HasM M g i k := by
 obtain ⟨cur, t, f, h1, h2, h3, _⟩ := h.blk
 have := h.len
 exact ⟨cur, t, f, h1, by omega, h3⟩
theorem RowB.put (h : RowB M g c l) {i : Nat} (hi : i < l.length) (x : UInt8) : RowB (M.put g (0 + i * 1) [.int .u8 (x.toNat : Int)]) g c (l.set i x) := by
 obtain ⟨cur, t, f, h1, h2, h3, h4⟩ := h.blk
 have hl := h.len
 have hsz : (putAt cur.toList (0 + i * 1) [Value.int .u8 (x.toNat : Int)]).toArray.size = cur.size := by
  simp only [List.size_toArray, putAt, List.length_append, List.length_take, List.length_drop, Array.length_toList, List.length_cons, List.length_nil]
  omega
 refine ⟨by rw [List.length_set]; exact hl, h.max, _, t, f, Mem.put_eq h1, by rw [hsz]; exact h2, by rw [hsz]; exact h3, ?_⟩
 rw [List.length_set]
 show (putAt cur.toList (0 + i * 1) [Value.int .u8 (x.toNat : Int)]).take l.length = _
 rw [take_putAt _ _ _ _ (by simp; omega) (by simp; omega), h4]
 have := putAt_map (fun c : UInt8 => Value.int .u8 (c.toNat : Int)) l (0 + i * 1) x (by omega)
 unfold bytesV
 rw [this]
 simp
theorem RowB.cut (h : RowB M g c l) {k : Nat} (hk : k ≤ l.length) (vs : List Value) (hv : k + vs.length ≤ l.length) : RowB (M.put g k vs) g c (l.take k) := by
 obtain ⟨cur, t, f, h1, h2, h3, h4⟩ := h.blk
 have hl := h.len
 have hsz : (putAt cur.toList k vs).toArray.size = cur.size := by
  simp only [List.size_toArray, putAt, List.length_append, List.length_take, List.length_drop, Array.length_toList]
  omega
 have hlk : (l.take k).length = k := by rw [List.length_take]; omega
 refine ⟨by omega, h.max, _, t, f, Mem.put_eq h1, by rw [hsz]; exact h2, by rw [hsz]; exact h3, ?_⟩
 rw [hlk]
 show (putAt cur.toList k vs).take k = _
 have e1 : bytesV (l.take k) = (bytesV l).take k := by unfold bytesV; rw [List.map_take]
 rw [e1, ← h4, List.take_take, Nat.min_eq_left hk]
 unfold putAt
 rw [List.append_assoc, List.take_append_of_le_length (by rw [List.length_take, Array.length_toList]; omega), List.take_take, Nat.min_self]
theorem RowB.le (h : RowB M g c l) (hl : M.le M') : RowB M' g c l := by
 obtain ⟨cur, t, f, h1, h2⟩ := h.blk
 exact ⟨h.len, h.max, cur, t, f, hl _ _ h1, h2⟩
theorem RowB.slv (h : RowB M g c l) : SlV M (some ⟨g, 0, none⟩) l.length c 1 (bytesV l) := by
 refine ⟨by simp [bytesV], h.len, h.max, fun _ => ⟨g, 0, rfl, fun j v hj => ?_⟩⟩
 have hjl : j < l.length := by have := (List.getElem?_eq_some_iff.1 hj).1; simpa [bytesV] using this
 have := h.at hjl 0 v (by rw [bytes_at hjl] at hj; simpa using hj)
 simpa using this
theorem Kp.put {k : Nat} {vs : List Value} (h : Kp g M M') : Kp g M (M'.put g k vs) := fun b o hb hm => by rw [Mem.put_ne hb]; exact h b o hb hm
theorem Kp.le {M2 : Mem} (h : Kp g M M') (hl : M'.le M2) : Kp g M M2 := fun b o hb hm => hl b o (h b o hb hm)
theorem less_is (x y : Int) (M : Mem) (K : Value → Prop) (hK : K (.bool (decide (x < y)))) : S_cmp_Less_byte x y M K := by
 unfold S_cmp_Less_byte
 refine s_cmp_isNaN_byte _ _ _ ?_
 unfold S_cmp_isNaN_byte
 exact ⟨_, rfl, fun h => by simp at h, fun _ => hK⟩
theorem isort_is {L : Nat → Prop} {K : Value → Mem → Prop} (hR : RowB M g c l) (h8 : l.length ≤ 8) (hL : Wr L M g)
  (hK : ∀ M' l', RowB M' g c l' → l'.length = l.length → (∀ i, i + 1 < l.length → at8 l' i ≤ at8 l' (i + 1)) → (Asc l → l' = l) → Kp g M M' → K (.tuple #[]) M') : S_slices_insertionSortOrdered_byte (some ⟨g, 0, none⟩) l.length c 0 ((l.length : Nat) : Int) M L K := by
 unfold S_slices_insertionSortOrdered_byte
 refine ⟨inI_big (by omega) (by omega), List UInt8, fun l' i M' => 1 ≤ i ∧ i ≤ 9 ∧ RowB M' g c l' ∧ l'.length = l.length ∧ (∀ k : Nat, (k : Int) + 1 < i → k + 1 < l.length → at8 l' k ≤ at8 l' (k + 1)) ∧ (Asc l → l' = l) ∧ Kp g M M', fun _ i => 9 - i.toNat, l, ⟨by omega, by omega, hR, rfl, fun k h => by omega, fun _ => rfl, fun _ _ _ h => h⟩, fun l1 i M1 ⟨i1, i9, hR1, hl1, hs1, ha1, hk1⟩ => ⟨fun hlt => ?_, fun hge M' hle => ?_⟩⟩
 ·refine ⟨List UInt8, fun l' j M' => 0 ≤ j ∧ j ≤ i ∧ RowB M' g c l' ∧ l'.length = l.length ∧ (∀ k : Nat, (k : Int) + 1 ≤ i → (k : Int) + 1 ≠ j → at8 l' k ≤ at8 l' (k + 1)) ∧ (0 < j → j < i → at8 l' (j - 1).toNat ≤ at8 l' (j + 1).toNat) ∧ (Asc l → l' = l) ∧ Kp g M M', fun _ j => j.toNat, l1, ⟨by omega, Int.le_refl _, hR1, hl1, fun k h h' => hs1 k (by omega) (by omega), fun _ h => by omega, ha1, hk1⟩, fun l2 j M2 ⟨j0, ji, hR2, hl2, hs2, hc2, ha2, hk2⟩ => ?_⟩
  have hso : (j = 0 ∨ at8 l2 (j - 1).toNat ≤ at8 l2 j.toNat) → ∀ k : Nat, (k : Int) + 1 < i + 1 → k + 1 < l.length → at8 l2 k ≤ at8 l2 (k + 1) := fun h k hk _ => by
   by_cases hkj : (k : Int) + 1 = j
   ·rcases h with h | h
    ·omega
    ·rw [show (j - 1).toNat = k by omega, show j.toNat = k + 1 by omega] at h; exact h
   ·exact hs2 k (by omega) hkj
  refine ⟨fun hj => ?_, fun hj => ?_⟩
  ·have hj1 : j.toNat < l2.length := by omega
   have hj2 : (j - 1).toNat < l2.length := by omega
   refine ⟨g, 0, rfl, by omega, by omega, _, hR2.at hj1, inI_big (by omega) (by omega), g, 0, rfl, by omega, by omega, _, hR2.at hj2, s_cmp_Less_byte _ _ _ _ (less_is _ _ _ _ ⟨_, rfl, ?_⟩)⟩
   unfold S_slices_insertionSortOrdered_byte_J1
   refine ⟨fun hyes => ?_, fun hno => ⟨inI_big (by omega) (by omega), l2, ⟨by omega, by omega, hR2, hl2, hso (.inr ?_), ha2, hk2⟩, ?_⟩⟩
   ·have hlt2 : at8 l2 j.toNat < at8 l2 (j - 1).toNat := by have := of_decide_eq_true hyes; omega
    have hput := hR2.put hj1 (by8 l2 (j - 1).toNat)
    have hput2 := hput.put (i := (j - 1).toNat) (by rw [List.length_set]; exact hj2) (by8 l2 j.toNat)
    have hv : ∀ k, at8 ((l2.set j.toNat (by8 l2 (j - 1).toNat)).set (j - 1).toNat (by8 l2 j.toNat)) k = if k = (j - 1).toNat then at8 l2 j.toNat else if k = j.toNat then at8 l2 (j - 1).toNat else at8 l2 k := fun k => by
     rw [at8_set (by rw [List.length_set]; exact hj2), at8_set hj1]; rfl
    refine ⟨inI_big (by omega) (by omega), inI_big (by omega) (by omega), g, 0, rfl, by omega, by omega, _, hR2.at hj2, g, 0, rfl, by omega, by omega, _, hR2.at hj1, g, 0, rfl, by omega, by omega, hR2.has (by omega), ?_, fun M3 hM3 => ⟨g, 0, rfl, by omega, by omega, ?_, ?_, fun M4 hM4 => ⟨inI_big (by omega) (by omega), (l2.set j.toNat (by8 l2 (j - 1).toNat)).set (j - 1).toNat (by8 l2 j.toNat), ⟨by omega, by omega, ?_, ?_, fun k h1 h2 => ?_, fun h1 h2 => ?_, fun h => ?_, ?_⟩, ?_⟩⟩⟩
    ·exact hL
    ·rw [hM3]; exact hput.has (by rw [List.length_set]; omega)
    ·exact hL
    ·rw [hM4, hM3]; exact hput2
    ·rw [List.length_set, List.length_set]; exact hl2
    ·rw [hv, hv]
     by_cases e1 : k = (j - 1).toNat
     ·rw [if_pos e1, if_neg (by omega), if_pos (by omega)]; omega
     ·rw [if_neg e1]
      by_cases e2 : k = j.toNat
      ·rw [if_pos e2, if_neg (by omega), if_neg (by omega)]
       have := hc2 (by omega) (by omega)
       rw [show (j + 1).toNat = k + 1 by omega] at this; exact this
      ·rw [if_neg e2, if_neg (by omega), if_neg (by omega)]
       exact hs2 k (by omega) (by omega)
    ·rw [hv, hv, if_neg (by omega), if_neg (by omega), if_neg (by omega), if_pos (by omega)]
     have := hs2 (j - 1 - 1).toNat (by omega) (by omega)
     rw [show (j - 1 - 1).toNat + 1 = (j - 1).toNat by omega] at this; exact this
    ·have := h (j - 1).toNat (by omega)
     rw [ha2 h, show (j - 1).toNat + 1 = j.toNat by omega] at *
     omega
    ·rw [hM4, hM3]; exact hk2.put.put
    ·show (j - 1).toNat < j.toNat; omega
   ·have h2 : ¬ ((at8 l2 j.toNat : Nat) : Int) < ((at8 l2 (j - 1).toNat : Nat) : Int) := fun h => hno (decide_eq_true h)
    omega
   ·show 9 - (i + 1).toNat < 9 - i.toNat; omega
  ·unfold S_slices_insertionSortOrdered_byte_J1
   refine ⟨fun h => (by cases h), fun _ => ⟨inI_big (by omega) (by omega), l2, ⟨by omega, by omega, hR2, hl2, hso (.inl (by omega)), ha2, hk2⟩, ?_⟩⟩
   show 9 - (i + 1).toNat < 9 - i.toNat; omega
 ·exact hK M' l1 (hR1.le hle) hl1 (fun k hk => hs1 k (by omega) hk) ha1 (hk1.le hle)
theorem sort_is {L : Nat → Prop} {K : Value → Mem → Prop} (hR : RowB M g c l) (h1 : 1 ≤ l.length) (h8 : l.length ≤ 8) (hL : Wr L M g)
  (hK : ∀ M' l', RowB M' g c l' → l'.length = l.length → (∀ i, i + 1 < l.length → at8 l' i ≤ at8 l' (i + 1)) → (Asc l → l' = l) → Kp g M M' → K (.tuple #[]) M') : S_slices_Sort_byte (some ⟨g, 0, none⟩) l.length c M L K := by
 unfold S_slices_Sort_byte
 have hw : IntKind.wrap .u64 ((l.length : Nat) : Int) = ((l.length : Nat) : Int) := by
  have : ∀ n : Nat, n ≤ 8 → IntKind.wrap .u64 ((n : Nat) : Int) = ((n : Nat) : Int) := by decide
  exact this _ h8
 rw [hw]
 refine s_math_bits_Len _ _ _ ?_
 unfold S_math_bits_Len
 refine s_math_bits_Len64 _ _ _ ?_
 unfold S_math_bits_Len64 S_math_bits_Len64_J1 S_math_bits_Len64_J2 S_math_bits_Len64_J3
 refine ⟨fun h => by omega, fun _ => ⟨fun h => by omega, fun _ => ⟨fun h => by omega, fun _ => ?_⟩⟩⟩
 have hw8 : IntKind.wrap .u8 ((l.length : Nat) : Int) = ((l.length : Nat) : Int) := by
  have : ∀ n : Nat, n ≤ 8 → IntKind.wrap .u8 ((n : Nat) : Int) = ((n : Nat) : Int) := by decide
  exact this _ h8
 rw [hw8]
 have htab : ∀ n : Nat, n ≤ 8 → ∃ z : UInt8, ([0, 1, 2, 2, 3, 3, 3, 3, 4] : List UInt8)[n]? = some z ∧ InI (0 + IntKind.wrap .i64 ((z.toNat : Nat) : Int)) := fun n hn => by
  have : ∀ n : Nat, n ≤ 8 → (match ([0, 1, 2, 2, 3, 3, 3, 3, 4] : List UInt8)[n]? with | some z => decide (-100 ≤ IntKind.wrap .i64 ((z.toNat : Nat) : Int) ∧ IntKind.wrap .i64 ((z.toNat : Nat) : Int) ≤ 100) | none => false) = true := by decide
  have := this n hn
  split at this
  ·rename_i z hz
   have := of_decide_eq_true this
   exact ⟨z, hz, inI_big (by omega) (by omega)⟩
  ·cases this
 have fin : ∀ (T : List UInt8) (K' : UInt8 → Prop), T.take 9 = [0, 1, 2, 2, 3, 3, 3, 3, 4] → (∀ z, K' z) → ∃ c8 : UInt8, (0 : Int) ≤ ((l.length : Nat) : Int) ∧ T[((l.length : Nat) : Int).toNat]? = some c8 ∧ (InI (0 + IntKind.wrap .i64 (c8.toNat : Int)) ∧ K' c8) := fun T K' hT hK' => by
  obtain ⟨z, hz, hzI⟩ := htab _ h8
  refine ⟨z, by omega, ?_, hzI, hK' z⟩
  rw [Int.toNat_natCast]
  rw [← hT, List.getElem?_take] at hz
  split at hz
  ·exact hz
  ·cases hz
 refine fin _ _ ?_ fun z => ⟨_, rfl, _, rfl, ?_⟩
 ·rfl
 ·refine (s_slices_pdqsortOrdered_byte _ _ _ _ _ _ _ _ _ ?_).mono (fun b hb => hb) fun v M' _ h => h
  unfold S_slices_pdqsortOrdered_byte
  refine ⟨fun a b _ _ _ => a = 0 ∧ b = ((l.length : Nat) : Int), fun _ _ _ _ _ => 0, ⟨rfl, rfl⟩, fun a b lim x y ⟨ha, hb⟩ => ?_⟩
  subst ha hb
  refine ⟨inI_big (by omega) (by omega), fun _ => (s_slices_insertionSortOrdered_byte _ _ _ _ _ _ _ _ (isort_is hR h8 hL fun M' l' q1 q2 q3 q4 q5 => ⟨rfl, fun M2 hle => ⟨rfl, fun M3 hle3 => hK M3 l' (q1.le (hle.trans hle3)) q2 q3 q4 (q5.le (hle.trans hle3))⟩⟩)).mono (fun b hb => .inl (.inl hb)) fun v M' _ h => h, fun hn => absurd (by omega) hn⟩
theorem slA_at {k : Nat} (hk : k < c) : slA (some ⟨g, 0, none⟩) k c 1 = some ⟨g, k, none⟩ := by
 unfold slA
 rw [if_neg (by omega)]
 simp [Addr.add]
 exact fun h => h.symm
theorem compact_is {L : Nat → Prop} {K : Value → Mem → Prop} (hR : RowB M g c l) (h8 : l.length ≤ 8) (hL : Wr L M g)
  (h1 : (∀ i, i + 1 < l.length → at8 l i ≠ at8 l (i + 1)) → ∀ M', M.le M' → K (.slice (some ⟨g, 0, none⟩) l.length c) M')
  (h2 : ∀ i, i + 1 < l.length → at8 l i = at8 l (i + 1) → ∀ M' y, RowB M' g c y → y.length < l.length → Kp g M M' → K (.slice (some ⟨g, 0, none⟩) y.length c) M') : S_slices_Compact_byte (some ⟨g, 0, none⟩) l.length c M L K := by
 have hlc := hR.len
 unfold S_slices_Compact_byte
 refine ⟨fun hlt M' hle => h1 (fun i hi => by omega) M' hle, fun hge => ⟨fun k => 1 ≤ k ∧ k ≤ l.length ∧ ∀ i : Nat, (i : Int) + 1 < k → at8 l i ≠ at8 l (i + 1), fun k => l.length - k.toNat, ⟨by omega, by omega, fun i h => by omega⟩, fun k ⟨k1, k2, hne⟩ => ⟨fun hlt => ?_, fun hge M' hle => h1 (fun i hi => hne i (by omega)) M' hle⟩⟩⟩
 refine ⟨g, 0, rfl, by omega, hlt, _, hR.at (by omega), inI_big (by omega) (by omega), g, 0, rfl, by omega, by omega, _, hR.at (by omega), fun heq => ?_, fun hn => ⟨inI_big (by omega) (by omega), ⟨by omega, by omega, fun i hi => ?_⟩, ?_⟩⟩
 ·have hsl := slA_at (g := g) (c := c) (k := k.toNat) (by omega)
  rw [hsl]
  have heq2 : at8 l (k - 1).toNat = at8 l ((k - 1).toNat + 1) := by rw [show (k - 1).toNat + 1 = k.toNat by omega]; omega
  refine ⟨by omega, by omega, List UInt8, fun l' kk k2 M' => RowB M' g c l' ∧ l'.length = l.length ∧ 1 ≤ k2 ∧ k2 ≤ l.length - k ∧ k ≤ kk ∧ kk ≤ k + k2 - 1 ∧ Kp g M M', fun _ _ k2 => (l.length - k2).toNat, l, ⟨hR, rfl, by omega, by omega, by omega, by omega, fun _ _ _ h => h⟩, fun l' kk j M' ⟨r1, r2, r3, r4, r5, r6, r7⟩ => ⟨fun hj => ?_, fun hj => ?_⟩⟩
  ·have at2 : ∀ z : Int, 0 ≤ z → z < l.length - k → At M' g (k.toNat + z.toNat * 1) [.int .u8 ((at8 l' (k.toNat + z.toNat) : Nat) : Int)] := fun z z0 z1 => by
    have := r1.at (i := k.toNat + z.toNat) (by omega)
    rw [show k.toNat + z.toNat * 1 = 0 + (k.toNat + z.toNat) * 1 by omega]; exact this
   refine ⟨g, k.toNat, rfl, by omega, hj, _, at2 j (by omega) (by omega), inI_big (by omega) (by omega), g, k.toNat, rfl, by omega, by omega, _, at2 (j - 1) (by omega) (by omega), fun hd => ?_, fun hd => ?_⟩
   ·refine ⟨g, k.toNat, rfl, by omega, hj, _, at2 j (by omega) (by omega), g, 0, rfl, by omega, by omega, ?_, hL, fun M3 hM3 => ⟨inI_big (by omega) (by omega), ?_⟩⟩
    ·have := r1.has (i := kk.toNat) (k := 1) (by omega)
     rw [show 0 + kk.toNat * 1 = kk.toNat by omega]; exact this
    ·unfold S_slices_Compact_byte_J1
     refine ⟨inI_big (by omega) (by omega), l'.set kk.toNat (by8 l' (k.toNat + j.toNat)), ⟨?_, by rw [List.length_set]; exact r2, by omega, by omega, by omega, by omega, ?_⟩, ?_⟩
     ·rw [hM3]; exact r1.put (by omega) _
     ·rw [hM3]; exact r7.put
     ·show (l.length - (j + 1)).toNat < (l.length - j).toNat; omega
   ·unfold S_slices_Compact_byte_J1
    refine ⟨inI_big (by omega) (by omega), l', ⟨r1, r2, by omega, by omega, by omega, by omega, r7⟩, ?_⟩
    show (l.length - (j + 1)).toNat < (l.length - j).toNat; omega
  ·have hkk : kk.toNat < l.length := by omega
   refine ⟨by omega, by omega, g, kk.toNat, slA_at (by omega), by omega, r1.has (by omega), hL, fun M3 hM3 => ⟨by omega, by omega, fun M4 hle => ?_⟩⟩
   have hcut := r1.cut (k := kk.toNat) (by omega) (List.replicate (l.length - kk.toNat) (Value.int .u8 0)) (by rw [List.length_replicate]; omega)
   have hlen : (l'.take kk.toNat).length = kk.toNat := by rw [List.length_take]; omega
   have := h2 (k - 1).toNat (by omega) heq2 M4 (l'.take kk.toNat) (by rw [hM3] at hle; exact hcut.le hle) (by omega) (by rw [hM3] at hle; exact r7.put.le hle)
   rw [hlen] at this
   exact this
 ·by_cases hik : (i : Int) + 1 = k
  ·rw [show i = (k - 1).toNat by omega, show (k - 1).toNat + 1 = k.toNat by omega]; omega
  ·exact hne i (by omega)
 ·show l.length - (k + 1).toNat < l.length - k.toNat; omega
end
noncomputable def alphaP (a : List UInt8) : Int := if a.length = 0 then 1 else if 8 < a.length then 2 else @ite _ (Asc a) (Classical.propDecidable _) 0 3
theorem ralpha_is (a : List UInt8) (M : Mem) (L : Nat → Prop) (K : Value → Mem → Prop) (hK : ∀ M', M.le M' → K (.int .i64 (alphaP a)) M') : S_chaffref_Alpha a M L K := by
 unfold S_chaffref_Alpha
 refine ⟨fun h0 M' hle => ?_, fun h0 => ⟨fun h8 M' hle => ?_, fun h8 => ⟨by unfold maxLen; omega, fun M2 A c hnb => ?_⟩⟩⟩
 ·have := hK M' hle
  unfold alphaP at this
  rw [if_pos (by omega)] at this; exact this
 ·have := hK M' hle
  unfold alphaP at this
  rw [if_neg (by omega), if_pos (by omega)] at this; exact this
 have hv : alphaP a = @ite _ (Asc a) (Classical.propDecidable _) 0 3 := by unfold alphaP; rw [if_neg (by omega), if_neg (by omega)]
 obtain ⟨hle2, hlc, hcm, g, cur, t, f, rfl, hg, hb, hsz, hf, htk⟩ := hnb
 have hR : RowB M2 g c a := ⟨hlc, hcm, cur, t, f, hb, hsz, hf, htk⟩
 have hMle : ∀ {M'}, Kp g M2 M' → M.le M' := fun hk b o hbo => hk b o (fun e => by rw [e, hg] at hbo; cases hbo) (hle2 b o hbo)
 refine (s_slices_Sort_byte _ _ _ _ (fun b => b = g) _ (sort_is hR (by omega) (by omega) (.inl rfl) fun M5 l' r1 r2 r3 r4 r5 => ⟨rfl, ?_⟩)).mono (fun b hb => .inr (by rw [hb]; exact hg)) fun v M' _ h => h
 rw [← r2]
 have r3 : ∀ i, i + 1 < l'.length → at8 l' i ≤ at8 l' (i + 1) := fun i hi => r3 i (by omega)
 refine (s_slices_Compact_byte _ _ _ _ (fun b => b = g) _ (compact_is r1 (by omega) (.inl rfl) (fun hne M' hle => ⟨_, _, _, rfl, l', (r1.le hle).slv, rfl, fun hd M3 hle3 => ?_, fun hd M3 hle3 => ?_⟩) fun i hi he M' y hy hlt hk => ⟨_, _, _, rfl, y, hy.slv, rfl, fun _ M3 hle3 => ?_, fun hd => ?_⟩)).mono (fun b hb => .inr (by rw [hb]; exact hg)) fun v M' _ h => h
 ·have hna : ¬ Asc a := fun h => hd (r4 h)
  have := hK M3 (hMle ((r5.le hle).le hle3))
  rw [hv, if_neg hna] at this; exact this
 ·have he : l' = a := Decidable.not_not.1 hd
  have hasc : Asc a := fun i hi => by
   have h1 := r3 i (by rw [he]; exact hi)
   have h2 := hne i (by rw [he]; exact hi)
   rw [he] at h1 h2
   omega
  have := hK M3 (hMle ((r5.le hle).le hle3))
  rw [hv, if_pos hasc] at this; exact this
 ·have hna : ¬ Asc a := fun h => by
   have e := r4 h
   rw [e] at he hi
   have := h i hi
   omega
  have := hK M3 (fun b o hbo => hle3 b o (hk b o (fun e => by rw [e, hg] at hbo; cases hbo) (hMle r5 b o hbo)))
  rw [hv, if_neg hna] at this; exact this
 ·have : y = a := Decidable.not_not.1 hd
  rw [this] at hlt; omega
theorem walpha_is (a : List UInt8) (M : Mem) (K : Value → Prop) (hK : K (.int .i64 (alphaP a))) : S_walk_Alpha a M K := by
 unfold S_walk_Alpha
 unfold alphaP at hK
 refine ⟨fun h0 => ?_, fun h0 => ⟨fun h8 => ?_, fun h8 => ?_⟩⟩
 ·rw [if_pos (by rw [h0]; rfl)] at hK; exact hK
 ·rw [if_neg (by omega), if_pos (by omega)] at hK; exact hK
 ·have hl : a.length ≠ 0 := fun h => h0 (List.eq_nil_of_length_eq_zero h)
  rw [if_neg hl, if_neg (by omega)] at hK
  refine ⟨fun i => 1 ≤ i ∧ i ≤ a.length ∧ ∀ k : Nat, (k : Int) + 1 < i → at8 a k < at8 a (k + 1), fun i => a.length - i.toNat, ⟨by omega, by omega, fun k h => by omega⟩, fun i ⟨i1, i2, ha⟩ => ⟨fun hlt => ?_, fun hge => ?_⟩⟩
  ·refine ⟨_, by omega, at8_get (by omega), inI_big (by omega) (by omega), _, by omega, at8_get (by omega), fun hle => ?_, fun hgt => ⟨inI_big (by omega) (by omega), ⟨by omega, by omega, fun k hk => ?_⟩, ?_⟩⟩
   ·have hna : ¬ Asc a := fun h => by
     have := h (i - 1).toNat (by omega)
     rw [show (i - 1).toNat + 1 = i.toNat by omega] at this
     unfold at8 at this
     omega
    rw [if_neg hna] at hK; exact hK
   ·by_cases hki : (k : Int) + 1 = i
    ·rw [show k = (i - 1).toNat by omega, show (i - 1).toNat + 1 = i.toNat by omega]
     unfold at8
     omega
    ·exact ha k (by omega)
   ·show a.length - (i + 1).toNat < a.length - i.toNat; omega
  ·have hasc : Asc a := fun k hk => ha k (by omega)
   rw [if_pos hasc] at hK; exact hK
theorem alpha_ok {a : List UInt8} (h : alphaP a = 0) : 1 ≤ a.length ∧ a.length ≤ 8 ∧ Asc a := by
 unfold alphaP at h
 split at h
 ·omega
 split at h
 ·omega
 split at h
 ·rename_i h1; exact ⟨by omega, by omega, h1⟩
 ·omega
def geo (b : Nat) : Nat → Nat
 | 0 => 0
 | n + 1 => geo b n + b ^ n
theorem pow8 {b n : Nat} (hb : b ≤ 8) (hn : n ≤ 7) : b ^ n ≤ 2097152 := by
 have h1 : b ^ n ≤ 8 ^ n := Nat.pow_le_pow_left hb n
 have h2 : 8 ^ n ≤ 8 ^ 7 := Nat.pow_le_pow_right (by omega) hn
 have h3 : 8 ^ 7 = 2097152 := by decide
 omega
theorem geo8 {b : Nat} (hb : b ≤ 8) : ∀ n : Nat, n ≤ 7 → geo b n ≤ n * 2097152
 | 0, _ => by simp [geo]
 | n + 1, h => by
  have := geo8 hb n (by omega)
  have := pow8 hb (n := n) (by omega)
  rw [geo, Nat.succ_mul]; omega
theorem shorter_is {a : List UInt8} {n : Int} (h8 : a.length ≤ 8) (h0 : 0 ≤ n) (h7 : n ≤ 7) (M : Mem) (K : Value → Prop) (hK : K (.int .i64 ((geo a.length n.toNat : Nat) : Int))) : S_walk_shorter a n M K := by
 unfold S_walk_shorter
 refine ⟨fun o m i => 0 ≤ i ∧ i ≤ n ∧ o = ((geo a.length i.toNat : Nat) : Int) ∧ m = ((a.length ^ i.toNat : Nat) : Int), fun _ _ i => n.toNat - i.toNat, ⟨by omega, h0, rfl, rfl⟩, fun o m i ⟨i0, i1, ho, hm⟩ => ⟨fun hlt => ?_, fun hge => ?_⟩⟩
 ·have e1 : geo a.length (i + 1).toNat = geo a.length i.toNat + a.length ^ i.toNat := by rw [show (i + 1).toNat = i.toNat + 1 by omega, geo]
  have e2 : a.length ^ (i + 1).toNat = a.length ^ i.toNat * a.length := by rw [show (i + 1).toNat = i.toNat + 1 by omega, Nat.pow_succ]
  have b1 := geo8 h8 (i + 1).toNat (by omega)
  have b2 := pow8 h8 (n := (i + 1).toNat) (by omega)
  have hmm : m * ((a.length : Nat) : Int) = ((a.length ^ (i + 1).toNat : Nat) : Int) := by rw [hm, e2]; push_cast; rfl
  have hoo : o + m = ((geo a.length (i + 1).toNat : Nat) : Int) := by rw [ho, hm, e1]; push_cast; rfl
  have b3 : (i + 1).toNat * 2097152 ≤ 7 * 2097152 := Nat.mul_le_mul_right _ (by omega)
  refine ⟨inI_big (by omega) (by omega), inI_big (by omega) (by omega), inI_big (by omega) (by omega), ⟨by omega, by omega, hoo, hmm⟩, ?_⟩
  show n.toNat - (i + 1).toNat < n.toNat - i.toNat; omega
 ·rw [ho, show i = n by omega]; exact hK
theorem power_is {a : List UInt8} {n : Int} (h8 : a.length ≤ 8) (h0 : 0 ≤ n) (h7 : n ≤ 7) (M : Mem) (K : Value → Prop) (hK : K (.int .i64 ((a.length ^ n.toNat : Nat) : Int))) : S_chaffref_Power a n M K := by
 unfold S_chaffref_Power
 refine ⟨fun m i => 0 ≤ i ∧ i ≤ n ∧ m = ((a.length ^ i.toNat : Nat) : Int), fun _ i => n.toNat - i.toNat, ⟨by omega, h0, rfl⟩, fun m i ⟨i0, i1, hm⟩ => ⟨fun hlt => ?_, fun hge => ?_⟩⟩
 ·have e2 : a.length ^ (i + 1).toNat = a.length ^ i.toNat * a.length := by rw [show (i + 1).toNat = i.toNat + 1 by omega, Nat.pow_succ]
  have b2 := pow8 h8 (n := (i + 1).toNat) (by omega)
  have hmm : m * ((a.length : Nat) : Int) = ((a.length ^ (i + 1).toNat : Nat) : Int) := by rw [hm, e2]; push_cast; rfl
  refine ⟨inI_big (by omega) (by omega), inI_big (by omega) (by omega), ⟨by omega, by omega, hmm⟩, ?_⟩
  show n.toNat - (i + 1).toNat < n.toNat - i.toNat; omega
 ·rw [hm, show i = n by omega]; exact hK
theorem rmany_is {a : List UInt8} {n : Int} (h8 : a.length ≤ 8) (h0 : 0 ≤ n) (h6 : n ≤ 6) (M : Mem) (K : Value → Prop) (hK : K (.int .i64 ((geo a.length (n.toNat + 1) : Nat) : Int))) : S_chaffref_Many a n M K := by
 unfold S_chaffref_Many
 refine ⟨inI_big (by omega) (by omega), fun o i => 0 ≤ i ∧ i ≤ n + 1 ∧ o = ((geo a.length i.toNat : Nat) : Int), fun _ i => (n + 1).toNat - i.toNat, ⟨by omega, by omega, rfl⟩, fun o i ⟨i0, i1, ho⟩ => ⟨fun hlt => s_chaffref_Power _ _ _ _ (power_is h8 i0 (by omega) _ _ ⟨_, rfl, ?_⟩), fun hge => ?_⟩⟩
 ·have e1 : geo a.length (i + 1).toNat = geo a.length i.toNat + a.length ^ i.toNat := by rw [show (i + 1).toNat = i.toNat + 1 by omega, geo]
  have b1 := geo8 h8 (i + 1).toNat (by omega)
  have b3 : (i + 1).toNat * 2097152 ≤ 7 * 2097152 := Nat.mul_le_mul_right _ (by omega)
  have hoo : o + ((a.length ^ i.toNat : Nat) : Int) = ((geo a.length (i + 1).toNat : Nat) : Int) := by rw [ho, e1]; push_cast; rfl
  refine ⟨inI_big (by omega) (by omega), inI_big (by omega) (by omega), ⟨by omega, by omega, hoo⟩, ?_⟩
  show (n + 1).toNat - (i + 1).toNat < (n + 1).toNat - i.toNat; omega
 ·rw [ho, show i.toNat = n.toNat + 1 by omega]; exact hK
theorem wmany_is (a : List UInt8) (n : Int) (M : Mem) (K : Value → Prop) (h1 : alphaP a ≠ 0 → K (.tuple #[.int .i64 0, .int .i64 (alphaP a)])) (h2 : alphaP a = 0 → (n < 0 ∨ 6 < n) → K (.tuple #[.int .i64 0, .int .i64 1])) (h3 : alphaP a = 0 → 0 ≤ n → n ≤ 6 → K (.tuple #[.int .i64 ((geo a.length (n.toNat + 1) : Nat) : Int), .int .i64 0])) : S_walk_Many a n M K := by
 unfold S_walk_Many
 refine s_walk_Alpha _ _ _ (walpha_is a _ _ ⟨_, rfl, h1, fun h => ?_⟩)
 have h0 : alphaP a = 0 := Decidable.not_not.1 h
 obtain ⟨_, h8, _⟩ := alpha_ok h0
 have j1 : ∀ v : Bool, v = decide (n < 0 ∨ 6 < n) → S_walk_Many_J1 a n M v K := by
  intro v hv
  unfold S_walk_Many_J1
  refine ⟨fun ht => h2 h0 (of_decide_eq_true (hv ▸ ht)), fun hf => ?_⟩
  have hn : ¬ (n < 0 ∨ 6 < n) := fun h => hf (by rw [hv, decide_eq_true h])
  refine ⟨inI_big (by omega) (by omega), s_walk_shorter _ _ _ _ (shorter_is h8 (by omega) (by omega) _ _ ⟨_, rfl, ?_⟩)⟩
  rw [show (n + 1).toNat = n.toNat + 1 by omega]
  exact h3 h0 (by omega) (by omega)
 exact ⟨fun h => j1 _ (by symm; exact decide_eq_true (.inl h)), fun h => j1 _ (by rw [decide_eq_decide]; omega)⟩
end Go.Proofs.Ythljpajbcllhhaa.core

namespace Go.Proofs.Ythljpajbcllhhaa.core
open Go.Gx Go.RowKit Go.ChangeShapes Go.WideShapes Go.ChangeAt
set_option linter.unusedVariables false
def ixN (a : List UInt8) (c : UInt8) : Nat := (idxB a (c.toNat : Int)).toNat
theorem ix_mem {a : List UInt8} {c : UInt8} (h : c ∈ a) : idxB a (c.toNat : Int) = ((ixN a c : Nat) : Int) ∧ ixN a c < a.length ∧ a[ixN a c]? = some c := by
 rcases idxB_cases a c with ⟨_, h2⟩ | ⟨i, h1, h2, _⟩
 ·obtain ⟨i, hi⟩ := List.mem_iff_getElem?.1 h
  exact absurd rfl (h2 i c hi)
 ·have : ixN a c = i := by unfold ixN; rw [h1]; omega
  rw [this]
  exact ⟨h1, (List.getElem?_eq_some_iff.1 h2).1, h2⟩
theorem ix_not {a : List UInt8} {c : UInt8} : idxB a (c.toNat : Int) < 0 ↔ c ∉ a := by
 rcases idxB_cases a c with ⟨h1, h2⟩ | ⟨i, h1, h2, _⟩
 ·refine ⟨fun _ h => ?_, fun _ => by rw [h1]; omega⟩
  obtain ⟨i, hi⟩ := List.mem_iff_getElem?.1 h
  exact absurd rfl (h2 i c hi)
 ·exact ⟨fun h => by rw [h1] at h; omega, fun h => absurd (List.mem_of_getElem? h2) h⟩
theorem asc_lt {a : List UInt8} (h : Asc a) : ∀ (i k : Nat), i + k + 1 < a.length → at8 a i < at8 a (i + k + 1)
 | i, 0, hk => h i hk
 | i, k + 1, hk => by
  have h1 := asc_lt h i k (by omega)
  have h2 := h (i + k + 1) (by omega)
  rw [show i + (k + 1) + 1 = i + k + 1 + 1 by omega]
  omega
theorem ix_at {a : List UInt8} (h : Asc a) {i : Nat} (hi : i < a.length) : ixN a (by8 a i) = i := by
 obtain ⟨_, h2, h3⟩ := ix_mem (List.mem_of_getElem? (at8_get hi))
 have e : by8 a (ixN a (by8 a i)) = by8 a i := by
  have := at8_get h2
  rw [h3] at this
  exact (Option.some.inj this).symm
 have e2 : at8 a (ixN a (by8 a i)) = at8 a i := by unfold at8; rw [e]
 rcases Nat.lt_trichotomy (ixN a (by8 a i)) i with hl | hl | hl
 ·have := asc_lt h (ixN a (by8 a i)) (i - ixN a (by8 a i) - 1) (by omega)
  rw [show ixN a (by8 a i) + (i - ixN a (by8 a i) - 1) + 1 = i by omega] at this
  omega
 ·exact hl
 ·have := asc_lt h i (ixN a (by8 a i) - i - 1) (by omega)
  rw [show i + (ixN a (by8 a i) - i - 1) + 1 = ixN a (by8 a i) by omega] at this
  omega
def sumD (a : List UInt8) : List UInt8 → Nat
 | [] => 0
 | c :: r => ixN a c * a.length ^ r.length + sumD a r
def rankN (a s : List UInt8) : Nat := geo a.length s.length + sumD a s
theorem sumD_app (a : List UInt8) : ∀ x y : List UInt8, sumD a (x ++ y) = sumD a x * a.length ^ y.length + sumD a y
 | [], y => by simp [sumD]
 | c :: r, y => by
  rw [List.cons_append, sumD, sumD, sumD_app a r y, List.length_append, Nat.pow_add, Nat.add_mul, Nat.mul_assoc]
  omega
theorem sumD_lt {a : List UInt8} (h1 : 1 ≤ a.length) : ∀ {s : List UInt8}, (∀ c ∈ s, c ∈ a) → sumD a s < a.length ^ s.length
 | [], _ => by simp [sumD]
 | c :: r, h => by
  have ih := sumD_lt h1 (s := r) fun x hx => h x (by simp [hx])
  obtain ⟨_, h3, _⟩ := ix_mem (h c (by simp))
  rw [sumD, List.length_cons, Nat.pow_succ]
  have : (ixN a c + 1) * a.length ^ r.length ≤ a.length * a.length ^ r.length := Nat.mul_le_mul_right _ h3
  rw [Nat.add_mul, Nat.one_mul] at this
  rw [Nat.mul_comm (a.length ^ r.length)]
  omega
theorem sumD_zero {a : List UInt8} (h : Asc a) (h1 : 1 ≤ a.length) : ∀ n, sumD a (List.replicate n (by8 a 0)) = 0
 | 0 => rfl
 | n + 1 => by rw [List.replicate_succ, sumD, ix_at h (by omega), sumD_zero h h1 n]; simp
theorem sumD_max {a : List UInt8} (h1 : 1 ≤ a.length) : ∀ s : List UInt8, (∀ c ∈ s, ixN a c = a.length - 1) → sumD a s + 1 = a.length ^ s.length
 | [], _ => by simp [sumD]
 | c :: r, h => by
  have ih := sumD_max h1 r fun x hx => h x (by simp [hx])
  rw [sumD, h c (by simp), List.length_cons, Nat.pow_succ, Nat.add_assoc, ih]
  have : (a.length - 1) * a.length ^ r.length + a.length ^ r.length = (a.length - 1 + 1) * a.length ^ r.length := by rw [Nat.add_mul, Nat.one_mul]
  rw [this, show a.length - 1 + 1 = a.length by omega, Nat.mul_comm]
theorem geo_lt {b : Nat} (h1 : 1 ≤ b) : ∀ {m n : Nat}, m < n → geo b m < geo b n
 | m, n + 1, h => by
  have hp : 1 ≤ b ^ n := Nat.one_le_pow _ _ h1
  rw [geo]
  by_cases e : m = n
  ·subst e; omega
  ·have := geo_lt h1 (show m < n by omega)
   omega
theorem rank_lt {a : List UInt8} (h1 : 1 ≤ a.length) {s : List UInt8} (h : ∀ c ∈ s, c ∈ a) : geo a.length s.length ≤ rankN a s ∧ rankN a s < geo a.length (s.length + 1) := by
 have := sumD_lt h1 h
 unfold rankN
 rw [geo]; omega
end Go.Proofs.Ythljpajbcllhhaa.core

namespace Go.Proofs.Ythljpajbcllhhaa.core
open Go.Gx Go.RowKit Go.ChangeShapes Go.WideShapes Go.ChangeAt
set_option linter.unusedVariables false
noncomputable def overP (a s : List UInt8) : Int := if alphaP a ≠ 0 then alphaP a else if 6 < s.length then 2 else @ite _ (∀ c ∈ s, c ∈ a) (Classical.propDecidable _) 0 12
theorem over_ok {a s : List UInt8} (h : overP a s = 0) : 1 ≤ a.length ∧ a.length ≤ 8 ∧ Asc a ∧ s.length ≤ 6 ∧ ∀ c ∈ s, c ∈ a := by
 unfold overP at h
 split at h
 ·rename_i h1; exact absurd h h1
 rename_i h1
 obtain ⟨a1, a2, a3⟩ := alpha_ok (Decidable.not_not.1 h1)
 split at h
 ·omega
 rename_i h2
 split at h
 ·rename_i h3; exact ⟨a1, a2, a3, by omega, h3⟩
 ·omega
theorem over_of {a s : List UInt8} (h0 : alphaP a = 0) (h6 : s.length ≤ 6) (h : ∀ c ∈ s, c ∈ a) : overP a s = 0 := by
 unfold overP
 rw [if_neg (fun hn => hn h0), if_neg (by omega), if_pos h]
section
variable {a s : List UInt8} {M : Mem}
theorem sidx_is (c : Int) (K : Value → Prop) (hK : K (.int .i64 (idxB a c))) : S_strings_IndexByte a c M K := by
 unfold S_strings_IndexByte
 refine s_internal_stringslite_IndexByte _ _ _ _ ?_
 unfold S_internal_stringslite_IndexByte
 exact ⟨_, rfl, hK⟩
theorem bcontains_is {A : Option Addr} {cap : Nat} (h : SlV M A a.length cap 1 (bytesV a)) (h8 : a.length ≤ 8) (c : UInt8) (K : Value → Prop) (hK : K (.bool (decide (c ∈ a)))) : S_slices_Contains_byte A a.length cap (c.toNat : Int) M K := by
 unfold S_slices_Contains_byte
 refine s_slices_Index_byte _ _ _ _ _ _ ?_
 unfold S_slices_Index_byte
 refine ⟨fun i => 0 ≤ i ∧ i ≤ a.length ∧ ∀ (j : Nat) x, (j : Int) < i → a[j]? = some x → x ≠ c, fun i => a.length - i.toNat, ⟨by omega, by omega, fun j x h => by omega⟩, fun i ⟨i0, i1, hno⟩ => ⟨fun hlt => ?_, fun hge => ⟨_, rfl, ?_⟩⟩⟩
 ·obtain ⟨g, o, hA, hc⟩ := h.2.2.2 (by omega)
  have hg := at8_get (l := a) (i := i.toNat) (by omega)
  have hat : At M g (o + i.toNat * 1) [.int .u8 ((at8 a i.toNat : Nat) : Int)] := fun j v hj => by
   cases j with
   | succ j => simp at hj
   | zero =>
    simp only [List.getElem?_cons_zero, Option.some.injEq] at hj
    subst hj
    have := hc i.toNat _ (bytes_at (l := a) (i := i.toNat) (by omega))
    simpa using this
  refine ⟨g, o, hA, i0, hlt, _, hat, fun he => ⟨_, rfl, ?_⟩, fun hne => ⟨inI_big (by omega) (by omega), ⟨by omega, by omega, fun j x hj hx => ?_⟩, ?_⟩⟩
  ·have e : by8 a i.toNat = c := UInt8.toNat_inj.1 (by unfold at8 at he; omega)
   have : c ∈ a := by rw [← e]; exact List.mem_of_getElem? hg
   rw [decide_eq_true this] at hK
   rw [decide_eq_true i0]; exact hK
  ·by_cases hji : (j : Int) < i
   ·exact hno j x hji hx
   ·have e : j = i.toNat := by omega
    rw [e, hg] at hx
    cases hx
    intro e2
    apply hne
    unfold at8
    rw [e2]
  ·show a.length - (i + 1).toNat < a.length - i.toNat; omega
 ·have : c ∉ a := fun hm => by
   obtain ⟨j, hj⟩ := List.mem_iff_getElem?.1 hm
   have := (List.getElem?_eq_some_iff.1 hj).1
   exact hno j c (by omega) hj rfl
  rw [decide_eq_false this] at hK
  exact hK
theorem wover_is (K : Value → Prop) (hK : K (.int .i64 (overP a s))) : S_walk_Over a s M K := by
 unfold S_walk_Over
 unfold overP at hK
 refine s_walk_Alpha _ _ _ (walpha_is a _ _ ⟨_, rfl, fun h => ?_, fun h => ?_⟩)
 ·rw [if_pos h] at hK; exact hK
 rw [if_neg h] at hK
 refine ⟨fun h6 => ?_, fun h6 => ?_⟩
 ·rw [if_pos (by omega)] at hK; exact hK
 rw [if_neg (by omega)] at hK
 refine ⟨fun i => 0 ≤ i ∧ i ≤ s.length ∧ ∀ (j : Nat) x, (j : Int) < i → s[j]? = some x → x ∈ a, fun i => s.length - i.toNat, ⟨by omega, by omega, fun j x h => by omega⟩, fun i ⟨i0, i1, hall⟩ => ⟨fun hlt => ?_, fun hge => ?_⟩⟩
 ·have hg := at8_get (l := s) (i := i.toNat) (by omega)
  refine ⟨_, i0, hg, s_strings_IndexByte _ _ _ _ (sidx_is _ _ ⟨_, rfl, fun hneg => ?_, fun hpos => ⟨inI_big (by omega) (by omega), ⟨by omega, by omega, fun j x hj hx => ?_⟩, ?_⟩⟩)⟩
  ·have hn := ix_not.1 hneg
   rw [if_neg (fun hall => hn (hall _ (List.mem_of_getElem? hg)))] at hK; exact hK
  ·by_cases hji : (j : Int) < i
   ·exact hall j x hji hx
   ·rw [show j = i.toNat by omega, hg] at hx
    cases hx
    exact Decidable.not_not.1 fun hn => hpos (ix_not.2 hn)
  ·show s.length - (i + 1).toNat < s.length - i.toNat; omega
 ·rw [if_pos (fun c hc => by
   obtain ⟨j, hj⟩ := List.mem_iff_getElem?.1 hc
   have := (List.getElem?_eq_some_iff.1 hj).1
   exact hall j c (by omega) hj)] at hK
  exact hK
theorem rover_is (K : Value → Prop) (hK : K (.int .i64 (overP a s))) : S_chaffref_Over a s M K := by
 unfold S_chaffref_Over
 unfold overP at hK
 refine e_chaffref_Alpha _ _ _ (ralpha_is a _ _ _ fun M' hle => ⟨_, rfl, fun h => ?_, fun h => ?_⟩)
 ·rw [if_pos h] at hK; exact hK
 obtain ⟨_, h8, _⟩ := alpha_ok (Decidable.not_not.1 h)
 rw [if_neg h] at hK
 refine ⟨fun h6 => ?_, fun h6 => ?_⟩
 ·rw [if_pos (by omega)] at hK; exact hK
 rw [if_neg (by omega)] at hK
 refine ⟨fun i _ => 0 ≤ i ∧ i ≤ s.length ∧ ∀ (j : Nat) x, (j : Int) < i → s[j]? = some x → x ∈ a, fun i => s.length - i.toNat, ⟨by omega, by omega, fun j x h => by omega⟩, fun i M18 ⟨i0, i1, hall⟩ => ⟨fun hlt => ?_, fun hge => ?_⟩⟩
 ·have hg := at8_get (l := s) (i := i.toNat) (by omega)
  refine ⟨by unfold maxLen; omega, fun M2 A cap hle2 hsl => ⟨_, i0, hg, s_slices_Contains_byte _ _ _ _ _ _ (bcontains_is hsl h8 _ _ ⟨_, rfl, fun hno => ?_, fun hyes => ⟨inI_big (by omega) (by omega), ⟨by omega, by omega, fun j x hj hx => ?_⟩, ?_⟩⟩)⟩⟩
  ·have hn : by8 s i.toNat ∉ a := fun h => hno (decide_eq_true h)
   rw [if_neg (fun hall => hn (hall _ (List.mem_of_getElem? hg)))] at hK; exact hK
  ·by_cases hji : (j : Int) < i
   ·exact hall j x hji hx
   ·rw [show j = i.toNat by omega, hg] at hx
    cases hx
    exact of_decide_eq_true (Decidable.not_not.1 hyes)
  ·show s.length - (i + 1).toNat < s.length - i.toNat; omega
 ·rw [if_pos (fun c hc => by
   obtain ⟨j, hj⟩ := List.mem_iff_getElem?.1 hc
   have := (List.getElem?_eq_some_iff.1 hj).1
   exact hall j c (by omega) hj)] at hK
  exact hK
theorem drop_at {i : Nat} (hi : i < s.length) : s.drop i = by8 s i :: s.drop (i + 1) := by
 rw [List.drop_eq_getElem_cons hi]
 have := at8_get hi
 rw [List.getElem?_eq_getElem hi] at this
 rw [Option.some.inj this]
theorem rrank_is (h1 : 1 ≤ a.length) (h8 : a.length ≤ 8) (hasc : Asc a) (h6 : s.length ≤ 6) (hin : ∀ c ∈ s, c ∈ a) (K : Value → Prop) (hK : K (.int .i64 ((rankN a s : Nat) : Int))) : S_chaffref_Rank a s M K := by
 have hlt8 := sumD_lt h1 hin
 have hp8 := pow8 h8 (n := s.length) (by omega)
 unfold S_chaffref_Rank
 refine ⟨fun out i => 0 ≤ i ∧ i ≤ s.length ∧ out + ((sumD a (s.drop i.toNat) : Nat) : Int) = ((geo a.length i.toNat : Nat) : Int) + ((sumD a s : Nat) : Int), fun _ i => s.length - i.toNat, ⟨by omega, by omega, by simp [geo]⟩, fun out i ⟨i0, i1, hout⟩ => ⟨fun hlt => ?_, fun hge => ?_⟩⟩
 ·have hi : i.toNat < s.length := by omega
  have hg := at8_get hi
  have hca := hin _ (List.mem_of_getElem? hg)
  obtain ⟨_, hk1, hk2⟩ := ix_mem hca
  have hd := drop_at hi
  have e1 : sumD a (s.drop i.toNat) = ixN a (by8 s i.toNat) * a.length ^ (s.length - (i.toNat + 1)) + sumD a (s.drop (i.toNat + 1)) := by rw [hd, sumD, List.length_drop]
  have b1 := geo8 h8 (i + 1).toNat (by omega)
  have b2 := pow8 h8 (n := i.toNat) (by omega)
  have b4 := pow8 h8 (n := s.length - (i.toNat + 1)) (by omega)
  have b3 : (i + 1).toNat * 2097152 ≤ 7 * 2097152 := Nat.mul_le_mul_right _ (by omega)
  have b5 : ixN a (by8 s i.toNat) * a.length ^ (s.length - (i.toNat + 1)) ≤ 8 * 2097152 := Nat.mul_le_mul (by omega) b4
  have b6 := sumD_lt h1 (s := s.drop i.toNat) fun c hc => hin c (List.mem_of_mem_drop hc)
  have b7 := pow8 h8 (n := (s.drop i.toNat).length) (by rw [List.length_drop]; omega)
  obtain ⟨q, hq⟩ : ∃ q, q = ixN a (by8 s i.toNat) * a.length ^ (s.length - (i.toNat + 1)) := ⟨_, rfl⟩
  rw [← hq] at e1 b5
  have e2 : geo a.length (i + 1).toNat = geo a.length i.toNat + a.length ^ i.toNat := by rw [show (i + 1).toNat = i.toNat + 1 by omega, geo]
  refine s_chaffref_Power _ _ _ _ (power_is h8 i0 (by omega) _ _ ⟨_, rfl, inI_big (by omega) (by omega), fun k => 0 ≤ k ∧ k ≤ ixN a (by8 s i.toNat), fun k => a.length - k.toNat, ⟨by omega, by omega⟩, fun k ⟨k0, k1⟩ => ⟨_, k0, at8_get (by omega), _, i0, hg, fun hne => ⟨inI_big (by omega) (by omega), ⟨by omega, ?_⟩, ?_⟩, fun heq => ?_⟩⟩)
  ·by_cases hk : k = ixN a (by8 s i.toNat)
   ·exfalso
    apply hne
    have := at8_get hk1
    rw [hk2] at this
    rw [hk, Int.toNat_natCast, ← Option.some.inj this]
   ·omega
  ·show a.length - (k + 1).toNat < a.length - k.toNat; omega
  ·have hkk : k.toNat = ixN a (by8 s i.toNat) := by
    have : by8 a k.toNat = by8 s i.toNat := UInt8.toNat_inj.1 (by have := Decidable.not_not.1 heq; omega)
    rw [← this, ix_at hasc (by omega)]
   have hmul : k * ((a.length ^ (s.length - (i.toNat + 1)) : Nat) : Int) = ((q : Nat) : Int) := by
    rw [hq, ← hkk]
    push_cast
    rw [show ((k.toNat : Nat) : Int) = k by omega]
   have hpw : (((s.length : Nat) : Int) - 1 - i).toNat = s.length - (i.toNat + 1) := by omega
   refine ⟨inI_big (by omega) (by omega), inI_big (by omega) (by omega), s_chaffref_Power _ _ _ _ (power_is h8 (by omega) (by omega) _ _ ?_)⟩
   rw [hpw]
   refine ⟨_, rfl, ?_⟩
   rw [hmul]
   refine ⟨inI_big (by omega) (by omega), inI_big (by omega) (by omega), inI_big (by omega) (by omega), ⟨by omega, by omega, ?_⟩, ?_⟩
   ·rw [e2, show (i + 1).toNat = i.toNat + 1 by omega]
    omega
   ·show s.length - (i + 1).toNat < s.length - i.toNat; omega
 ·have e : i.toNat = s.length := by omega
  rw [e, List.drop_length] at hout
  have : out = ((rankN a s : Nat) : Int) := by unfold rankN; simp only [sumD] at hout; push_cast; omega
  rw [this]; exact hK
end
end Go.Proofs.Ythljpajbcllhhaa.core

