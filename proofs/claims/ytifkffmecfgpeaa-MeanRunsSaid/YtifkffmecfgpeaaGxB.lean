/-
  Arguments' readings, opened with their bulk; over any program.
-/
import Derived.Test.YtifkffmecfgpeaaGxU
import Derived.SizedLaws
import Derived.JoinedCond
import Derived.Deep.CondSized
namespace Go.Gx
open Go.RowKit Go.ChangeShapes

mutual
def dBulk {H : Type} : DataW H → Nat
  | .lit (.string bytes) => bytes.length + 1
  | .lit _ => 1
  | .nil => 1
  | .ptr d => dBulk d + 1
  | .slice elems spare => dBulks elems + dBulks spare + 1
  | .agg parts => dBulks parts + 1
  | .iface _ d => dBulk d + 1
  | .map entries => dBulkEs entries + 1
  | .held _ => 1
def dBulks {H : Type} : List (DataW H) → Nat
  | [] => 0
  | d :: r => dBulk d + dBulks r
def dBulkEs {H : Type} : List (Lit × DataW H) → Nat
  | [] => 0
  | x :: r => dBulkE x + dBulkEs r
def dBulkE {H : Type} : Lit × DataW H → Nat
  | (.string bytes, d) => bytes.length + dBulk d + 1
  | (_, d) => dBulk d + 1
end

theorem dBulk_pos {H : Type} (d : DataW H) : 1 ≤ dBulk d := by
  cases d with
  | lit l => cases l <;> simp [dBulk]
  | nil => simp [dBulk]
  | ptr d => simp [dBulk]
  | slice elems spare => simp [dBulk]
  | agg parts => simp [dBulk]
  | iface t d => simp [dBulk]
  | map entries => simp [dBulk]
  | held h => simp [dBulk]

section
variable {H : Type} {enc : TypeId × Value → H} {P : Program} {w : World}

/-- What stands in a cell; fuel: what is left of the reading; B: its bulk at the most. -/
def LeafB (enc : TypeId × Value → H) (P : Program) (w : World) (fuel B : Nat) : Leaf → Value → Prop
  | .int k, v => 1 ≤ B ∧ ∃ z, v = .int k z ∧ (Lit.int k z).wf = true
  | .bool, v => 1 ≤ B ∧ ∃ b, v = .bool b
  | .str, v => ∃ l, v = .string (mkS l) ∧ l.length ≤ maxLen ∧ l.length + 1 ≤ B
  | .ptr t e, v => P.underlying t = some (.pointer e) ∧ ∃ n x, n ≤ fuel ∧ dBulk x.1 ≤ B ∧ DataW.trod enc P w 0 (fun _ => true) true n t [v] = some x
  | .sl t e, v => P.underlying t = some (.slice e) ∧ ∃ n x, n ≤ fuel ∧ dBulk x.1 ≤ B ∧ DataW.trod enc P w 0 (fun _ => true) true n t [v] = some x

theorem LeafB.mono {a b B C : Nat} (h : a ≤ b) (hB : B ≤ C) (l : Leaf) (v : Value) (k : LeafB enc P w a B l v) : LeafB enc P w b C l v := by
  cases l with
  | ptr t e => obtain ⟨h0, n, x, h1, h2, h3⟩ := k; exact ⟨h0, n, x, Nat.le_trans h1 h, Nat.le_trans h2 hB, h3⟩
  | sl t e => obtain ⟨h0, n, x, h1, h2, h3⟩ := k; exact ⟨h0, n, x, Nat.le_trans h1 h, Nat.le_trans h2 hB, h3⟩
  | int k' => exact ⟨Nat.le_trans k.1 hB, k.2⟩
  | bool => exact ⟨Nat.le_trans k.1 hB, k.2⟩
  | str => obtain ⟨l, h1, h2, h3⟩ := k; exact ⟨l, h1, h2, Nat.le_trans h3 hB⟩

/-- Cells one by one, their bulks together at most B. -/
def LvB (enc : TypeId × Value → H) (P : Program) (w : World) (fuel : Nat) : Nat → List Leaf → List Value → Prop
  | _, [], cs => cs = []
  | B, l :: ls, cs => ∃ b c v vs, b + c ≤ B ∧ cs = v :: vs ∧ LeafB enc P w fuel b l v ∧ LvB enc P w fuel c ls vs

theorem LvB.mono {a b : Nat} (h : a ≤ b) : ∀ {ls : List Leaf} {B C : Nat} {cs : List Value}, B ≤ C → LvB enc P w a B ls cs → LvB enc P w b C ls cs
  | [], _, _, _, _, k => k
  | _ :: _, _, _, _, hB, ⟨x, y, v, vs, h1, h2, h3, h4⟩ => ⟨x, y, v, vs, Nat.le_trans h1 hB, h2, h3.mono h (Nat.le_refl _) _ _, h4.mono h (Nat.le_refl _)⟩
theorem LvB.append {n : Nat} : ∀ {ls ls' : List Leaf} {B C : Nat} {cs cs' : List Value}, LvB enc P w n B ls cs → LvB enc P w n C ls' cs' → LvB enc P w n (B + C) (ls ++ ls') (cs ++ cs')
  | [], _, _, _, _, _, h, k => by cases h; exact k.mono (Nat.le_refl _) (Nat.le_add_left _ _)
  | _ :: _, _, _, _, _, _, ⟨x, y, v, vs, h1, h2, h3, h4⟩, k => by subst h2; exact ⟨x, _, v, _, by omega, rfl, h3, h4.append k⟩
theorem LvB.length {n : Nat} : ∀ {ls : List Leaf} {B : Nat} {cs : List Value}, LvB enc P w n B ls cs → cs.length = ls.length
  | [], _, _, h => by cases h; rfl
  | _ :: _, _, _, ⟨_, _, _, _, _, h2, _, h4⟩ => by subst h2; simp [h4.length]

theorem trod_leavesB : ∀ (n fuel : Nat) (t : TypeId) (cs : List Value) (x : DataW H × List MemPlace) (ls : List Leaf), leaves P n t = some ls → DataW.trod enc P w 0 (fun _ => true) true fuel t cs = some x → LvB enc P w fuel (dBulk x.1) ls cs
  | 0, _, _, _, _, _, h, _ => by cases h
  | n + 1, fuel, t, cs, x, ls, h, hx => by
    unfold leaves at h
    split at h
    · rename_i hu
      simp only [Option.some.injEq] at h; subst h
      obtain ⟨b, rfl, _⟩ := DataW.trod_bool hu hx
      exact ⟨dBulk x.1, 0, _, _, by omega, rfl, ⟨dBulk_pos _, b, rfl⟩, rfl⟩
    · rename_i k hu
      simp only [Option.some.injEq] at h; subst h
      obtain ⟨z, rfl, _, hw⟩ := DataW.trod_int hu hx
      exact ⟨dBulk x.1, 0, _, _, by omega, rfl, ⟨dBulk_pos _, z, rfl, hw⟩, rfl⟩
    · rename_i hu
      simp only [Option.some.injEq] at h; subst h
      obtain ⟨s, rfl, hxe, hl⟩ := DataW.trod_string hu hx
      subst hxe
      exact ⟨s.data.toList.length + 1, 0, _, _, by simp [dBulk], rfl, ⟨s.data.toList, by rw [← mkS_eta], by simpa using hl, Nat.le_refl _⟩, rfl⟩
    · rename_i e hu
      simp only [Option.some.injEq] at h; subst h
      have : ∃ v, cs = [v] := by
        rcases DataW.trod_pointer hu hx with ⟨rfl, _⟩ | ⟨a, cs', y, m, _, rfl, _⟩ <;> exact ⟨_, rfl⟩
      obtain ⟨v, rfl⟩ := this
      exact ⟨dBulk x.1, 0, v, [], by omega, rfl, ⟨hu, fuel, x, Nat.le_refl _, Nat.le_refl _, hx⟩, rfl⟩
    · rename_i e hu
      simp only [Option.some.injEq] at h; subst h
      have : ∃ v, cs = [v] := by
        rcases DataW.trod_slice hu hx with ⟨rfl, _⟩ | ⟨a, len, cap, elems, rest, m, _, rfl, _⟩ <;> exact ⟨_, rfl⟩
      obtain ⟨v, rfl⟩ := this
      exact ⟨dBulk x.1, 0, v, [], by omega, rfl, ⟨hu, fuel, x, Nat.le_refl _, Nat.le_refl _, hx⟩, rfl⟩
    · rename_i fs hu
      simp only [Option.bind_eq_some_iff] at h
      obtain ⟨l, hl, h⟩ := h
      split at h
      · rename_i hlen
        simp only [Option.some.injEq] at h; subst h
        obtain ⟨xs, m, rfl, rfl, hcl, hxl, hf⟩ := DataW.trod_struct hu hx
        have key : ∀ (gs : List Field) (o : Nat) (l' : List Leaf) (ys : List (DataW H × List MemPlace)), catF P (leaves P n) o gs = some l' → (∀ (i : Nat) (f : Field), gs[i]? = some f → DataW.trod enc P w 0 (fun _ => true) true m f.type ((cs.drop f.offset).take (P.cellsOf f.type)) = ys[i]?) → gs.length = ys.length → o + l'.length = cs.length → LvB enc P w (m + 1) (dBulks (ys.map (·.1))) l' (cs.drop o) := by
          intro gs
          induction gs with
          | nil =>
            intro o l' ys h _ _ ho
            simp only [catF, Option.some.injEq] at h; subst h
            simp only [List.length_nil, Nat.add_zero] at ho
            exact List.drop_of_length_le (by omega)
          | cons f r ih =>
            intro o l' ys h hall hyl ho
            simp only [catF] at h
            split at h
            · rename_i hoff
              simp only [Option.bind_eq_some_iff] at h
              obtain ⟨a, ha, h⟩ := h
              split at h
              · rename_i hal
                simp only [Option.map_eq_some_iff] at h
                obtain ⟨l2, h2, rfl⟩ := h
                cases ys with
                | nil => simp at hyl
                | cons y ys =>
                  have hy := hall 0 f rfl
                  have r1 := (trod_leavesB n m f.type _ y a ha hy).mono (b := m + 1) (by omega) (Nat.le_refl _)
                  rw [hoff, ← hal] at r1
                  simp only [List.length_append] at ho
                  have r2 := ih (o + a.length) l2 ys h2 (fun i g hg => hall (i + 1) g (by simpa using hg)) (by simpa using hyl) (by omega)
                  have e : cs.drop o = (cs.drop o).take a.length ++ cs.drop (o + a.length) := by
                    rw [← List.drop_drop]; exact (List.take_append_drop _ _).symm
                  rw [e]
                  simp only [List.map_cons, dBulks]
                  exact r1.append r2
              · cases h
            · cases h
        have := key fs.toList 0 l xs hl (fun i f hi => hf i f (by simpa using hi)) (by simpa using hxl.symm) (by omega)
        rw [List.drop_zero] at this
        exact this.mono (Nat.le_refl _) (by simp only [dBulk]; omega)
      · cases h
    · rename_i k e hu
      simp only [Option.bind_eq_some_iff] at h
      obtain ⟨a, ha, h⟩ := h
      split at h
      · rename_i hc
        simp only [Option.some.injEq] at h; subst h
        obtain ⟨xs, m, rfl, rfl, hcl, hxl, hf⟩ := DataW.trod_array hu hx
        have key : ∀ (j i : Nat) (ys : List (DataW H × List MemPlace)), i + j = k → xs.drop i = ys → LvB enc P w (m + 1) (dBulks (ys.map (·.1))) (List.replicate j a).flatten (cs.drop (i * a.length)) := by
          intro j
          induction j with
          | zero =>
            intro i ys hi _
            simp only [List.replicate_zero, List.flatten_nil]
            have : i = k := by omega
            subst this
            exact List.drop_of_length_le (by omega)
          | succ j ih =>
            intro i ys hi hys
            simp only [List.replicate_succ, List.flatten_cons]
            have hlt : i < xs.length := by omega
            have r1 := (trod_leavesB n m e _ xs[i] a ha ((hf i (by omega)).trans (List.getElem?_eq_getElem hlt))).mono (b := m + 1) (by omega) (Nat.le_refl _)
            rw [← hc.1] at r1
            have r2 := ih (i + 1) _ (by omega) rfl
            have e' : cs.drop (i * a.length) = (cs.drop (i * a.length)).take a.length ++ cs.drop ((i + 1) * a.length) := by
              rw [Nat.succ_mul, ← List.drop_drop]; exact (List.take_append_drop _ _).symm
            rw [e', ← hys, List.drop_eq_getElem_cons hlt]
            simp only [List.map_cons, dBulks]
            exact r1.append r2
        have := key k 0 xs (by omega) rfl
        rw [Nat.zero_mul, List.drop_zero] at this
        exact this.mono (Nat.le_refl _) (by simp only [dBulk]; omega)
      · cases h
    · cases h

/-- A slice's reading, opened: its cells one after the other, each element's read with less. -/
theorem open_slB {fuel B : Nat} {t e : TypeId} {v : Value} {ls : List Leaf} (m : Nat) (sz : Nat) (hls : leaves P m e = some ls) (hsz : P.cellsOf e = sz) (hl : ls.length = sz) (h0 : 0 < sz) (h : LeafB enc P w fuel B (.sl t e) v) :
    ∃ A l c xss bs, v = .slice A l c ∧ SlV (HM w) A l c sz (List.flatten xss) ∧ xss.length = l ∧ l ≤ maxLen ∧ All2 (fun cs b => ∃ n, n < fuel ∧ LvB enc P w n b ls cs) xss bs ∧ bs.sum + 1 ≤ B := by
  obtain ⟨ht, n, x, hn, hB, hx⟩ := h
  rcases DataW.trod_slice ht hx with ⟨hc, hxe⟩ | ⟨a, len, cap, elems, rest, n', rfl, hc, hxe, _, hlc, hcm, hel, hels, _⟩
  · simp only [List.cons.injEq, and_true] at hc
    subst hc
    subst hxe
    exact ⟨none, 0, 0, [], [], rfl, ⟨by simp, Nat.le_refl _, by simp, fun h => by omega⟩, rfl, by simp, rfl, by simpa [dBulk] using hB⟩
  · simp only [List.cons.injEq, and_true] at hc
    subst hc
    subst hxe
    have hex : ∀ i, (hi : i < len) → ∃ cs, w.cells? 0 (a.add (i * sz)) sz = some cs ∧ LvB enc P w n' (dBulk (elems[i]'(by omega)).1) ls cs := by
      intro i hi
      have h1 := hels i hi
      rw [List.getElem?_eq_getElem (by omega), hsz] at h1
      simp only [Option.bind_eq_some_iff] at h1
      obtain ⟨cs, h2, h3⟩ := h1
      exact ⟨cs, h2, trod_leavesB m n' e cs _ ls hls h3⟩
    let f : Nat → List Value := fun i => ((w.cells? 0 (a.add (i * sz)) sz).getD [])
    have hf : ∀ i, (hi : i < len) → w.cells? 0 (a.add (i * sz)) sz = some (f i) ∧ (f i).length = sz ∧ LvB enc P w n' (dBulk (elems[i]'(by omega)).1) ls (f i) := by
      intro i hi
      obtain ⟨cs, h2, h3⟩ := hex i hi
      have : f i = cs := by simp [f, h2]
      rw [this]
      exact ⟨h2, by rw [h3.length, hl], h3⟩
    have hflat : ∀ k, k ≤ len → (((List.range k).map f).flatten).length = k * sz := by
      intro k
      induction k with
      | zero => simp
      | succ k ih =>
        intro hk
        rw [List.range_succ, List.map_append, List.flatten_append, List.length_append, ih (by omega)]
        simp [(hf k (by omega)).2.1, Nat.succ_mul]
    have hget : ∀ k, k ≤ len → ∀ j v, (((List.range k).map f).flatten)[j]? = some v → ∃ i r, i < k ∧ r < sz ∧ j = i * sz + r ∧ (f i)[r]? = some v := by
      intro k
      induction k with
      | zero => intro _ j v hj; simp at hj
      | succ k ih =>
        intro hk j v hj
        rw [List.range_succ, List.map_append, List.flatten_append, List.getElem?_append, hflat k (by omega)] at hj
        split at hj
        · obtain ⟨i, r, h1, h2, h3, h4⟩ := ih (by omega) j v hj
          exact ⟨i, r, by omega, h2, h3, h4⟩
        · rename_i hge
          simp only [List.map_cons, List.map_nil, List.flatten_cons, List.flatten_nil, List.append_nil] at hj
          have := (List.getElem?_eq_some_iff.1 hj).1
          rw [(hf k (by omega)).2.1] at this
          exact ⟨k, j - k * sz, by omega, this, by omega, hj⟩
    have hsum : ∀ l : List (DataW H × List MemPlace), (l.map fun x => dBulk x.1).sum = dBulks (l.map (·.1)) := by
      intro l
      induction l with
      | nil => rfl
      | cons x r ih => simp only [List.map_cons, List.sum_cons, dBulks, ih]
    refine ⟨some a, len, cap, (List.range len).map f, elems.map fun x => dBulk x.1, rfl, ⟨hflat len (Nat.le_refl _), hlc, hcm, fun hpos => ?_⟩, by simp, by omega, ?_, ?_⟩
    · have hs0 := (cells_at (hf 0 hpos).1 h0).1
      rw [Nat.zero_mul, Addr.add, if_pos rfl] at hs0
      refine ⟨a.block, a.off, by rw [← hs0], fun j v hj => ?_⟩
      obtain ⟨i, r, h1, h2, rfl, h4⟩ := hget len (Nat.le_refl _) j v hj
      have h5 := (cells_at (hf i h1).1 h0).2 r v h4
      rw [hs0, add_lit] at h5
      rw [← Nat.add_assoc]
      exact h5
    · refine All2.of (by simp [hel]) fun i cs b hc hb => ?_
      simp only [List.getElem?_map, Option.map_eq_some_iff] at hc hb
      obtain ⟨j, hj, rfl⟩ := hc
      obtain ⟨y, hy, rfl⟩ := hb
      obtain ⟨hjl, rfl⟩ := List.getElem?_eq_some_iff.1 hj
      simp only [List.length_range] at hjl
      simp only [List.getElem_range] at *
      obtain ⟨_, rfl⟩ := List.getElem?_eq_some_iff.1 hy
      exact ⟨n', by omega, (hf i hjl).2.2⟩
    · rw [hsum]
      simp only [dBulk] at hB
      omega

/-- The cells, typed. -/
theorem typedB {α : Type} {f : α → List Value} {p : Nat → α → Prop} : ∀ (xss : List (List Value)) (bs : List Nat), All2 (fun cs b => ∃ e, cs = f e ∧ p b e) xss bs → ∃ es : List α, xss = es.map f ∧ All2 (fun e b => p b e) es bs
  | [], _, h => by cases h; exact ⟨[], rfl, rfl⟩
  | cs :: r, _, ⟨b, bs, h1, ⟨e, he, hp⟩, h3⟩ => by
    subst h1; subst he
    obtain ⟨es, rfl, hes⟩ := typedB r bs h3
    exact ⟨e :: es, rfl, b, bs, rfl, hp, hes⟩
theorem All2.left {α β : Type} {R : α → β → Prop} : ∀ {as : List α} {bs : List β}, All2 R as bs → ∀ a ∈ as, ∃ b, R a b
  | [], _, _, a, h => by cases h
  | x :: _, _, ⟨b, bs, h1, h2, h3⟩, a, h => by
    rcases List.mem_cons.1 h with rfl | h
    · exact ⟨b, h2⟩
    · exact h3.left a h

theorem LeafB.slice {fuel B : Nat} {t e : TypeId} {v : Value} (h : LeafB enc P w fuel B (.sl t e) v) : ∃ A l c, v = .slice A l c ∧ LeafB enc P w fuel B (.sl t e) (.slice A l c) := by
  obtain ⟨ht, n, x, hn, hB, hx⟩ := id h
  rcases DataW.trod_slice ht hx with ⟨hc, _⟩ | ⟨a, len, cap, elems, rest, m, _, hc, _⟩
  · simp only [List.cons.injEq, and_true] at hc; subst hc; exact ⟨_, _, _, rfl, h⟩
  · simp only [List.cons.injEq, and_true] at hc; subst hc; exact ⟨_, _, _, rfl, h⟩
theorem LeafB.pointer {fuel B : Nat} {t e : TypeId} {v : Value} (h : LeafB enc P w fuel B (.ptr t e) v) : ∃ p, v = .pointer p ∧ LeafB enc P w fuel B (.ptr t e) (.pointer p) := by
  obtain ⟨ht, n, x, hn, hB, hx⟩ := id h
  rcases DataW.trod_pointer ht hx with ⟨hc, _⟩ | ⟨a, cs', y, m, _, hc, _⟩
  · simp only [List.cons.injEq, and_true] at hc; subst hc; exact ⟨_, rfl, h⟩
  · simp only [List.cons.injEq, and_true] at hc; subst hc; exact ⟨_, rfl, h⟩

/-! ### The arguments -/

/-- A text: its length is in the reach, and in the bulk. -/
theorem argStrB {r : Reach} {b0 : Nat} {t : TypeId} {v : Value} {d : DataW H} {ps : List MemPlace} (ht : P.underlying t = some .string) (hval : Value.okWide P w r b0 t v) (hd : DataW.Trod enc P w 0 (fun _ => true) true t v d ps) :
    ∃ l, v = .string (mkS l) ∧ d = .lit (.string l) ∧ l.length + 1 = dBulk d := by
  obtain ⟨s, rfl⟩ := WideShapes.okWide_string ht hval
  obtain ⟨fuel, hf⟩ := hd
  obtain ⟨s', h, hx, hs⟩ := DataW.trod_string ht hf
  simp [Value.cells] at h
  subst h
  simp only [Prod.mk.injEq] at hx
  obtain ⟨rfl, _⟩ := hx
  exact ⟨s.data.toList, by rw [← mkS_eta], rfl, by simp [dBulk]⟩

theorem argAggB {r : Reach} {b0 : Nat} {t : TypeId} {fs : Array Field} {ls : List Leaf} {v : Value} {d : DataW H} {ps : List MemPlace} (m : Nat) (ht : P.underlying t = some (.struct fs)) (hls : leaves P m t = some ls) (hval : Value.okWide P w r b0 t v) (hd : DataW.Trod enc P w 0 (fun _ => true) true t v d ps) :
    ∃ cs fuel, v = .agg cs.toArray ∧ LvB enc P w fuel (dBulk d) ls cs := by
  obtain ⟨cs, rfl, _⟩ := WideShapes.okWide_struct ht hval
  obtain ⟨fuel, hf⟩ := hd
  exact ⟨cs.toList, fuel, rfl, trod_leavesB m fuel t _ _ ls hls (by simpa [Value.cells] using hf)⟩

end
end Go.Gx
