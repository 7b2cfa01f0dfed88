/-
  The outermost frame, over any program: an argument's reading opened to typed Lean data in the visible memory, and the arguments' readings carried behind the call.
-/
import Derived.Test.YtaljnkggjadonaaGxR
import Derived.ProofKit
import Derived.OpenShut
import Derived.ShutString
import Derived.ChangeOld
import Derived.Carry
namespace Go.Gx
open Go.RowKit Go.ChangeShapes

/-- All that stands in a world. -/
def HM (w : World) : Mem := fun b => w.heap[b]?
theorem HM.on (w : World) : On (HM w) w := fun _ _ h => h
theorem HM.cell {w : World} {b i : Nat} {v : Value} (h : w.cell? ⟨b, i, none⟩ = some v) : (HM w).cell b i = some v := by
  unfold World.cell? at h
  unfold Mem.cell HM
  simp only at h ⊢
  split at h
  · rename_i hq
    rw [hq]
    simpa using h
  · cases h

theorem cell_spot {w : World} {a : Addr} {v : Value} (h : w.cell? a = some v) : a = ⟨a.block, a.off, none⟩ := by
  unfold World.cell? at h
  split at h
  · split at h
    · cases h
    · rename_i hs
      obtain ⟨b, o, s⟩ := a
      cases s <;> simp_all
  · cases h

/-! ### One by one -/

def All2 {α β : Type} (R : α → β → Prop) : List α → List β → Prop
  | [], cs => cs = []
  | a :: as, cs => ∃ b bs, cs = b :: bs ∧ R a b ∧ All2 R as bs

theorem All2.append {α β : Type} {R : α → β → Prop} : ∀ {as as' : List α} {bs bs' : List β}, All2 R as bs → All2 R as' bs' → All2 R (as ++ as') (bs ++ bs')
  | [], _, _, _, h, k => by cases h; exact k
  | _ :: _, _, _, _, ⟨b, bs, h1, h2, h3⟩, k => by subst h1; exact ⟨b, _, rfl, h2, h3.append k⟩

theorem All2.length {α β : Type} {R : α → β → Prop} : ∀ {as : List α} {bs : List β}, All2 R as bs → bs.length = as.length
  | [], _, h => by cases h; rfl
  | _ :: _, _, ⟨_, _, h1, _, h3⟩ => by subst h1; simp [h3.length]

theorem All2.mono {α β : Type} {R R' : α → β → Prop} (hR : ∀ a b, R a b → R' a b) : ∀ {as : List α} {bs : List β}, All2 R as bs → All2 R' as bs
  | [], _, h => h
  | _ :: _, _, ⟨b, bs, h1, h2, h3⟩ => ⟨b, bs, h1, hR _ _ h2, h3.mono hR⟩

/-! ### A type's cells -/

inductive Leaf
  | int (k : IntKind)
  | bool
  | str
  | ptr (t e : TypeId)
  | sl (t e : TypeId)

def catF (P : Program) (g : TypeId → Option (List Leaf)) : Nat → List Field → Option (List Leaf)
  | _, [] => some []
  | o, f :: r => if f.offset = o then (g f.type).bind fun m => if m.length = P.cellsOf f.type then (catF P g (o + m.length) r).map (m ++ ·) else none else none

def leaves (P : Program) : Nat → TypeId → Option (List Leaf)
  | 0, _ => none
  | n + 1, t => match P.underlying t with
    | some .bool => some [.bool]
    | some (.int k) => some [.int k]
    | some .string => some [.str]
    | some (.pointer e) => some [.ptr t e]
    | some (.slice e) => some [.sl t e]
    | some (.struct fs) => (catF P (leaves P n) 0 fs.toList).bind fun l => if l.length = P.cellsOf t then some l else none
    | some (.array k e) => (leaves P n e).bind fun m => if m.length = P.cellsOf e ∧ k * m.length = P.cellsOf t then some (List.replicate k m).flatten else none
    | _ => none

section
variable {H : Type} {enc : TypeId × Value → H} {P : Program} {w : World}

/-- What stands in a cell; fuel: what is left of the reading. -/
def LeafR (enc : TypeId × Value → H) (P : Program) (w : World) (fuel : Nat) : Leaf → Value → Prop
  | .int k, v => ∃ z, v = .int k z ∧ (Lit.int k z).wf = true
  | .bool, v => ∃ b, v = .bool b
  | .str, v => ∃ l, v = .string (mkS l) ∧ l.length ≤ maxLen
  | .ptr t e, v => P.underlying t = some (.pointer e) ∧ ∃ n x, n ≤ fuel ∧ DataW.trod enc P w 0 (fun _ => true) true n t [v] = some x
  | .sl t e, v => P.underlying t = some (.slice e) ∧ ∃ n x, n ≤ fuel ∧ DataW.trod enc P w 0 (fun _ => true) true n t [v] = some x

theorem LeafR.mono {a b : Nat} (h : a ≤ b) (l : Leaf) (v : Value) (k : LeafR enc P w a l v) : LeafR enc P w b l v := by
  cases l with
  | ptr t e => obtain ⟨h0, n, x, h1, h2⟩ := k; exact ⟨h0, n, x, Nat.le_trans h1 h, h2⟩
  | sl t e => obtain ⟨h0, n, x, h1, h2⟩ := k; exact ⟨h0, n, x, Nat.le_trans h1 h, h2⟩
  | _ => exact k

theorem trod_leaves : ∀ (n fuel : Nat) (t : TypeId) (cs : List Value) (x : DataW H × List MemPlace) (ls : List Leaf), leaves P n t = some ls → DataW.trod enc P w 0 (fun _ => true) true fuel t cs = some x → All2 (LeafR enc P w fuel) ls cs
  | 0, _, _, _, _, _, h, _ => by cases h
  | n + 1, fuel, t, cs, x, ls, h, hx => by
    unfold leaves at h
    split at h
    · rename_i hu
      simp only [Option.some.injEq] at h; subst h
      obtain ⟨b, rfl, _⟩ := DataW.trod_bool hu hx
      exact ⟨_, _, rfl, ⟨b, rfl⟩, rfl⟩
    · rename_i k hu
      simp only [Option.some.injEq] at h; subst h
      obtain ⟨z, rfl, _, hw⟩ := DataW.trod_int hu hx
      exact ⟨_, _, rfl, ⟨z, rfl, hw⟩, rfl⟩
    · rename_i hu
      simp only [Option.some.injEq] at h; subst h
      obtain ⟨s, rfl, _, hl⟩ := DataW.trod_string hu hx
      exact ⟨_, _, rfl, ⟨s.data.toList, by rw [← mkS_eta], by simpa using hl⟩, rfl⟩
    · rename_i e hu
      simp only [Option.some.injEq] at h; subst h
      have : ∃ v, cs = [v] := by
        rcases DataW.trod_pointer hu hx with ⟨rfl, _⟩ | ⟨a, cs', y, m, _, rfl, _⟩ <;> exact ⟨_, rfl⟩
      obtain ⟨v, rfl⟩ := this
      exact ⟨v, [], rfl, ⟨hu, fuel, x, Nat.le_refl _, hx⟩, rfl⟩
    · rename_i e hu
      simp only [Option.some.injEq] at h; subst h
      have : ∃ v, cs = [v] := by
        rcases DataW.trod_slice hu hx with ⟨rfl, _⟩ | ⟨a, len, cap, elems, rest, m, _, rfl, _⟩ <;> exact ⟨_, rfl⟩
      obtain ⟨v, rfl⟩ := this
      exact ⟨v, [], rfl, ⟨hu, fuel, x, Nat.le_refl _, hx⟩, rfl⟩
    · rename_i fs hu
      simp only [Option.bind_eq_some_iff] at h
      obtain ⟨l, hl, h⟩ := h
      split at h
      · rename_i hlen
        simp only [Option.some.injEq] at h; subst h
        obtain ⟨xs, m, rfl, _, hcl, hxl, hf⟩ := DataW.trod_struct hu hx
        have key : ∀ (gs : List Field) (o : Nat) (l' : List Leaf), catF P (leaves P n) o gs = some l' → (∀ f ∈ gs, ∃ y, DataW.trod enc P w 0 (fun _ => true) true m f.type ((cs.drop f.offset).take (P.cellsOf f.type)) = some y) → o + l'.length = cs.length → All2 (LeafR enc P w (m + 1)) l' (cs.drop o) := by
          intro gs
          induction gs with
          | nil =>
            intro o l' h _ ho
            simp only [catF, Option.some.injEq] at h; subst h
            simp only [List.length_nil, Nat.add_zero] at ho
            exact List.drop_of_length_le (by omega)
          | cons f r ih =>
            intro o l' h hall ho
            simp only [catF] at h
            split at h
            · rename_i hoff
              simp only [Option.bind_eq_some_iff] at h
              obtain ⟨a, ha, h⟩ := h
              split at h
              · rename_i hal
                simp only [Option.map_eq_some_iff] at h
                obtain ⟨l2, h2, rfl⟩ := h
                obtain ⟨y, hy⟩ := hall f (by simp)
                have r1 := (trod_leaves n m f.type _ y a ha hy).mono (LeafR.mono (b := m + 1) (by omega))
                rw [hoff, ← hal] at r1
                simp only [List.length_append] at ho
                have r2 := ih (o + a.length) l2 h2 (fun g hg => hall g (by simp [hg])) (by omega)
                have e : cs.drop o = (cs.drop o).take a.length ++ cs.drop (o + a.length) := by
                  rw [← List.drop_drop]; exact (List.take_append_drop _ _).symm
                rw [e]
                exact r1.append r2
              · cases h
            · cases h
        have := key fs.toList 0 l hl (fun f hf' => by
          obtain ⟨i, hi⟩ := List.mem_iff_getElem?.1 hf'
          have hi' : fs[i]? = some f := by simpa using hi
          have hlt : i < xs.length := by rw [hxl]; exact (Array.getElem?_eq_some_iff.1 hi').1
          exact ⟨xs[i], (hf i f hi').trans (List.getElem?_eq_getElem hlt)⟩) (by omega)
        simpa using this
      · cases h
    · rename_i k e hu
      simp only [Option.bind_eq_some_iff] at h
      obtain ⟨a, ha, h⟩ := h
      split at h
      · rename_i hc
        simp only [Option.some.injEq] at h; subst h
        obtain ⟨xs, m, rfl, _, hcl, hxl, hf⟩ := DataW.trod_array hu hx
        have key : ∀ (j i : Nat), i + j = k → All2 (LeafR enc P w (m + 1)) (List.replicate j a).flatten (cs.drop (i * a.length)) := by
          intro j
          induction j with
          | zero =>
            intro i hi
            simp only [List.replicate_zero, List.flatten_nil]
            have : i = k := by omega
            subst this
            exact List.drop_of_length_le (by omega)
          | succ j ih =>
            intro i hi
            simp only [List.replicate_succ, List.flatten_cons]
            have hlt : i < xs.length := by omega
            have r1 := (trod_leaves n m e _ xs[i] a ha ((hf i (by omega)).trans (List.getElem?_eq_getElem hlt))).mono (LeafR.mono (b := m + 1) (by omega))
            rw [← hc.1] at r1
            have r2 := ih (i + 1) (by omega)
            have e' : cs.drop (i * a.length) = (cs.drop (i * a.length)).take a.length ++ cs.drop ((i + 1) * a.length) := by
              rw [Nat.succ_mul, ← List.drop_drop]; exact (List.take_append_drop _ _).symm
            rw [e']
            exact r1.append r2
        simpa using key k 0 (by omega)
      · cases h
    · cases h

theorem cells_at {a : Addr} {n : Nat} {cs : List Value} (h : w.cells? 0 a n = some cs) (hn : 0 < n) : a = ⟨a.block, a.off, none⟩ ∧ ∀ j v, cs[j]? = some v → (HM w).cell a.block (a.off + j) = some v := by
  obtain ⟨_, hl, hc⟩ := World.cells?_some h
  have h0 := hc 0 hn
  have hs : a = ⟨a.block, a.off, none⟩ := by
    rw [Addr.add, if_pos rfl, List.getElem?_eq_getElem (by omega)] at h0
    exact cell_spot h0
  refine ⟨hs, fun j v hj => HM.cell ?_⟩
  have := hc j (by have := (List.getElem?_eq_some_iff.1 hj).1; omega)
  rw [hj, hs, add_lit] at this
  exact this

/-- A slice's reading, opened: its cells one after the other, each element's read with less. -/
theorem open_sl {fuel : Nat} {t e : TypeId} {v : Value} {ls : List Leaf} (m : Nat) (sz : Nat) (hls : leaves P m e = some ls) (hsz : P.cellsOf e = sz) (hl : ls.length = sz) (h0 : 0 < sz) (h : LeafR enc P w fuel (.sl t e) v) :
    ∃ A l c xss, v = .slice A l c ∧ SlV (HM w) A l c sz (List.flatten xss) ∧ xss.length = l ∧ l ≤ maxLen ∧ ∀ cs ∈ xss, ∃ n, n < fuel ∧ All2 (LeafR enc P w n) ls cs := by
  obtain ⟨ht, n, x, hn, hx⟩ := h
  rcases DataW.trod_slice ht hx with ⟨hc, _⟩ | ⟨a, len, cap, elems, rest, n', rfl, hc, _, _, hlc, hcm, hel, hels, _⟩
  · simp only [List.cons.injEq, and_true] at hc
    subst hc
    exact ⟨none, 0, 0, [], rfl, ⟨by simp, Nat.le_refl _, by simp, fun h => by omega⟩, rfl, by simp, by simp⟩
  · simp only [List.cons.injEq, and_true] at hc
    subst hc
    have hex : ∀ i, i < len → ∃ cs, w.cells? 0 (a.add (i * sz)) sz = some cs ∧ All2 (LeafR enc P w n') ls cs := by
      intro i hi
      have h1 := hels i hi
      rw [List.getElem?_eq_getElem (by omega), hsz] at h1
      simp only [Option.bind_eq_some_iff] at h1
      obtain ⟨cs, h2, h3⟩ := h1
      exact ⟨cs, h2, trod_leaves m n' e cs _ ls hls h3⟩
    let f : Nat → List Value := fun i => ((w.cells? 0 (a.add (i * sz)) sz).getD [])
    have hf : ∀ i, i < len → w.cells? 0 (a.add (i * sz)) sz = some (f i) ∧ (f i).length = sz ∧ All2 (LeafR enc P w n') ls (f i) := by
      intro i hi
      obtain ⟨cs, h2, h3⟩ := hex i hi
      have : f i = cs := by simp [f, h2]
      rw [this]
      exact ⟨h2, by rw [h3.length, hl], h3⟩
    have hflat : ∀ k, k ≤ len → (((List.range k).map f).flatten).length = k * sz := by
      intro k
      induction k with
      | zero => simp
      | succ k ih =>
        intro hk
        rw [List.range_succ, List.map_append, List.flatten_append, List.length_append, ih (by omega)]
        simp [(hf k (by omega)).2.1, Nat.succ_mul]
    have hget : ∀ k, k ≤ len → ∀ j v, (((List.range k).map f).flatten)[j]? = some v → ∃ i r, i < k ∧ r < sz ∧ j = i * sz + r ∧ (f i)[r]? = some v := by
      intro k
      induction k with
      | zero => intro _ j v hj; simp at hj
      | succ k ih =>
        intro hk j v hj
        rw [List.range_succ, List.map_append, List.flatten_append, List.getElem?_append, hflat k (by omega)] at hj
        split at hj
        · obtain ⟨i, r, h1, h2, h3, h4⟩ := ih (by omega) j v hj
          exact ⟨i, r, by omega, h2, h3, h4⟩
        · rename_i hge
          simp only [List.map_cons, List.map_nil, List.flatten_cons, List.flatten_nil, List.append_nil] at hj
          have := (List.getElem?_eq_some_iff.1 hj).1
          rw [(hf k (by omega)).2.1] at this
          exact ⟨k, j - k * sz, by omega, this, by omega, hj⟩
    refine ⟨some a, len, cap, (List.range len).map f, rfl, ⟨hflat len (Nat.le_refl _), hlc, hcm, fun hpos => ?_⟩, by simp, by omega, fun cs hcs => ?_⟩
    · have hs0 := (cells_at (hf 0 hpos).1 h0).1
      rw [Nat.zero_mul, Addr.add, if_pos rfl] at hs0
      refine ⟨a.block, a.off, by rw [← hs0], fun j v hj => ?_⟩
      obtain ⟨i, r, h1, h2, rfl, h4⟩ := hget len (Nat.le_refl _) j v hj
      have h5 := (cells_at (hf i h1).1 h0).2 r v h4
      rw [hs0, add_lit] at h5
      rw [← Nat.add_assoc]
      exact h5
    · obtain ⟨i, hi, rfl⟩ := List.mem_map.1 hcs
      exact ⟨n', by omega, (hf i (List.mem_range.1 hi)).2.2⟩

/-- The cells, typed. -/
theorem typed {α : Type} {f : α → List Value} : ∀ (xss : List (List Value)), (∀ cs ∈ xss, ∃ e, cs = f e) → ∃ es : List α, xss = es.map f ∧ es.length = xss.length
  | [], _ => ⟨[], rfl, rfl⟩
  | cs :: r, h => by
    obtain ⟨e, rfl⟩ := h cs (by simp)
    obtain ⟨es, rfl, hl⟩ := typed r fun cs hcs => h cs (by simp [hcs])
    exact ⟨e :: es, rfl, by simp⟩

theorem typedP {α : Type} {f : α → List Value} {p : α → Prop} : ∀ (xss : List (List Value)), (∀ cs ∈ xss, ∃ e, cs = f e ∧ p e) → ∃ es : List α, xss = es.map f ∧ es.length = xss.length ∧ ∀ e ∈ es, p e
  | [], _ => ⟨[], rfl, rfl, by simp⟩
  | cs :: r, h => by
    obtain ⟨e, rfl, hp⟩ := h cs (by simp)
    obtain ⟨es, rfl, hl, hall⟩ := typedP r fun cs hcs => h cs (by simp [hcs])
    exact ⟨e :: es, rfl, by simp, fun x hx => by
      rcases List.mem_cons.1 hx with rfl | hx
      · exact hp
      · exact hall x hx⟩

/-! ### The arguments -/

theorem argSl {r : Reach} {b0 : Nat} {t e : TypeId} {v : Value} {d : DataW H} {ps : List MemPlace} (ht : P.underlying t = some (.slice e)) (hval : Value.okWide P w r b0 t v) (hd : DataW.Trod enc P w 0 (fun _ => true) true t v d ps) :
    ∃ A l c fuel, v = .slice A l c ∧ LeafR enc P w fuel (.sl t e) (.slice A l c) := by
  obtain ⟨A, l, c, rfl⟩ := WideShapes.okWide_slice ht hval
  obtain ⟨fuel, hf⟩ := hd
  exact ⟨A, l, c, fuel, rfl, ht, fuel, _, Nat.le_refl _, by simpa [Value.cells] using hf⟩

theorem argInt {r : Reach} {b0 : Nat} {t : TypeId} {k : IntKind} {v : Value} {d : DataW H} {ps : List MemPlace} (ht : P.underlying t = some (.int k)) (hval : Value.okWide P w r b0 t v) (hd : DataW.Trod enc P w 0 (fun _ => true) true t v d ps) :
    ∃ z, v = .int k z ∧ (Lit.int k z).wf = true := by
  obtain ⟨n, h1, _, _, h2⟩ := open_int ht hval hd
  exact ⟨n, h1, h2⟩

theorem argBool {r : Reach} {b0 : Nat} {t : TypeId} {v : Value} {d : DataW H} {ps : List MemPlace} (ht : P.underlying t = some .bool) (hval : Value.okWide P w r b0 t v) (_hd : DataW.Trod enc P w 0 (fun _ => true) true t v d ps) :
    ∃ z, v = .bool z := WideShapes.okWide_bool ht hval

theorem argStr {r : Reach} {b0 : Nat} {t : TypeId} {v : Value} {d : DataW H} {ps : List MemPlace} (ht : P.underlying t = some .string) (hval : Value.okWide P w r b0 t v) (hd : DataW.Trod enc P w 0 (fun _ => true) true t v d ps) :
    ∃ l, v = .string (mkS l) ∧ l.length ≤ maxLen := by
  obtain ⟨s, rfl⟩ := WideShapes.okWide_string ht hval
  obtain ⟨fuel, hf⟩ := hd
  obtain ⟨s', h, hx, hs⟩ := DataW.trod_string ht hf
  simp [Value.cells] at h
  subst h
  exact ⟨s.data.toList, by rw [← mkS_eta], by simpa using hs⟩

theorem argAgg {r : Reach} {b0 : Nat} {t : TypeId} {fs : Array Field} {ls : List Leaf} {v : Value} {d : DataW H} {ps : List MemPlace} (m : Nat) (ht : P.underlying t = some (.struct fs)) (hls : leaves P m t = some ls) (hval : Value.okWide P w r b0 t v) (hd : DataW.Trod enc P w 0 (fun _ => true) true t v d ps) :
    ∃ cs fuel, v = .agg cs.toArray ∧ All2 (LeafR enc P w fuel) ls cs := by
  obtain ⟨cs, rfl, _⟩ := WideShapes.okWide_struct ht hval
  obtain ⟨fuel, hf⟩ := hd
  exact ⟨cs.toList, fuel, rfl, trod_leaves m fuel t _ _ ls hls (by simpa [Value.cells] using hf)⟩

theorem okWide_array {r : Reach} {b0 : Nat} {t e : TypeId} {n : Nat} {v : Value} (ht : P.underlying t = some (.array n e)) (h : Value.okWide P w r b0 t v) : ∃ cs, v = .agg cs ∧ cs.size = P.cellsOf t := by
  simp only [Value.okWide, ht] at h
  obtain ⟨cs, h1, h2, _⟩ := h
  exact ⟨cs, h1, h2⟩

theorem argAggA {r : Reach} {b0 : Nat} {t e : TypeId} {n : Nat} {ls : List Leaf} {v : Value} {d : DataW H} {ps : List MemPlace} (m : Nat) (ht : P.underlying t = some (.array n e)) (hls : leaves P m t = some ls) (hval : Value.okWide P w r b0 t v) (hd : DataW.Trod enc P w 0 (fun _ => true) true t v d ps) :
    ∃ cs fuel, v = .agg cs.toArray ∧ All2 (LeafR enc P w fuel) ls cs := by
  obtain ⟨cs, rfl, _⟩ := okWide_array ht hval
  obtain ⟨fuel, hf⟩ := hd
  exact ⟨cs.toList, fuel, rfl, trod_leaves m fuel t _ _ ls hls (by simpa [Value.cells] using hf)⟩

theorem LeafR.slice {fuel : Nat} {t e : TypeId} {v : Value} (h : LeafR enc P w fuel (.sl t e) v) : ∃ A l c, v = .slice A l c ∧ LeafR enc P w fuel (.sl t e) (.slice A l c) := by
  obtain ⟨ht, n, x, hn, hx⟩ := id h
  rcases DataW.trod_slice ht hx with ⟨hc, _⟩ | ⟨a, len, cap, elems, rest, m, _, hc, _⟩
  · simp only [List.cons.injEq, and_true] at hc
    subst hc; exact ⟨_, _, _, rfl, h⟩
  · simp only [List.cons.injEq, and_true] at hc
    subst hc; exact ⟨_, _, _, rfl, h⟩

theorem LeafR.pointer {fuel : Nat} {t e : TypeId} {v : Value} (h : LeafR enc P w fuel (.ptr t e) v) : ∃ p, v = .pointer p ∧ LeafR enc P w fuel (.ptr t e) (.pointer p) := by
  obtain ⟨ht, n, x, hn, hx⟩ := id h
  rcases DataW.trod_pointer ht hx with ⟨hc, _⟩ | ⟨a, cs', y, m, _, hc, _⟩
  · simp only [List.cons.injEq, and_true] at hc
    subst hc; exact ⟨_, rfl, h⟩
  · simp only [List.cons.injEq, and_true] at hc
    subst hc; exact ⟨_, rfl, h⟩

/-- A pointer's reading, opened. -/
theorem open_ptr {fuel : Nat} {t e : TypeId} {v : Value} {ls : List Leaf} (m : Nat) (hls : leaves P m e = some ls) (hsz : P.cellsOf e = ls.length) (h0 : 0 < ls.length) (h : LeafR enc P w fuel (.ptr t e) v) :
    v = .pointer none ∨ ∃ b o cs n, v = .pointer (some ⟨b, o, none⟩) ∧ n < fuel ∧ At (HM w) b o cs ∧ All2 (LeafR enc P w n) ls cs := by
  obtain ⟨ht, n, x, hn, hx⟩ := h
  rcases DataW.trod_pointer ht hx with ⟨hc, _⟩ | ⟨a, cs', y, k, rfl, hc, _, hcs, hk⟩
  · simp only [List.cons.injEq, and_true] at hc
    exact .inl hc
  · simp only [List.cons.injEq, and_true] at hc
    rw [hsz] at hcs
    obtain ⟨h1, h2⟩ := cells_at hcs h0
    refine .inr ⟨a.block, a.off, cs', k, by rw [hc, ← h1], by omega, fun j v hj => h2 j v hj, trod_leaves m k e cs' y ls hls hk⟩

theorem trodAll_below (hl : laidOutB P = true) {W W' : World} (hb : Below W.heap.size W W') : ∀ {ts : List TypeId} {vs : List Value} {ds : List (DataW H)} {ps : List MemPlace}, (ts.all fun t => P.readableRec t && decide (t < P.types.size)) = true →
    DataW.TrodAll enc P W 0 (fun _ => true) true ts vs ds ps → DataW.TrodAll enc P W' 0 (fun b => decide (b < W.heap.size)) true ts vs ds ps
  | [], _, _, _, _, h => by
    obtain ⟨rfl, rfl, rfl⟩ := trodAll_nil h
    exact trodAll_mk0
  | t :: ts, _, _, _, hr, h => by
    simp only [List.all_cons, Bool.and_eq_true, decide_eq_true_eq] at hr
    obtain ⟨v, vs, d, ds, p, q, rfl, rfl, rfl, h1, h2⟩ := trodAll_cons h
    have hlt : ∀ x ∈ p, x.block < W.heap.size := by
      obtain ⟨m, hm⟩ := h1
      exact DataW.trod_lt m _ _ _ hm
    exact trodAll_cons_mk (Below.trod hl hr.1.1 hr.1.2 h1 hb hlt) (trodAll_below hl hb (by simpa using hr.2) h2)
end

/-- One element of a slice. -/
theorem flat_part {α : Type} {f : α → List Value} {sz : Nat} : ∀ (es : List α) (_ : ∀ e ∈ es, (f e).length = sz) (i : Nat) (e : α), es[i]? = some e → (((es.map f).flatten).drop (i * sz)).take (f e).length = f e
  | [], _, i, e, h => by simp at h
  | a :: r, hf, 0, e, h => by
    simp only [List.getElem?_cons_zero, Option.some.injEq] at h; subst h
    simp
  | a :: r, hf, i + 1, e, h => by
    simp only [List.getElem?_cons_succ] at h
    have ha := hf a (by simp)
    have := flat_part r (fun e he => hf e (by simp [he])) i e h
    simp only [List.map_cons, List.flatten_cons]
    rw [Nat.succ_mul, List.drop_append, List.drop_of_length_le (by omega), List.nil_append, ha, Nat.add_sub_cancel]
    exact this

theorem SlV.elem {α : Type} {f : α → List Value} {M : Mem} {A : Option Addr} {l c sz : Nat} {es : List α} (h : SlV M A l c sz ((es.map f).flatten)) (hl : es.length = l) (hf : ∀ e ∈ es, (f e).length = sz) {i : Nat} {e : α} (he : es[i]? = some e) :
    ∃ b o, A = some ⟨b, o, none⟩ ∧ At M b (o + i * sz) (f e) := by
  have hi : i < es.length := (List.getElem?_eq_some_iff.1 he).1
  obtain ⟨b, o, ha, hat⟩ := h.2.2.2 (by omega)
  exact ⟨b, o, ha, hat.part (i * sz) (f e) (flat_part es hf i e he)⟩

end Go.Gx
