/-
  Maps with pairs of numbers for keys, in the visible memory, over any program.
-/
import Derived.Test.YtifkffmecfgpeaaGxW
import Derived.Maps.Keyed
import Derived.DeepKeys3
import Derived.ChangeMaps4
namespace Go.Gx
open Go.RowKit Go.Maps Go.WideMaps

/-- A key of two numbers. -/
def pk (a b : Int) : Value := .agg #[.int .i64 a, .int .i64 b]
theorem pk_inj {a b c d : Int} (h : pk a b = pk c d) : a = c ∧ b = d := by
  simp only [pk, Value.agg.injEq, Array.mk.injEq, List.cons.injEq, Value.int.injEq, and_true, true_and] at h
  exact h

/-- A type whose values are two numbers. -/
structure KeyP (P : Program) (k : TypeId) : Prop where
  keyed : Keyed P k
  of : ∀ a b : Int, InI a → InI b → ∃ l, keyOf P k (pk a b) = some l

theorem wf_in {a : Int} (h : InI a) : (Lit.int .i64 a).wf = true := by
  have h1 := h.1
  have h2 := h.2
  show (decide (IntKind.i64.min ≤ a) && decide (a ≤ IntKind.i64.max)) = true
  rw [Bool.and_eq_true, decide_eq_true_eq, decide_eq_true_eq]
  exact ⟨h1, h2⟩

theorem keyLits_int {P : Program} {e : TypeId} (he : P.underlying e = some (.int .i64)) {z : Int} (hz : InI z) (d : Nat) : P.keyLits (d + 1) e [.int .i64 z] = some [.int .i64 z] := by
  rw [Program.keyLits.eq_def]
  simp only [he]
  rw [if_pos ⟨trivial, wf_in hz⟩]

theorem KeyP.array {P : Program} {k e : TypeId} (m : Nat) (hm : m + 1 ≤ 10000) (hk : P.keyTypeAt m k = true) (ht : P.tiled m k = true) (hu : P.underlying k = some (.array 2 e)) (he : P.underlying e = some (.int .i64)) (hc : P.cellsOf k = 2) (hce : P.cellsOf e = 1) (hkt : P.keyType k = true) (hn : P.types.size = P.types.size - 1 + 1) : KeyP P k := by
  refine ⟨Keyed.of_law (deep_law hm hk ht (by rw [hu])), fun a b ha hb => ?_⟩
  have hf : (pk a b).formed P k = true := by simp [pk, Value.formed, hu, hc]
  have h1 : ∀ z, InI z → P.keyLits P.types.size e [.int .i64 z] = some [.int .i64 z] := fun z hz => by
    rw [hn]; exact keyLits_int he hz _
  refine ⟨.string (keyBytes [.int .i64 a, .int .i64 b]), ?_⟩
  unfold keyOf
  simp only [hu, hkt, hf, Bool.and_self, if_true]
  have : (pk a b).cells.toList = [.int .i64 a, .int .i64 b] := rfl
  rw [this, Program.keyLits.eq_def]
  simp only [hu, List.length_cons, List.length_nil, hc, if_true, hce]
  have hr : List.range 2 = [0, 1] := rfl
  rw [hr]
  simp [List.mapM_cons, h1 a ha, h1 b hb]

/-- What a map holds. -/
def MapF (M : Mem) (r : Nat) (f : Int → Int → Option Value) : Prop :=
  ∃ es clk, M r = some (.map es clk) ∧ (∀ e ∈ es.toList, ∃ a b, e.key = pk a b ∧ InI a ∧ InI b ∧ f a b = some e.val) ∧ (∀ a b v, f a b = some v → ∃ e ∈ es.toList, e.key = pk a b) ∧ ∀ (i j : Nat) e e', es[i]? = some e → es[j]? = some e' → e.key = e'.key → i = j

theorem MapF.le {M M' : Mem} {r : Nat} {f : Int → Int → Option Value} (h : MapF M r f) (k : M.le M') : MapF M' r f := by
  obtain ⟨es, clk, h1, h2⟩ := h
  exact ⟨es, clk, k _ _ h1, h2⟩
theorem MapF.new (M : Mem) (r : Nat) : MapF (M.add r (.map #[] 0)) r fun _ _ => none :=
  ⟨#[], 0, Mem.add_eq, fun e h => by simp at h, (fun a b v h => by cases h), fun i j e e' h => by simp at h⟩

/-- A map with one entry set. -/
def MapS (M : Mem) (r : Nat) (a b : Int) (v : Value) (M' : Mem) : Prop :=
  ∃ o, M' = M.add r o ∧ (M r).isSome = true ∧ ∀ f g, MapF M r f → g a b = some v → (∀ c d, ¬ (c = a ∧ d = b) → g c d = f c d) → MapF M' r g

theorem MapS.ne {M M' : Mem} {r x : Nat} {a b : Int} {v : Value} (h : MapS M r a b v M') (hx : x ≠ r) : M' x = M x := by
  obtain ⟨o, rfl, _⟩ := h; exact Mem.add_ne hx

section
variable {P : Program} {ops : Array Oper} {Q : Exit → Act → World → Prop} {n : Nat} {E : World} {M M0 : Mem} {L : Nat → Prop} {w : World} {a : Act} {env : Env} {bs : List Bx} {rs : List Rw} {rest : List Oper}
variable {d : Option Tmp} {ty : TypeId} {pos : String} {af : Array Edge} {gd : Option (Nat × Bool)}

theorem map_find {k : TypeId} (K : KeyP P k) {f : Int → Int → Option Value} {es : Array MapEntry} (h1 : ∀ e ∈ es.toList, ∃ a b, e.key = pk a b ∧ InI a ∧ InI b ∧ f a b = some e.val) (h2 : ∀ a b v, f a b = some v → ∃ e ∈ es.toList, e.key = pk a b) {x y : Int} (hx : InI x) (hy : InI y) (w : World) :
    ((Instr.findKey k (pk x y) es.toList).run P w = .ok none w ∧ f x y = none ∧ ∀ e ∈ es.toList, e.key ≠ pk x y) ∨ ∃ j e, (Instr.findKey k (pk x y) es.toList).run P w = .ok (some (j, e.val)) w ∧ es.toList[j]? = some e ∧ e.key = pk x y ∧ f x y = some e.val := by
  obtain ⟨l, hl⟩ := K.of x y hx hy
  rcases K.keyed.find w hl es.toList (fun e he => by obtain ⟨a, b, hk, ha, hb, _⟩ := h1 e he; rw [hk]; exact K.of a b ha hb) with ⟨g1, g2⟩ | ⟨j, e, g1, g2, g3⟩
  · refine .inl ⟨g1, ?_, g2⟩
    cases hf : f x y with
    | none => rfl
    | some v => obtain ⟨e, he, hk⟩ := h2 x y v hf; exact absurd hk (g2 e he)
  · obtain ⟨a, b, hk, _, _, hf⟩ := h1 e (List.mem_of_getElem? g2)
    obtain ⟨rfl, rfl⟩ := pk_inj (hk.symm.trans g3)
    exact .inr ⟨j, e, g1, g2, g3, hf⟩

/-- m[k]. -/
theorem Yl.lookup {t k e : TypeId} {m i : Operand} {r : Nat} {f : Int → Int → Option Value} {x y : Int} {z v : Value} (hkm : known env m = true) (hki : known env i = true) (hm : evT env m = .map (some r)) (hi : evT env i = pk x y) (ht : P.underlying t = some (.map k e)) (K : KeyP P k)
    (hz : ∃ zi, P.info? e = some zi ∧ zi.zero = some z) (hf : MapF M r f) (hx : InI x) (hy : InI y) (hv : (f x y).getD z = v) : Yl P env M bs rs ⟨d, .lookup t m i false, ty, pos, af, gd⟩ v := by
  refine ⟨by simp [okOp, notSel, Op.operands, hkm, hki], fun w hw => ?_⟩
  obtain ⟨es, clk, h0, h1, h2, h3⟩ := hf
  have hb := hw.1 r _ h0
  obtain ⟨l, hl⟩ := K.of x y hx hy
  obtain ⟨zi, hz1, hz2⟩ := hz
  have hzr : (zeroValue e).run P w = .ok z w := by simp [zeroValue, typeInfo, hz1, hz2]
  rcases map_find K h1 h2 hx hy w with ⟨g1, g2, _⟩ | ⟨j, en, g1, _, _, g4⟩
  · rw [g2] at hv
    simp [execOp, hm, hi, Instr.lookup, run_underlying ht, MapKept.run_getObj_map hb, K.keyed.check w _ hl, g1, hzr, Result.andThen]
    exact hv
  · rw [g4] at hv
    simp [execOp, hm, hi, Instr.lookup, run_underlying ht, MapKept.run_getObj_map hb, K.keyed.check w _ hl, g1, Result.andThen]
    exact hv
/-- The world with a visible map changed. -/
theorem Sx.mapW (hs : Sx n E (bwW E M0 L) M w a env bs rs) (hM : WX M M0 E) {r : Nat} {es : Array MapEntry} {clk : Nat} {o : Obj} (hc : M r = some (.map es clk)) (hw : L r ∨ M0 r = none) {a' : Act} {env' : Env} (hA : Ag n a' env') :
    Sx n E (bwW E M0 L) (M.add r o) (ChangeMaps.setBlock w r o) a' env' bs rs := by
  have hb := hs.on r _ hc
  have hlt : r < w.heap.size := hs.on.lt hc
  have hother : ∀ x, x ≠ r → (ChangeMaps.setBlock w r o).heap[x]? = w.heap[x]? := by
    intro x hx
    simp only [ChangeMaps.setBlock, Array.getElem?_setIfInBounds]
    rw [if_neg (by omega)]
  refine ⟨hA, fun x q hx => ?_, ?_, fun x hx => ?_, fun r' hr => ?_, hs.nd⟩
  · by_cases hxb : x = r
    · subst hxb
      rw [Mem.add_eq] at hx
      rw [← hx]
      simp [ChangeMaps.setBlock, hlt]
    · rw [Mem.add_ne hxb] at hx
      rw [hother x hxb]; exact hs.on x q hx
  · obtain ⟨h1, h2, h3, h4, h5⟩ := hs.pr
    refine ⟨h1, h2, h3, by simpa [ChangeMaps.setBlock] using h4, fun x hx hn => ?_⟩
    rw [hother x (by
      rintro rfl
      rcases hM.old _ _ hc with h | h
      · refine hn (mem_bwW.2 ⟨hx, ?_, h⟩)
        rcases hw with h' | h'
        · exact h'
        · rw [h'] at h; cases h
      · omega)]
    exact h5 x hx hn
  · obtain ⟨h1, h2, h3⟩ := hs.bx x hx
    have hne : x.b ≠ r := by rintro rfl; rw [h2] at hc; cases hc
    exact ⟨(hother _ hne).trans h1, by rw [Mem.add_ne hne]; exact h2, h3⟩
  · obtain ⟨h1, h2⟩ := hs.rw r' hr
    have hne : ∀ g, r'.v.ownBlock = some g → g ≠ r := fun g hg => by rintro rfl; rw [(h2 g hg).1] at hc; cases hc
    exact ⟨ownsRow_keep h1 fun g hg => hother g (hne g hg), fun g hg => ⟨by rw [Mem.add_ne (hne g hg)]; exact (h2 g hg).1, (h2 g hg).2⟩⟩

theorem WX.set (h : WX M M0 E) {r : Nat} {o : Obj} (hr : (M r).isSome = true) : WX (M.add r o) M0 E :=
  ⟨fun x q hx => by
    by_cases hxr : x = r
    · subst hxr
      obtain ⟨q', hq'⟩ := Option.isSome_iff_exists.1 hr
      exact h.old x q' hq'
    · rw [Mem.add_ne hxr] at hx; exact h.old x q hx, fun x hx => by
    by_cases hxr : x = r
    · subst hxr; rw [Mem.add_eq]; rfl
    · rw [Mem.add_ne hxr]; exact h.dom x hx⟩

/-- m[k] = v. -/
theorem stepMapSet {t k e ty : TypeId} {m i x : Operand} {pos : String} {af : Array Edge} {r : Nat} {f : Int → Int → Option Value} {y z : Int} {v : Value} (hs : Sx n E (bwW E M0 L) M w a env bs rs) (hM : WX M M0 E) (hkm : known env m = true) (hki : known env i = true) (hkx : known env x = true)
    (hm : evT env m = .map (some r)) (hi : evT env i = pk y z) (hx : evT env x = v) (ht : P.underlying t = some (.map k e)) (K : KeyP P k) (hf : MapF M r f) (hy : InI y) (hz : InI z) (hw : L r ∨ M0 r = none)
    (h : ∀ a' w' M2, MapS M r y z v M2 → WX M2 M0 E → Sx n E (bwW E M0 L) M2 w' a' env bs rs → wpList P ops Q rest a' w') : wpList P ops Q (⟨none, .mapUpdate t m i x, ty, pos, af, none⟩ :: rest) a w := by
  refine stepK0 (Z := fun _ _ => False) hs (fun _ _ h => h.elim) rfl (by simp [okOp, notSel, Op.operands, hkm, hki, hkx]) rfl ?_
  obtain ⟨es, clk, h0, h1, h2, h3⟩ := hf
  have hb := hs.on r _ h0
  obtain ⟨l, hl⟩ := K.of y z hy hz
  have hset : ∃ o, (Instr.mapUpdate t (.map (some r)) (pk y z) v).run P w = .ok () (ChangeMaps.setBlock w r o) ∧ MapS M r y z v (M.add r o) := by
    rcases map_find K h1 h2 hy hz w with ⟨g1, g2, g3⟩ | ⟨j, en, g1, g2, g3, g4⟩
    · refine ⟨.map (es.push ⟨pk y z, v, clk⟩) (clk + 1), ?_, _, rfl, by rw [h0]; rfl, fun f g hfm hg hgo => ?_⟩
      · simp [Instr.mapUpdate, run_underlying ht, MapKept.run_getObj_map hb, K.keyed.check w false hl, g1, MapKept.run_setObj_map _ hb, Result.andThen, ChangeMaps.setBlock]
      · obtain ⟨es', clk', q0, q1, q2, q3⟩ := hfm
        rw [h0] at q0
        simp only [Option.some.injEq, Obj.map.injEq] at q0
        obtain ⟨rfl, rfl⟩ := q0
        refine ⟨_, _, Mem.add_eq, fun en hen => ?_, fun c d v' hv' => ?_, fun i j e e' hi' hj' he => ?_⟩
        · rw [Array.toList_push, List.mem_append, List.mem_singleton] at hen
          rcases hen with hen | rfl
          · obtain ⟨c, d, hk, hc, hd, hfv⟩ := q1 en hen
            refine ⟨c, d, hk, hc, hd, ?_⟩
            rw [hgo c d (fun ⟨e1, e2⟩ => g3 en hen (by rw [hk, e1, e2])), hfv]
          · exact ⟨y, z, rfl, hy, hz, hg⟩
        · by_cases hcd : c = y ∧ d = z
          · obtain ⟨rfl, rfl⟩ := hcd
            exact ⟨⟨pk c d, v, clk⟩, by simp, rfl⟩
          · rw [hgo c d hcd] at hv'
            obtain ⟨en, hen, hk⟩ := q2 c d v' hv'
            exact ⟨en, by simp [hen], hk⟩
        · rw [Array.getElem?_push] at hi' hj'
          split at hi' <;> split at hj'
          · omega
          · simp only [Option.some.injEq] at hi'
            subst hi'
            exact absurd he.symm (g3 e' (List.mem_of_getElem? (by simpa using hj')))
          · simp only [Option.some.injEq] at hj'
            subst hj'
            exact absurd he (g3 e (List.mem_of_getElem? (by simpa using hi')))
          · exact h3 i j e e' hi' hj' he
    · have hj : es[j]? = some en := by simpa using g2
      have hm2 : ∀ en' : MapEntry, en' ∈ (es.modify j fun e => { e with key := pk y z, val := v }).toList ↔ (∃ i e0, es[i]? = some e0 ∧ en' = if i = j then { e0 with key := pk y z, val := v } else e0) := by
        intro en'
        rw [List.mem_iff_getElem?]
        constructor
        · rintro ⟨i, hi'⟩
          rw [Array.getElem?_toList, Array.getElem?_modify] at hi'
          by_cases hij : j = i
          · subst hij
            rw [if_pos rfl, hj] at hi'
            exact ⟨j, en, hj, by rw [if_pos rfl]; simpa using hi'.symm⟩
          · rw [if_neg hij] at hi'
            exact ⟨i, en', hi', by rw [if_neg (fun e => hij e.symm)]⟩
        · rintro ⟨i, e0, hi', rfl⟩
          refine ⟨i, ?_⟩
          rw [Array.getElem?_toList, Array.getElem?_modify]
          by_cases hij : j = i
          · subst hij; rw [if_pos rfl, hi', if_pos rfl]; rfl
          · rw [if_neg hij, if_neg (fun e => hij e.symm)]; exact hi'
      refine ⟨.map (es.modify j fun e => { e with key := pk y z, val := v }) clk, ?_, _, rfl, by rw [h0]; rfl, fun f g hfm hg hgo => ?_⟩
      · simp [Instr.mapUpdate, run_underlying ht, MapKept.run_getObj_map hb, K.keyed.check w false hl, g1, hj, g3, K.keyed.stays w hl, MapKept.run_setObj_map _ hb, Result.andThen, ChangeMaps.setBlock]
      · obtain ⟨es', clk', q0, q1, q2, q3⟩ := hfm
        rw [h0] at q0
        simp only [Option.some.injEq, Obj.map.injEq] at q0
        obtain ⟨rfl, rfl⟩ := q0
        refine ⟨_, _, Mem.add_eq, fun en' hen => ?_, fun c d v' hv' => ?_, fun i' j' e e' hi' hj' he => ?_⟩
        · obtain ⟨i, e0, hi', rfl⟩ := (hm2 en').1 hen
          by_cases hij : i = j
          · rw [if_pos hij]; exact ⟨y, z, rfl, hy, hz, hg⟩
          · rw [if_neg hij]
            obtain ⟨c, d, hk, hc, hd, hfv⟩ := q1 e0 (List.mem_of_getElem? (by simpa using hi'))
            by_cases hcd : c = y ∧ d = z
            · obtain ⟨rfl, rfl⟩ := hcd
              exact absurd (h3 i j e0 en hi' hj (hk.trans g3.symm)) hij
            · exact ⟨c, d, hk, hc, hd, by rw [hgo c d hcd, hfv]⟩
        · by_cases hcd : c = y ∧ d = z
          · obtain ⟨rfl, rfl⟩ := hcd
            exact ⟨_, (hm2 _).2 ⟨j, en, hj, rfl⟩, by rw [if_pos rfl]⟩
          · rw [hgo c d hcd] at hv'
            obtain ⟨e0, hen, hk⟩ := q2 c d v' hv'
            obtain ⟨i, hi'⟩ := List.mem_iff_getElem?.1 hen
            have hi' : es[i]? = some e0 := by simpa using hi'
            refine ⟨_, (hm2 _).2 ⟨i, e0, hi', rfl⟩, ?_⟩
            rw [if_neg (by
              rintro rfl
              rw [hj] at hi'; cases hi'
              exact hcd (pk_inj (hk.symm.trans g3)))]
            exact hk
        · have key : ∀ (i : Nat) e, (es.modify j fun e => { e with key := pk y z, val := v })[i]? = some e → ∃ e0, es[i]? = some e0 ∧ e.key = e0.key := fun i e hi => by
            rw [Array.getElem?_modify] at hi
            by_cases hij : j = i
            · subst hij
              rw [if_pos rfl, hj] at hi
              simp only [Option.map_some, Option.some.injEq] at hi
              subst hi
              exact ⟨en, hj, g3.symm⟩
            · rw [if_neg hij] at hi; exact ⟨e, hi, rfl⟩
          obtain ⟨a1, h5, h6⟩ := key i' e hi'
          obtain ⟨a2, h7, h8⟩ := key j' e' hj'
          exact h3 i' j' a1 a2 h5 h7 (h6.symm.trans (he.trans h8))
  obtain ⟨o, hrun, hS⟩ := hset
  refine OpW.of_skip (w' := ChangeMaps.setBlock w r o) ?_ ?_
  · simp [execOp, hm, hi, hx, hrun]
  · intro a' hA
    exact h a' _ _ hS (hM.set (by rw [h0]; rfl)) (hs.mapW hM h0 hw hA)
/-- A new map: it is seen at once. -/
theorem stepMapNew {d : Nat} {t ty : TypeId} {pos : String} {af : Array Edge} (hs : Sx n E (bwW E M0 L) M w a env bs rs) (hM : WX M M0 E) (hdn : d < n)
    (h : ∀ a' w' M2 r, M r = none → M2 = M.add r (.map #[] 0) → M0 r = none → WX M2 M0 E → Sx n E (bwW E M0 L) M2 w' a' ((d, .map (some r)) :: env) bs rs → wpList P ops Q rest a' w') : wpList P ops Q (⟨some d, .makeMap t none, ty, pos, af, none⟩ :: rest) a w := by
  refine stepK (Z := fun _ _ => False) (d := d) hs (fun _ _ h => h.elim) rfl (by simp [okOp, notSel, Op.operands]) rfl hdn ?_
  have hnone : M w.heap.size = none := hs.on.noneAt (Nat.le_refl _)
  have hMnone : M0 w.heap.size = none := by
    cases h0 : M0 w.heap.size with
    | none => rfl
    | some o =>
      obtain ⟨o', ho'⟩ := Option.isSome_iff_exists.1 (hM.dom _ (by rw [h0]; rfl))
      rw [hnone] at ho'; cases ho'
  refine OpW.of_run (w' := w.alloc (.map #[] 0)) (v := .map (some w.heap.size)) ?_ ?_
  · simp [execOp, Instr.makeMap, newObj, Sem.run]
  · intro a' hA
    have hsz : (w.alloc (.map #[] 0)).heap.size = w.heap.size + 1 := by unfold World.alloc; exact Array.size_push _
    have hother : ∀ x, x < w.heap.size → (w.alloc (.map #[] 0)).heap[x]? = w.heap[x]? := fun x hx => by
      simp only [World.alloc, Array.getElem?_push]
      rw [if_neg (by omega)]
    refine h a' _ _ _ hnone rfl hMnone (hM.next (Mem.add_le hnone) fun x o hx => ?_) ⟨hA, fun x o hx => ?_, ?_, fun x hx => ?_, fun r hr => ?_, hs.nd⟩
    · by_cases e : x = w.heap.size
      · exact .inr (e ▸ hs.pr.size)
      · rw [Mem.add_ne e] at hx; exact .inl hx
    · by_cases e : x = w.heap.size
      · subst e
        rw [Mem.add_eq] at hx
        rw [← hx]; exact heap_alloc_new w _
      · rw [Mem.add_ne e] at hx
        rw [hother x (hs.on.lt hx)]; exact hs.on x o hx
    · obtain ⟨h1, h2, h3, h4, h5⟩ := hs.pr
      refine ⟨h1, h2, h3, Nat.le_trans h4 (Nat.le_trans (Nat.le_succ _) (Nat.le_of_eq hsz.symm)), fun x hx hn => ?_⟩
      rw [hother x (by omega)]; exact h5 x hx hn
    · obtain ⟨h1, h2, h3⟩ := hs.bx x hx
      have hne : x.b ≠ w.heap.size := by have := h1.lt; omega
      exact ⟨(hother _ h1.lt).trans h1, by rw [Mem.add_ne hne]; exact h2, h3⟩
    · obtain ⟨h1, h2⟩ := hs.rw r hr
      have hlt : ∀ g, r.v.ownBlock = some g → g < w.heap.size := fun g hg => ownBlock_lt h1 hg
      exact ⟨ownsRow_keep h1 fun g hg => hother g (hlt g hg), fun g hg => ⟨by rw [Mem.add_ne (by have := hlt g hg; omega)]; exact (h2 g hg).1, (h2 g hg).2⟩⟩
end

section
variable {P : Program} {fn : Func} {n : Nat} {E : World} {bw : List Nat} {M : Mem} {w : World} {a : Act} {env : Env} {bs : List Bx} {rs : List Rw}
end
