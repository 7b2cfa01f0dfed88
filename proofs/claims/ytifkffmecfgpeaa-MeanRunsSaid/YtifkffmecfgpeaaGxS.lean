/-
  More on rows: made, cut, written; bytes and strings; arrays in boxes at an index that is computed; over any program.
-/
import Derived.Test.YtifkffmecfgpeaaGxL
import Derived.Laws.MakeOwn
import Derived.Laws.IdiomStrings
namespace Go.Gx
open Go.RowKit

def repl (n : Nat) (zs : List Value) : List Value := (List.replicate n zs).flatten
theorem repl_length (n : Nat) (zs : List Value) : (repl n zs).length = n * zs.length := by simp [repl]

theorem repl_get (zs : List Value) : ∀ (n j : Nat), j < n * zs.length → (repl n zs)[j]? = zs[j % zs.length]?
  | 0, j, h => by omega
  | n + 1, j, h => by
    unfold repl
    rw [List.replicate_succ, List.flatten_cons, List.getElem?_append]
    split
    · rename_i hl
      rw [Nat.mod_eq_of_lt hl]
    · rename_i hl
      rw [Nat.succ_mul] at h
      have := repl_get zs n (j - zs.length) (by omega)
      unfold repl at this
      rw [this, Nat.mod_eq_sub_mod (show j ≥ zs.length by omega)]

section
variable {P : Program} {ops : Array Oper} {Q : Exit → Act → World → Prop} {n : Nat} {E : World} {bw : List Nat} {M : Mem} {w : World} {a : Act} {env : Env} {bs : List Bx} {rs : List Rw} {rest : List Oper}

/-- A new row, with room behind it. -/
theorem Sx.newrowC (hs : Sx n E bw M w a env bs rs) (cur : Array Value) (e size k c : Nat) (hk : k ≤ c) (hl : cur.size = c * size) (hm : c ≤ maxLen) {a' : Act} {env' : Env} (hA : Ag n a' env') :
    Sx n E bw M (w.alloc (.cells cur e)) a' env' bs (⟨.slice (some ⟨w.heap.size, 0, none⟩) k c, e, size, k, cur.toList.take (k * size), true⟩ :: rs) := by
  have hb : Below w.heap.size w (w.alloc (.cells cur e)) := (Below.refl _ w).alloc (Nat.le_refl _) _
  have h1 := (hs.later hb (hs.on.later hb) (fun _ _ => rfl)).act hA
  have hle : k * size ≤ c * size := Nat.mul_le_mul_right _ hk
  refine ⟨hA, h1.on, h1.pr, h1.bx, fun r hr => ?_, hs.nd.b, fun x hx r hr => ?_, List.Pairwise.cons (fun s hs' g hg => ?_) hs.nd.r⟩
  · rcases List.mem_cons.1 hr with rfl | hr
    · refine ⟨⟨by simp; omega, .inr ⟨w.heap.size, c, cur, rfl, Nat.zero_le _, heap_alloc_new w _, hk, hm, hl, rfl⟩⟩, fun g hg => ?_⟩
      simp only [Value.ownBlock, Option.some.injEq] at hg
      subst hg
      exact ⟨hs.on.noneAt (Nat.le_refl _), .inl hs.pr.size⟩
    · exact h1.rw r hr
  · rcases List.mem_cons.1 hr with rfl | hr
    · simp only [Value.ownBlock, ne_eq, Option.some.injEq]
      have := (hs.bx x hx).1.lt
      omega
    · exact hs.nd.x x hx r hr
  · simp only [Value.ownBlock, Option.some.injEq] at hg
    subst hg
    intro e'
    have := ((hs.rw s hs').1.lt _ e').2
    omega

theorem madeCells_take (zs : List Value) (k c : Nat) (hk : k ≤ c) : (madeCells zs.toArray (c * zs.length)).toList.take (k * zs.length) = repl k zs := by
  have hle : k * zs.length ≤ c * zs.length := Nat.mul_le_mul_right _ hk
  apply List.ext_getElem?
  intro j
  rw [List.getElem?_take]
  split
  · rename_i hj
    rw [repl_get zs k j hj]
    have hz : 0 < zs.length := by
      rcases Nat.eq_zero_or_pos zs.length with h | h
      · rw [h] at hj; omega
      · exact h
    have hm : j % zs.length < zs.length := Nat.mod_lt _ hz
    have hjc : j < c * zs.length := by omega
    simp [madeCells, hjc, hm]
  · rename_i hj
    rw [List.getElem?_eq_none (by rw [repl_length]; omega)]

/-- make. -/
theorem stepMakeN (zs : List Value) {d : Nat} {t e ty : TypeId} {x y : Operand} {pos : String} {af : Array Edge} {size bytes : Nat} {kl kc : IntKind} {l c : Int} (hs : Sx n E bw M w a env bs rs) (hkx : known env x = true) (hky : known env y = true) (hx : evT env x = .int kl l) (hy : evT env y = .int kc c)
    (ht : P.underlying t = some (.slice e)) (hi : (P.info? e).map (fun i => (i.size, i.bytes, i.zero.map (·.cells))) = some (size, bytes, some zs.toArray)) (hsz : zs.length = size) (hb0 : 0 < bytes) (hdn : d < n)
    (h0 : 0 ≤ l) (hlc : l ≤ c) (hb : c.toNat * bytes ≤ 140737488355328)
    (h : ∀ a' w' v, Sx n E bw M w' a' ((d, v) :: env) bs (⟨v, e, size, l.toNat, repl l.toNat zs, true⟩ :: rs) → wpList P ops Q rest a' w') : wpList P ops Q (⟨some d, .makeSlice t x y, ty, pos, af, none⟩ :: rest) a w := by
  subst hsz
  refine stepK (Z := fun _ _ => False) (d := d) hs (fun _ _ h => h.elim) rfl (by simp [okOp, notSel, Op.operands, hkx, hky]) rfl hdn ?_
  have hcm : c.toNat ≤ maxLen := lenb hb hb0
  have hc63 : c ≤ 9223372036854775807 := by unfold maxLen at hcm; omega
  cases hinf : P.info? e with
  | none => simp [hinf] at hi
  | some i =>
    simp only [hinf, Option.map_some, Option.some.injEq, Prod.mk.injEq] at hi
    obtain ⟨h1, h2, h3⟩ := hi
    cases hz : i.zero with
    | none => simp [hz] at h3
    | some z =>
      simp only [hz, Option.map_some, Option.some.injEq] at h3
      have hbc : (i.bytes : Int) * c ≤ 281474976710656 := by
        have : ((c.toNat * i.bytes : Nat) : Int) ≤ 140737488355328 := by rw [h2]; omega
        rw [Int.natCast_mul, Int.toNat_of_nonneg (by omega), Int.mul_comm] at this
        omega
      have hrun := run_make (P := P) w t e i z ht hinf hz kl kc l c h0 hlc hbc hc63
      refine OpW.of_run (w' := w.alloc (.cells (madeCells zs.toArray (c.toNat * zs.length)) e)) (v := .slice (some ⟨w.heap.size, 0, none⟩) l.toNat c.toNat) ?_ ?_
      · rw [h3, h1] at hrun
        simp [execOp, hx, hy, hrun]
      · intro a' hA
        have := hs.newrowC (madeCells zs.toArray (c.toNat * zs.length)) e zs.length l.toNat c.toNat (by omega) (by simp [madeCells]) hcm hA
        rw [madeCells_take zs _ _ (by omega)] at this
        exact h a' _ _ this

/-- A store into a row of the call's own. -/
theorem stepStoreR (i : Nat) {t ty : TypeId} {p x : Operand} {pos : String} {af : Array Edge} {g k m cap e size : Nat} {ad : Option Addr} {xs vs : List Value} {ow : Bool} {v : Value} (hs : Sx n E bw M w a env bs rs) (hi : rs[i]? = some ⟨.slice ad m cap, e, size, m, xs, ow⟩) (had : ad = some ⟨g, 0, none⟩) (hkp : known env p = true) (hkx : known env x = true)
    (hp : evT env p = .pointer (some ⟨g, k, none⟩)) (hx : evT env x = v) (hc : v.cells = vs.toArray) (hn : (P.info? t).map (·.size) = some vs.length) (hfit : k + vs.length ≤ m * size) (h1 : vs.all (·.oneCell') = true)
    (h : ∀ a' w', Sx n E bw M w' a' env bs (rs.set i ⟨.slice ad m cap, e, size, m, putAt xs k vs, ow⟩) → wpList P ops Q rest a' w') : wpList P ops Q (⟨none, .store t p x, ty, pos, af, none⟩ :: rest) a w := by
  subst had
  refine stepK0 (Z := fun _ _ => False) hs (fun _ _ h => h.elim) rfl (by simp [okOp, notSel, Op.operands, hkp, hkx]) rfl ?_
  obtain ⟨g1, g2⟩ := hs.rw _ (List.mem_of_getElem? hi)
  rcases g1.2 with ⟨hv, _⟩ | ⟨g', cap', cur, hv, hb, hg, h3, h4, h5, h6⟩
  · cases hv
  · cases hv
    simp only at h3 h6 g1
    have hle : m * size ≤ cap * size := Nat.mul_le_mul_right _ h3
    have hst := run_storeCells_at P g k e vs 0 cur w hg (by rw [h5]; simp only; omega) (fun u hu => List.all_eq_true.1 h1 u hu)
    refine OpW.of_skip (w' := w.setRow g (putAt cur.toList k vs).toArray) ?_ ?_
    · cases hin : P.info? t with
      | none => simp [hin] at hn
      | some ti =>
        simp [hin] at hn
        have e' : (cur.toList.take (k + 0) ++ vs ++ cur.toList.drop (k + 0 + vs.length)).toArray = (putAt cur.toList k vs).toArray := by simp [putAt]
        rw [e'] at hst
        simp [execOp, Instr.storeAt, hp, hx, Instr.sureAddr, storeVar, hc, sizeOf, typeInfo, hin, hn, hst]
    · intro a' hA
      have hgr : w.grownBy (w.setRow g (putAt cur.toList k vs).toArray) (Value.slice (some ⟨g, 0, none⟩) m cap).ownBlock := by
        refine ⟨rfl, rfl, rfl, by simp [World.setRow], fun q _ hne => ?_⟩
        simp only [World.setRow, Array.getElem?_modify]
        rw [if_neg]
        rintro rfl
        exact hne rfl
      have hlen : (putAt cur.toList k vs).length = cap * size := by
        have hcl : cur.toList.length = cap * size := by simpa using h5
        simp only [putAt, List.length_append, List.length_take, List.length_drop]
        rw [hcl]
        omega
      refine h a' _ (hs.rowset (r' := ⟨.slice (some ⟨g, 0, none⟩) m cap, e, size, m, putAt xs k vs, ow⟩) i hi hgr rfl ⟨?_, .inr ⟨g, cap, _, rfl, Nat.zero_le _, setRow_heap w g cur _ e (0, 0) hg, h3, h4, by simpa using hlen, ?_⟩⟩ (.inl rfl) hA)
      · have hx1 := g1.1
        simp only at hx1 ⊢
        simp only [putAt, List.length_append, List.length_take, List.length_drop]
        omega
      · simp only
        rw [← h6]
        have hcl : cur.toList.length = cap * size := by simpa using h5
        apply List.ext_getElem?
        intro j
        simp only [putAt]
        rw [List.getElem?_take]
        have hkl : (cur.toList.take k).length = k := by rw [List.length_take, hcl]; omega
        have hkl2 : ((cur.toList.take (m * size)).take k).length = k := by rw [List.length_take, List.length_take, hcl]; omega
        rw [List.append_assoc, List.append_assoc, List.getElem?_append (l₁ := cur.toList.take k), List.getElem?_append (l₁ := (cur.toList.take (m * size)).take k), hkl, hkl2]
        by_cases hj : j < m * size
        · rw [if_pos hj]
          by_cases hjk : j < k
          · rw [if_pos hjk, if_pos hjk, List.getElem?_take, List.getElem?_take, List.getElem?_take, if_pos hjk, if_pos hjk, if_pos hj]
          · rw [if_neg hjk, if_neg hjk, List.getElem?_append (l₁ := vs), List.getElem?_append (l₁ := vs)]
            split
            · rfl
            · rw [List.getElem?_drop, List.getElem?_drop, List.getElem?_take, if_pos (by omega)]
        · rw [if_neg hj, if_neg (by omega), List.getElem?_append (l₁ := vs), if_neg (by omega), List.getElem?_drop, List.getElem?_take, if_neg (by omega)]

end

section
variable {P : Program} {env : Env} {M : Mem} {bs : List Bx} {rs : List Rw} {d : Option Tmp} {ty : TypeId} {pos : String} {af : Array Edge} {gd : Option (Nat × Bool)}

end

/-! ### Arrays in boxes -/

section
variable {P : Program} {ops : Array Oper} {Q : Exit → Act → World → Prop} {n : Nat} {E : World} {bw : List Nat} {M : Mem} {w : World} {a : Act} {env : Env} {bs : List Bx} {rs : List Rw} {rest : List Oper}

end

end Go.Gx
