/-
  More on rows: made, cut, written; bytes and strings; arrays in boxes at an index that is computed; over any program.
-/
import Derived.Test.YtaljnkggjadonaaGxL
import Derived.Laws.MakeOwn
import Derived.Laws.IdiomStrings
namespace Go.Gx
open Go.RowKit

def repl (n : Nat) (zs : List Value) : List Value := (List.replicate n zs).flatten
def bytesV (l : List UInt8) : List Value := l.map fun c => Value.int .u8 (c.toNat : Int)

theorem repl_length (n : Nat) (zs : List Value) : (repl n zs).length = n * zs.length := by simp [repl]

theorem repl_get (zs : List Value) : ∀ (n j : Nat), j < n * zs.length → (repl n zs)[j]? = zs[j % zs.length]?
  | 0, j, h => by omega
  | n + 1, j, h => by
    unfold repl
    rw [List.replicate_succ, List.flatten_cons, List.getElem?_append]
    split
    · rename_i hl
      rw [Nat.mod_eq_of_lt hl]
    · rename_i hl
      rw [Nat.succ_mul] at h
      have := repl_get zs n (j - zs.length) (by omega)
      unfold repl at this
      rw [this, Nat.mod_eq_sub_mod (show j ≥ zs.length by omega)]

section
variable {P : Program} {ops : Array Oper} {Q : Exit → Act → World → Prop} {n : Nat} {E : World} {bw : List Nat} {M : Mem} {w : World} {a : Act} {env : Env} {bs : List Bx} {rs : List Rw} {rest : List Oper}

/-- A new row, with room behind it. -/
theorem Sx.newrowC (hs : Sx n E bw M w a env bs rs) (cur : Array Value) (e size k c : Nat) (hk : k ≤ c) (hl : cur.size = c * size) (hm : c ≤ maxLen) {a' : Act} {env' : Env} (hA : Ag n a' env') :
    Sx n E bw M (w.alloc (.cells cur e)) a' env' bs (⟨.slice (some ⟨w.heap.size, 0, none⟩) k c, e, size, k, cur.toList.take (k * size), true⟩ :: rs) := by
  have hb : Below w.heap.size w (w.alloc (.cells cur e)) := (Below.refl _ w).alloc (Nat.le_refl _) _
  have h1 := (hs.later hb (hs.on.later hb) (fun _ _ => rfl)).act hA
  have hle : k * size ≤ c * size := Nat.mul_le_mul_right _ hk
  refine ⟨hA, h1.on, h1.pr, h1.bx, fun r hr => ?_, hs.nd.b, fun x hx r hr => ?_, List.Pairwise.cons (fun s hs' g hg => ?_) hs.nd.r⟩
  · rcases List.mem_cons.1 hr with rfl | hr
    · refine ⟨⟨by simp; omega, .inr ⟨w.heap.size, c, cur, rfl, Nat.zero_le _, heap_alloc_new w _, hk, hm, hl, rfl⟩⟩, fun g hg => ?_⟩
      simp only [Value.ownBlock, Option.some.injEq] at hg
      subst hg
      exact ⟨hs.on.noneAt (Nat.le_refl _), .inl hs.pr.size⟩
    · exact h1.rw r hr
  · rcases List.mem_cons.1 hr with rfl | hr
    · simp only [Value.ownBlock, ne_eq, Option.some.injEq]
      have := (hs.bx x hx).1.lt
      omega
    · exact hs.nd.x x hx r hr
  · simp only [Value.ownBlock, Option.some.injEq] at hg
    subst hg
    intro e'
    have := ((hs.rw s hs').1.lt _ e').2
    omega

theorem madeCells_take (zs : List Value) (k c : Nat) (hk : k ≤ c) : (madeCells zs.toArray (c * zs.length)).toList.take (k * zs.length) = repl k zs := by
  have hle : k * zs.length ≤ c * zs.length := Nat.mul_le_mul_right _ hk
  apply List.ext_getElem?
  intro j
  rw [List.getElem?_take]
  split
  · rename_i hj
    rw [repl_get zs k j hj]
    have hz : 0 < zs.length := by
      rcases Nat.eq_zero_or_pos zs.length with h | h
      · rw [h] at hj; omega
      · exact h
    have hm : j % zs.length < zs.length := Nat.mod_lt _ hz
    have hjc : j < c * zs.length := by omega
    simp [madeCells, hjc, hm]
  · rename_i hj
    rw [List.getElem?_eq_none (by rw [repl_length]; omega)]

/-- make. -/
theorem stepMakeN (zs : List Value) {d : Nat} {t e ty : TypeId} {x y : Operand} {pos : String} {af : Array Edge} {size bytes : Nat} {kl kc : IntKind} {l c : Int} (hs : Sx n E bw M w a env bs rs) (hkx : known env x = true) (hky : known env y = true) (hx : evT env x = .int kl l) (hy : evT env y = .int kc c)
    (ht : P.underlying t = some (.slice e)) (hi : (P.info? e).map (fun i => (i.size, i.bytes, i.zero.map (·.cells))) = some (size, bytes, some zs.toArray)) (hsz : zs.length = size) (hb0 : 0 < bytes) (hdn : d < n)
    (h0 : 0 ≤ l) (hlc : l ≤ c) (hb : c.toNat * bytes ≤ 140737488355328)
    (h : ∀ a' w' v, Sx n E bw M w' a' ((d, v) :: env) bs (⟨v, e, size, l.toNat, repl l.toNat zs, true⟩ :: rs) → wpList P ops Q rest a' w') : wpList P ops Q (⟨some d, .makeSlice t x y, ty, pos, af, none⟩ :: rest) a w := by
  subst hsz
  refine stepK (Z := fun _ _ => False) (d := d) hs (fun _ _ h => h.elim) rfl (by simp [okOp, notSel, Op.operands, hkx, hky]) rfl hdn ?_
  have hcm : c.toNat ≤ maxLen := lenb hb hb0
  have hc63 : c ≤ 9223372036854775807 := by unfold maxLen at hcm; omega
  cases hinf : P.info? e with
  | none => simp [hinf] at hi
  | some i =>
    simp only [hinf, Option.map_some, Option.some.injEq, Prod.mk.injEq] at hi
    obtain ⟨h1, h2, h3⟩ := hi
    cases hz : i.zero with
    | none => simp [hz] at h3
    | some z =>
      simp only [hz, Option.map_some, Option.some.injEq] at h3
      have hbc : (i.bytes : Int) * c ≤ 281474976710656 := by
        have : ((c.toNat * i.bytes : Nat) : Int) ≤ 140737488355328 := by rw [h2]; omega
        rw [Int.natCast_mul, Int.toNat_of_nonneg (by omega), Int.mul_comm] at this
        omega
      have hrun := run_make (P := P) w t e i z ht hinf hz kl kc l c h0 hlc hbc hc63
      refine OpW.of_run (w' := w.alloc (.cells (madeCells zs.toArray (c.toNat * zs.length)) e)) (v := .slice (some ⟨w.heap.size, 0, none⟩) l.toNat c.toNat) ?_ ?_
      · rw [h3, h1] at hrun
        simp [execOp, hx, hy, hrun]
      · intro a' hA
        have := hs.newrowC (madeCells zs.toArray (c.toNat * zs.length)) e zs.length l.toNat c.toNat (by omega) (by simp [madeCells]) hcm hA
        rw [madeCells_take zs _ _ (by omega)] at this
        exact h a' _ _ this

/-- A row's own cells stay where they are. -/
theorem Sx.rowput (hs : Sx n E bw M w a env bs rs) (i : Nat) {r r' : Rw} (hi : rs[i]? = some r) (hfl : r'.own = r.own) (hown : w.ownsRow 0 r'.e r'.size r'.v r'.n r'.xs) (hblk : r'.v.ownBlock = r.v.ownBlock) : Sx n E bw M w a env bs (rs.set i r') :=
  hs.rowset i hi (World.grownBy.refl w _) hfl hown (.inl hblk) hs.ag

theorem rowfit {i k sz o l : Nat} (h : i < k) (ho : o + l ≤ sz) : i * sz + o + l ≤ k * sz := by
  have : (i + 1) * sz ≤ k * sz := Nat.mul_le_mul_right _ h
  rw [Nat.succ_mul] at this
  omega

/-- A row is cut. -/
theorem stepCut (i : Nat) {d : Nat} {t e ty : TypeId} {x y : Operand} {pos : String} {af : Array Edge} {size k cap : Nat} {ad : Option Addr} {xs : List Value} {ow : Bool} {ik : IntKind} {c : Int} (hs : Sx n E bw M w a env bs rs) (hi : rs[i]? = some ⟨.slice ad k cap, e, size, k, xs, ow⟩)
    (hkx : known env x = true) (hky : known env y = true) (hx : evT env x = .slice ad k cap) (hy : evT env y = .int ik c) (ht : P.underlying t = some (.slice e)) (hn : (P.info? e).map (·.size) = some size) (hdn : d < n)
    (h0 : 0 ≤ c) (hc : c ≤ (k : Int))
    (h : ∀ a' w' v, Sx n E bw M w' a' ((d, v) :: env) bs (rs.set i ⟨v, e, size, c.toNat, xs.take (c.toNat * size), ow⟩) → wpList P ops Q rest a' w') : wpList P ops Q (⟨some d, .slice t x none (some y) none, ty, pos, af, none⟩ :: rest) a w := by
  obtain ⟨h1, h2⟩ := hs.rw _ (List.mem_of_getElem? hi)
  simp only at h1 h2
  have hkc : k ≤ cap := by
    obtain ⟨_, _, he, h3, _⟩ := ownsRow_form h1
    cases he
    exact h3
  have hyl := Yl.sliceSH (P := P) (env := env) (M := M) (bs := bs) (rs := rs) (d := some d) (ty := ty) (pos := pos) (af := af) (gd := none) (b := c) hkx hky hx hy ht hn h0 (by omega)
  refine stepY _ hs rfl rfl hdn hyl fun a' hs' => ?_
  refine h a' w _ (hs'.rowput i hi rfl ?_ ?_)
  · have hle : c.toNat * size ≤ k * size := Nat.mul_le_mul_right _ (by omega)
    refine ⟨by show (xs.take (c.toNat * size)).length = c.toNat * size; rw [List.length_take, h1.1]; omega, ?_⟩
    rcases h1.2 with ⟨hv, hk0⟩ | ⟨g, cap', cur, hv, hb, hg, h3, h4, h5, h6⟩
    · left
      cases hv
      simp only at hk0
      have hz : c.toNat = 0 := by omega
      exact ⟨by simp only [hz], hz⟩
    · right
      cases hv
      refine ⟨g, cap, cur, rfl, hb, hg, by simp only; omega, h4, h5, ?_⟩
      simp only
      rw [← h6, List.take_take, Nat.min_eq_left hle]
  · cases ad <;> rfl

/-- A store into a row of the call's own. -/
theorem stepStoreR (i : Nat) {t ty : TypeId} {p x : Operand} {pos : String} {af : Array Edge} {g k m cap e size : Nat} {ad : Option Addr} {xs vs : List Value} {ow : Bool} {v : Value} (hs : Sx n E bw M w a env bs rs) (hi : rs[i]? = some ⟨.slice ad m cap, e, size, m, xs, ow⟩) (had : ad = some ⟨g, 0, none⟩) (hkp : known env p = true) (hkx : known env x = true)
    (hp : evT env p = .pointer (some ⟨g, k, none⟩)) (hx : evT env x = v) (hc : v.cells = vs.toArray) (hn : (P.info? t).map (·.size) = some vs.length) (hfit : k + vs.length ≤ m * size) (h1 : vs.all (·.oneCell') = true)
    (h : ∀ a' w', Sx n E bw M w' a' env bs (rs.set i ⟨.slice ad m cap, e, size, m, putAt xs k vs, ow⟩) → wpList P ops Q rest a' w') : wpList P ops Q (⟨none, .store t p x, ty, pos, af, none⟩ :: rest) a w := by
  subst had
  refine stepK0 (Z := fun _ _ => False) hs (fun _ _ h => h.elim) rfl (by simp [okOp, notSel, Op.operands, hkp, hkx]) rfl ?_
  obtain ⟨g1, g2⟩ := hs.rw _ (List.mem_of_getElem? hi)
  rcases g1.2 with ⟨hv, _⟩ | ⟨g', cap', cur, hv, hb, hg, h3, h4, h5, h6⟩
  · cases hv
  · cases hv
    simp only at h3 h6 g1
    have hle : m * size ≤ cap * size := Nat.mul_le_mul_right _ h3
    have hst := run_storeCells_at P g k e vs 0 cur w hg (by rw [h5]; simp only; omega) (fun u hu => List.all_eq_true.1 h1 u hu)
    refine OpW.of_skip (w' := w.setRow g (putAt cur.toList k vs).toArray) ?_ ?_
    · cases hin : P.info? t with
      | none => simp [hin] at hn
      | some ti =>
        simp [hin] at hn
        have e' : (cur.toList.take (k + 0) ++ vs ++ cur.toList.drop (k + 0 + vs.length)).toArray = (putAt cur.toList k vs).toArray := by simp [putAt]
        rw [e'] at hst
        simp [execOp, Instr.storeAt, hp, hx, Instr.sureAddr, storeVar, hc, sizeOf, typeInfo, hin, hn, hst]
    · intro a' hA
      have hgr : w.grownBy (w.setRow g (putAt cur.toList k vs).toArray) (Value.slice (some ⟨g, 0, none⟩) m cap).ownBlock := by
        refine ⟨rfl, rfl, rfl, by simp [World.setRow], fun q _ hne => ?_⟩
        simp only [World.setRow, Array.getElem?_modify]
        rw [if_neg]
        rintro rfl
        exact hne rfl
      have hlen : (putAt cur.toList k vs).length = cap * size := by
        have hcl : cur.toList.length = cap * size := by simpa using h5
        simp only [putAt, List.length_append, List.length_take, List.length_drop]
        rw [hcl]
        omega
      refine h a' _ (hs.rowset (r' := ⟨.slice (some ⟨g, 0, none⟩) m cap, e, size, m, putAt xs k vs, ow⟩) i hi hgr rfl ⟨?_, .inr ⟨g, cap, _, rfl, Nat.zero_le _, setRow_heap w g cur _ e (0, 0) hg, h3, h4, by simpa using hlen, ?_⟩⟩ (.inl rfl) hA)
      · have hx1 := g1.1
        simp only at hx1 ⊢
        simp only [putAt, List.length_append, List.length_take, List.length_drop]
        omega
      · simp only
        rw [← h6]
        have hcl : cur.toList.length = cap * size := by simpa using h5
        apply List.ext_getElem?
        intro j
        simp only [putAt]
        rw [List.getElem?_take]
        have hkl : (cur.toList.take k).length = k := by rw [List.length_take, hcl]; omega
        have hkl2 : ((cur.toList.take (m * size)).take k).length = k := by rw [List.length_take, List.length_take, hcl]; omega
        rw [List.append_assoc, List.append_assoc, List.getElem?_append (l₁ := cur.toList.take k), List.getElem?_append (l₁ := (cur.toList.take (m * size)).take k), hkl, hkl2]
        by_cases hj : j < m * size
        · rw [if_pos hj]
          by_cases hjk : j < k
          · rw [if_pos hjk, if_pos hjk, List.getElem?_take, List.getElem?_take, List.getElem?_take, if_pos hjk, if_pos hjk, if_pos hj]
          · rw [if_neg hjk, if_neg hjk, List.getElem?_append (l₁ := vs), List.getElem?_append (l₁ := vs)]
            split
            · rfl
            · rw [List.getElem?_drop, List.getElem?_drop, List.getElem?_take, if_pos (by omega)]
        · rw [if_neg hj, if_neg (by omega), List.getElem?_append (l₁ := vs), if_neg (by omega), List.getElem?_drop, List.getElem?_take, if_neg (by omega)]

/-- A string's bytes, in a slice of their own that is not written any more. -/
theorem stepBytes {d : Nat} {src dst e ty : TypeId} {x : Operand} {pos : String} {af : Array Edge} {l : List UInt8} (hs : Sx n E bw M w a env bs rs) (hkx : known env x = true) (hx : evT env x = .string (mkS l))
    (hsr : P.underlying src = some .string) (hd : P.underlying dst = some (.slice e)) (he : P.underlying e = some (.int .u8)) (hdn : d < n) (hm : l.length ≤ maxLen)
    (h : ∀ a' w' M' A c, M.le M' → SlV M' A l.length c 1 (bytesV l) → (∀ b o, M' b = some o → M b = some o ∨ E.heap.size ≤ b) → Sx n E bw M' w' a' ((d, .slice A l.length c) :: env) bs rs → wpList P ops Q rest a' w') : wpList P ops Q (⟨some d, .convert src dst x, ty, pos, af, none⟩ :: rest) a w := by
  refine stepK (Z := fun _ _ => False) (d := d) hs (fun _ _ h => h.elim) rfl (by simp [okOp, notSel, Op.operands, hkx]) rfl hdn ?_
  have hrun := run_bytes_of_string (P := P) w src dst e (mkS l) hsr hd he
  refine OpW.of_run (w' := _) (v := .slice (some ⟨w.heap.size, 0, none⟩) l.length (grownCap w l.length 0 e)) (by simp only [execOp, hx, Sem.run_bind, hrun, Result.andThen_ok]; rfl) ?_
  intro a' hA
  have hcap1 := grownCap_ge w l.length 0 e
  have hcap2 := grownCap_le_maxLen w l.length 0 e hm
  let cur := bytesRow (mkS l) (grownCap w (mkS l).size 0 e)
  let ob : Obj := .cells cur e (cur.size, cur.size + 1)
  have hb : Below w.heap.size w (w.drew.alloc ob) := ((Below.refl _ w).drew).alloc (Nat.le_refl _) _
  have hgo := grow_on (w' := w.drew.alloc ob) hs.on (fun k hk _ => hb.block k hk)
  have hnew : (w.drew.alloc ob).heap[w.heap.size]? = some ob := heap_alloc_new w.drew ob
  refine h a' (w.drew.alloc ob) (grow M w (w.drew.alloc ob)) (some ⟨w.heap.size, 0, none⟩) (grownCap w l.length 0 e) (grow_le hs.on) ⟨by simp [bytesV], hcap1, hcap2, fun _ => ⟨w.heap.size, 0, rfl, fun j v hj => ?_⟩⟩ (fun b o hbo => ?_) ((hs.later hb hgo (fun b hb => ?_)).act hA)
  · unfold Mem.cell grow
    rw [if_pos (Nat.le_refl _), hnew]
    show cur[0 + j]? = some v
    rw [Nat.zero_add]
    have hjl : j < l.length := by have := (List.getElem?_eq_some_iff.1 hj).1; simpa [bytesV] using this
    have : (bytesV l)[j]? = some (.int .u8 ((l[j]'hjl).toNat : Int)) := by simp [bytesV, hjl]
    rw [this] at hj
    cases hj
    show (bytesRow (mkS l) _)[j]? = _
    unfold bytesRow
    rw [Array.getElem?_append_left (by simp [mkS, hjl])]
    simp [mkS, hjl]
  · unfold grow at hbo
    by_cases hk : w.heap.size ≤ b
    · exact .inr (Nat.le_trans hs.pr.size hk)
    · rw [if_neg hk] at hbo; exact .inl hbo
  · unfold grow
    rw [if_neg (by omega)]
end

section
variable {P : Program} {env : Env} {M : Mem} {bs : List Bx} {rs : List Rw} {d : Option Tmp} {ty : TypeId} {pos : String} {af : Array Edge} {gd : Option (Nat × Bool)}

theorem run_bytes_str {w : World} {src dst e : TypeId} {A : Option Addr} {c : Nat} {l : List UInt8} (hs : P.underlying src = some (.slice e)) (he : P.underlying e = some (.int .u8)) (hd : P.underlying dst = some .string)
    (hA : A = none → l = []) (hc : ∀ ad, A = some ad → ∀ j v, (bytesV l)[j]? = some v → w.cell? (ad.add j) = some v) : (convert src dst (.slice A l.length c)).run P w = .ok (.string (mkS l)) w := by
  cases A with
  | none =>
    have := hA rfl
    subst this
    rw [run_convert_bytes_string w src dst e none _ c hs he hd]
    rfl
  | some ad =>
    exact run_convert_bytes_back w src dst e ad c l hs he hd fun j hj => hc ad rfl j _ (by simp [bytesV, hj])

/-- The bytes of a visible slice as a string. -/
theorem Yl.bytesV {src dst e : TypeId} {x : Operand} {A : Option Addr} {k c : Nat} {l : List UInt8} (hk : known env x = true) (hx : evT env x = .slice A k c) (hs : P.underlying src = some (.slice e)) (he : P.underlying e = some (.int .u8)) (hd : P.underlying dst = some .string)
    (h : SlV M A k c 1 (bytesV l)) (hl : l.length = k) : Yl P env M bs rs ⟨d, .convert src dst x, ty, pos, af, gd⟩ (.string (mkS l)) := by
  subst hl
  refine ⟨by simp [okOp, notSel, Op.operands, hk], fun w hc => ?_⟩
  rcases Nat.eq_zero_or_pos l.length with h0 | h0
  · have hl : l = [] := List.eq_nil_of_length_eq_zero h0
    subst hl
    have := run_bytes_str (P := P) (w := w) (A := A) (c := c) (l := []) hs he hd (fun _ => rfl) (fun ad _ j v hj => by simp [Gx.bytesV] at hj)
    simp only [execOp, hx, Sem.run_bind, this, Result.andThen_ok]; rfl
  · obtain ⟨b, o, rfl, hat⟩ := h.2.2.2 h0
    have := run_bytes_str (P := P) (w := w) (A := some ⟨b, o, none⟩) (c := c) (l := l) hs he hd (fun h => by cases h) (fun ad had j v hj => by cases had; rw [add_lit]; exact hc.on.cell (hat j v hj))
    simp only [execOp, hx, Sem.run_bind, this, Result.andThen_ok]; rfl

/-- The bytes of a row as a string. -/
theorem Yl.bytesR (i : Nat) {src dst e' : TypeId} {x : Operand} {v : Value} {e k : Nat} {ow : Bool} {l : List UInt8} (hi : rs[i]? = some ⟨v, e, 1, k, Gx.bytesV l, ow⟩) (hk : known env x = true) (hx : evT env x = v) (hs : P.underlying src = some (.slice e')) (he : P.underlying e' = some (.int .u8)) (hd : P.underlying dst = some .string) :
    Yl P env M bs rs ⟨d, .convert src dst x, ty, pos, af, gd⟩ (.string (mkS l)) := by
  refine ⟨by simp [okOp, notSel, Op.operands, hk], fun w hc => ?_⟩
  obtain ⟨base, g1⟩ := hc.rw _ (List.mem_of_getElem? hi)
  simp only at g1
  obtain ⟨ad, cap, he', _, _, hf⟩ := ownsRow_form g1
  subst he'
  have hkl : l.length = k := by have := g1.1; simp [Gx.bytesV] at this; exact this
  subst hkl
  have : (convert src dst (.slice ad l.length cap)).run P w = .ok (.string (mkS l)) w := by
    refine run_bytes_str hs he hd (fun hn => ?_) (fun a' ha j v hj => ?_)
    · rcases hf with ⟨_, h0, _⟩ | ⟨g, hg⟩
      · exact List.eq_nil_of_length_eq_zero h0
      · rw [hn] at hg; cases hg
    · rcases hf with ⟨hn, _, _⟩ | ⟨g, hg⟩
      · rw [hn] at ha; cases ha
      · rw [hg] at ha; cases ha
        subst hg
        exact g1.cells (g := g) rfl j v hj
  simp only [execOp, hx, Sem.run_bind, this, Result.andThen_ok]; rfl
end

/-! ### Arrays in boxes -/

theorem putAt_map {α : Type} (f : α → Value) (zs : List α) (k : Nat) (z : α) (h : k < zs.length) : putAt (zs.map f) k [f z] = (zs.set k z).map f := by
  unfold putAt
  rw [List.set_eq_take_append_cons_drop, if_pos h]
  simp [List.map_take, List.map_drop]

/-- A whole array out of a box. -/
theorem Yl.loadBA {P : Program} {env : Env} {M : Mem} {bs : List Bx} {rs : List Rw} {d : Option Tmp} {ty : TypeId} {pos : String} {af : Array Edge} {gd : Option (Nat × Bool)} {t : TypeId} {x : Operand} {b : Nat} {q : IntKind} {zs ys : List Int} (i : Nat) {bt : TypeId} (hi : bs[i]? = some ⟨b, bt, zs.map (Value.int q)⟩) (hk : known env x = true) (hx : evT env x = .pointer (some ⟨b, 0, none⟩))
    (hv : Value.agg (ys.map (Value.int q)).toArray = Value.agg (ys.map (Value.int q)).toArray) (ht : tyOk P t true ys.length = true) (hz : zs = ys) : Yl P env M bs rs ⟨d, .load t x, ty, pos, af, gd⟩ (.agg (ys.map (Value.int q)).toArray) := by
  subst hz
  have := Yl.loadB (P := P) (env := env) (M := M) (bs := bs) (rs := rs) (d := d) (ty := ty) (pos := pos) (af := af) (gd := gd) (vs := zs.map (Value.int q)) (k := 0) true i hi hk hx (by simpa using ht) (by rw [List.drop_zero, List.take_of_length_le (Nat.le_refl _)])
  have e : ofCells true (zs.map (Value.int q)) = .agg (zs.map (Value.int q)).toArray := by cases zs <;> rfl
  rw [e] at this
  exact this

section
variable {P : Program} {ops : Array Oper} {Q : Exit → Act → World → Prop} {n : Nat} {E : World} {bw : List Nat} {M : Mem} {w : World} {a : Act} {env : Env} {bs : List Bx} {rs : List Rw} {rest : List Oper}

theorem stepStoreBA (i : Nat) {t ty : TypeId} {p x : Operand} {pos : String} {af : Array Edge} {b : Nat} {bt : TypeId} {q : IntKind} {zs ys : List Int} (hs : Sx n E bw M w a env bs rs) (hi : bs[i]? = some ⟨b, bt, zs.map (Value.int q)⟩) (hkp : known env p = true) (hkx : known env x = true)
    (hp : evT env p = .pointer (some ⟨b, 0, none⟩)) (hx : evT env x = .agg (ys.map (Value.int q)).toArray) (hn : (P.info? t).map (·.size) = some ys.length) (hl : zs.length = ys.length)
    (h : ∀ a' w', Sx n E bw M w' a' env (bs.set i ⟨b, bt, ys.map (Value.int q)⟩) rs → wpList P ops Q rest a' w') : wpList P ops Q (⟨none, .store t p x, ty, pos, af, none⟩ :: rest) a w := by
  refine stepStoreB i (vs := ys.map (Value.int q)) hs hi hkp hkx hp hx rfl (by simpa using hn) (by simp [hl]) (by simp [Value.oneCell']) fun a' w' hs' => ?_
  have : putAt (zs.map (Value.int q)) 0 (ys.map (Value.int q)) = ys.map (Value.int q) := by simp [putAt, hl, List.drop_of_length_le]
  rw [this] at hs'
  exact h a' w' hs'

theorem stepStoreBD (i : Nat) {t ty : TypeId} {p x : Operand} {pos : String} {af : Array Edge} {b k : Nat} {bt : TypeId} {q : IntKind} {zs : List Int} {z : Int} (hs : Sx n E bw M w a env bs rs) (hi : bs[i]? = some ⟨b, bt, zs.map (Value.int q)⟩) (hkp : known env p = true) (hkx : known env x = true)
    (hp : evT env p = .pointer (some ⟨b, k, none⟩)) (hx : evT env x = .int q z) (hn : (P.info? t).map (·.size) = some 1) (hfit : k < zs.length)
    (h : ∀ a' w', Sx n E bw M w' a' env (bs.set i ⟨b, bt, (zs.set k z).map (Value.int q)⟩) rs → wpList P ops Q rest a' w') : wpList P ops Q (⟨none, .store t p x, ty, pos, af, none⟩ :: rest) a w := by
  refine stepStoreB i (vs := [.int q z]) hs hi hkp hkx hp hx rfl hn (by simp only [List.length_map, List.length_cons, List.length_nil]; omega) rfl fun a' w' hs' => ?_
  rw [putAt_map (Value.int q) zs k z hfit] at hs'
  exact h a' w' hs'
end

end Go.Gx
