/-
  Rows that the call itself makes (slices that it fills), over any program.
-/
import Derived.Test.YtifkffmecfgpeaaGxO
import Derived.Maps.AppendAt
namespace Go.Gx
open Go.RowKit

/-- A slice in the visible memory that holds these cells. -/
def SlV (M : Mem) (a : Option Addr) (l c size : Nat) (xs : List Value) : Prop :=
  xs.length = l * size ∧ l ≤ c ∧ c ≤ maxLen ∧ (0 < l → ∃ b o, a = some ⟨b, o, none⟩ ∧ At M b o xs)

theorem SlV.le {M M' : Mem} {a : Option Addr} {l c size : Nat} {xs : List Value} (h : SlV M a l c size xs) (hl : M.le M') : SlV M' a l c size xs :=
  ⟨h.1, h.2.1, h.2.2.1, fun h0 => by obtain ⟨b, o, e, ha⟩ := h.2.2.2 h0; exact ⟨b, o, e, ha.le hl⟩⟩

/-- These cells at that place. -/
def Cs (xs : List Value) (k : Nat) (vs : List Value) : Prop := (xs.drop k).take vs.length = vs

section
variable {P : Program} {ops : Array Oper} {Q : Exit → Act → World → Prop} {n : Nat} {E : World} {bw : List Nat} {M : Mem} {w : World} {a : Act} {env : Env} {bs : List Bx} {rs : List Rw} {rest : List Oper}

theorem ownsRow_form {base : Nat} {e size n : Nat} {v : Value} {xs : List Value} (h : w.ownsRow base e size v n xs) :
    ∃ ad cap, v = .slice ad n cap ∧ n ≤ cap ∧ cap ≤ maxLen ∧ (ad = none ∧ n = 0 ∧ cap = 0 ∨ ∃ g, ad = some ⟨g, 0, none⟩) := by
  rcases h.2 with ⟨rfl, rfl⟩ | ⟨g, cap, cur, rfl, _, _, h1, h2, _, _⟩
  · exact ⟨none, 0, rfl, Nat.le_refl _, Nat.zero_le _, .inl ⟨rfl, rfl, rfl⟩⟩
  · exact ⟨_, cap, rfl, h1, h2, .inr ⟨g, rfl⟩⟩

theorem Sx.rowform (hs : Sx n E bw M w a env bs rs) (i : Nat) {r : Rw} (hi : rs[i]? = some r) : ∃ ad cap, r.v = .slice ad r.n cap ∧ r.n ≤ cap ∧ r.xs.length = r.n * r.size := by
  obtain ⟨h1, _⟩ := hs.rw r (List.mem_of_getElem? hi)
  obtain ⟨ad, cap, e, h2, _, _⟩ := ownsRow_form h1
  exact ⟨ad, cap, e, h2, h1.1⟩

theorem Sx.chrs {rs' : List Rw} (hs : Sx n E bw M w a env bs rs) (h : rs = rs') : Sx n E bw M w a env bs rs' := h ▸ hs

theorem lenb {k bytes : Nat} (h : k * bytes ≤ 140737488355328) (h0 : 0 < bytes) : k ≤ maxLen := by
  have : k * 1 ≤ k * bytes := Nat.mul_le_mul_left k h0
  unfold maxLen
  omega

theorem Sx.rowblk (hs : Sx n E bw M w a env bs rs) (i : Nat) {e size k cap : Nat} {ad : Option Addr} {xs : List Value} {ow : Bool} (hi : rs[i]? = some ⟨.slice ad k cap, e, size, k, xs, ow⟩) (h0 : 0 < k) : ∃ g, ad = some ⟨g, 0, none⟩ := by
  obtain ⟨h1, _⟩ := hs.rw _ (List.mem_of_getElem? hi)
  obtain ⟨ad', cap', he, _, _, h2⟩ := ownsRow_form h1
  simp only [Value.slice.injEq] at he
  obtain ⟨rfl, _, rfl⟩ := he
  rcases h2 with ⟨_, h3, _⟩ | h2
  · simp only at h3; omega
  · exact h2

/-- A new row of the call's own. -/
theorem Sx.newrow (hs : Sx n E bw M w a env bs rs) (cs : List Value) (e size k : Nat) (hl : cs.length = k * size) (hm : k ≤ maxLen) {a' : Act} {env' : Env} (hA : Ag n a' env') :
    Sx n E bw M (w.alloc (.cells cs.toArray e)) a' env' bs (⟨.slice (some ⟨w.heap.size, 0, none⟩) k k, e, size, k, cs, true⟩ :: rs) := by
  have hb : Below w.heap.size w (w.alloc (.cells cs.toArray e)) := (Below.refl _ w).alloc (Nat.le_refl _) _
  have h1 := (hs.later hb (hs.on.later hb) (fun _ _ => rfl)).act hA
  refine ⟨hA, h1.on, h1.pr, h1.bx, fun r hr => ?_, hs.nd.b, fun x hx r hr => ?_, List.Pairwise.cons (fun s hs' g hg => ?_) hs.nd.r⟩
  · rcases List.mem_cons.1 hr with rfl | hr
    · refine ⟨⟨hl, .inr ⟨w.heap.size, k, cs.toArray, rfl, Nat.zero_le _, heap_alloc_new w _, Nat.le_refl _, hm, by simpa using hl, by simp [← hl]⟩⟩, fun g hg => ?_⟩
      simp only [Value.ownBlock, Option.some.injEq] at hg
      subst hg
      exact ⟨hs.on.noneAt (Nat.le_refl _), .inl hs.pr.size⟩
    · exact h1.rw r hr
  · rcases List.mem_cons.1 hr with rfl | hr
    · simp only [Value.ownBlock, ne_eq, Option.some.injEq]
      have := (hs.bx x hx).1.lt
      omega
    · exact hs.nd.x x hx r hr
  · simp only [Value.ownBlock, Option.some.injEq] at hg
    subst hg
    intro e'
    have := ((hs.rw s hs').1.lt _ e').2
    omega

theorem stepMake (cs : List Value) (e size k : Nat) {d : Nat} {o : Oper} (hs : Sx n E bw M w a env bs rs) (hk : okOp env o = true) (hg : o.guard = none) (hd : o.dst = some d)
    (hrun : ∀ w, (execOp (evT env) o).run P w = .ok (.value (.slice (some ⟨w.heap.size, 0, none⟩) k k)) (w.alloc (.cells cs.toArray e))) (hl : cs.length = k * size) (hm : k ≤ maxLen) (hdn : d < n)
    (h : ∀ a' w' v, Sx n E bw M w' a' ((d, v) :: env) bs (⟨v, e, size, k, cs, true⟩ :: rs) → wpList P ops Q rest a' w') : wpList P ops Q (o :: rest) a w := by
  refine stepK (Z := fun _ _ => False) (d := d) hs (fun _ _ h => h.elim) hg hk hd hdn ?_
  refine OpW.of_run (hrun w) ?_
  intro a' hA
  exact h a' _ _ (hs.newrow cs e size k hl hm hA)

/-- Another row in the place of row i: its block is the elder's, or a new one. -/
theorem Sx.rowset {w' : World} (hs : Sx n E bw M w a env bs rs) (i : Nat) {r r' : Rw} (hi : rs[i]? = some r) (hg : w.grownBy w' r.v.ownBlock)
    (hfl : r'.own = r.own) (hown : w'.ownsRow 0 r'.e r'.size r'.v r'.n r'.xs) (hblk : r'.v.ownBlock = r.v.ownBlock ∨ r'.v.ownBlock = none ∨ r'.v.ownBlock = some w.heap.size) {a' : Act} {env' : Env} (hA : Ag n a' env') :
    Sx n E bw M w' a' env' bs (rs.set i r') := by
  have hr := hs.rw r (List.mem_of_getElem? hi)
  have hne : ∀ k, k < w.heap.size → r.v.ownBlock ≠ some k → w'.heap[k]? = w.heap[k]? := fun k hk h => hg.block k hk (fun e => h e.symm)
  have hlt : ∀ g, r'.v.ownBlock = some g → (r.v.ownBlock = some g ∨ g = w.heap.size) := fun g hg' => by
    rcases hblk with h | h | h
    · exact .inl (h ▸ hg')
    · rw [h] at hg'; cases hg'
    · rw [h] at hg'; exact .inr (by simpa using hg'.symm)
  have hiL : i < rs.length := (List.getElem?_eq_some_iff.1 hi).1
  have hmem : ∀ s ∈ rs.set i r', s = r' ∨ ∃ j, rs[j]? = some s ∧ i ≠ j := by
    intro s hs'
    obtain ⟨j, hj⟩ := List.mem_iff_getElem?.1 hs'
    rw [List.getElem?_set] at hj
    by_cases hij : i = j
    · subst hij
      rw [if_pos rfl, if_pos hiL] at hj
      simp only [Option.some.injEq] at hj
      exact .inl hj.symm
    · rw [if_neg hij] at hj; exact .inr ⟨j, hj, hij⟩
  have hpw : ∀ j s, rs[j]? = some s → i ≠ j → ∀ g, r.v.ownBlock = some g → s.v.ownBlock ≠ some g := by
    intro j s hj hij g hg1 hg2
    obtain ⟨hjl, hj'⟩ := List.getElem?_eq_some_iff.1 hj
    obtain ⟨_, hi'⟩ := List.getElem?_eq_some_iff.1 hi
    have hp := List.pairwise_iff_getElem.1 hs.nd.r
    rcases Nat.lt_or_ge i j with h | h
    · have := hp i j hiL hjl h g
      rw [hi', hj'] at this
      exact this hg1 hg2
    · have := hp j i hjl hiL (by omega) g
      rw [hi', hj'] at this
      exact this hg2 hg1
  have hkp : ∀ j s, rs[j]? = some s → i ≠ j → s.v.ownBlock = none ∨ s.v.ownBlock ≠ r.v.ownBlock := by
    intro j s hj hij
    cases hb : s.v.ownBlock with
    | none => exact .inl rfl
    | some g => exact .inr fun e => hpw j s hj hij g e.symm hb
  refine ⟨hA, fun b o hb => ?_, ?_, fun x hx => ?_, fun s hs' => ?_, hs.nd.b, fun x hx s hs' => ?_, ?_⟩
  · rw [hne b (hs.on.lt hb) (fun e => by rw [(hr.2 b e).1] at hb; cases hb)]; exact hs.on b o hb
  · obtain ⟨h1, h2, h3, h4, h5⟩ := hs.pr
    refine ⟨hg.os.trans h1, hg.tape.trans h2, hg.output.trans h3, Nat.le_trans h4 hg.size, fun k hk hn => ?_⟩
    rw [hne k (by omega) (fun e => by
      rcases (hr.2 k e).2 with h | h
      · omega
      · exact hn h.2)]
    exact h5 k hk hn
  · obtain ⟨g1, g2, g3⟩ := hs.bx x hx
    exact ⟨(hne _ g1.lt (hs.nd.x x hx r (List.mem_of_getElem? hi))).trans g1, g2, g3⟩
  · rcases hmem s hs' with rfl | ⟨j, hj, hij⟩
    · refine ⟨hown, fun g hg' => ?_⟩
      rcases hlt g hg' with h | rfl
      · rw [hfl]; exact hr.2 g h
      · exact ⟨hs.on.noneAt (Nat.le_refl _), .inl hs.pr.size⟩
    · obtain ⟨g1, g2⟩ := hs.rw s (List.mem_of_getElem? hj)
      exact ⟨g1.kept hg (hkp j s hj hij), g2⟩
  · rcases hmem s hs' with rfl | ⟨j, hj, hij⟩
    · intro e
      rcases hlt _ e with h | h
      · exact hs.nd.x x hx r (List.mem_of_getElem? hi) h
      · have := (hs.bx x hx).1.lt
        omega
    · exact hs.nd.x x hx s (List.mem_of_getElem? hj)
  · refine List.pairwise_iff_getElem.2 fun p q hp hq hpq g hg1 => ?_
    simp only [List.length_set] at hp hq
    rw [List.getElem_set] at hg1 ⊢
    have old : ∀ j (hj : j < rs.length), i ≠ j → ∀ g, r'.v.ownBlock = some g → rs[j].v.ownBlock ≠ some g := by
      intro j hj hij g h1 h2
      rcases hlt g h1 with h | rfl
      · exact hpw j rs[j] (List.getElem?_eq_getElem hj) hij g h h2
      · have := ((hs.rw rs[j] (List.getElem_mem hj)).1.lt _ h2).2
        omega
    by_cases hip : i = p
    · rw [if_pos hip] at hg1
      rw [if_neg (by omega)]
      exact old q hq (by omega) g hg1
    · rw [if_neg hip] at hg1
      by_cases hiq : i = q
      · rw [if_pos hiq]
        exact fun h => old p hp hip g h hg1
      · rw [if_neg hiq]
        exact List.pairwise_iff_getElem.1 hs.nd.r p q hp hq hpq g hg1

/-- What append takes its cells from. -/
def Src (w : World) (A : Option Addr) (m size : Nat) (news : List Value) : Prop :=
  news.length = m * size ∧ (∀ u ∈ news, u.oneCell' = true) ∧ (0 < m → ∃ ad, A = some ad ∧ ∀ j u, news[j]? = some u → w.cell? (ad.add j) = some u)

theorem run_append_src {base : Nat} {t ty e : TypeId} {size bytes : Nat} (ht : P.underlying t = some (.slice e)) (hi : (P.info? e).map (fun i => (i.size, i.bytes, i.zero.map (·.cells.size))) = some (size, bytes, some size)) (hsz : 0 < size)
    {v : Value} {n : Nat} {xs : List Value} (hown : w.ownsRow base e size v n xs) {A : Option Addr} {m c : Nat} {news : List Value} (hr : Src w A m size news)
    (h63 : n + m ≤ maxLen) (hbytes : (n + m) * bytes ≤ 140737488355328) (hbase : base ≤ w.heap.size) :
    ∃ v' w', (Builtin.append_ #[t, t] ty #[v, .slice A m c]).run P w = .ok v' w' ∧ w'.ownsRow base e size v' (n + m) (xs ++ news) ∧ w.grownBy w' v.ownBlock ∧
      (v'.ownBlock = v.ownBlock ∨ v'.ownBlock = none ∨ v'.ownBlock = some w.heap.size) := by
  cases hinf : P.info? e with
  | none => simp [hinf] at hi
  | some i =>
    simp only [hinf, Option.map_some, Option.some.injEq, Prod.mk.injEq] at hi
    obtain ⟨h1, h2, h3⟩ := hi
    cases hz : i.zero with
    | none => simp [hz] at h3
    | some z =>
      simp only [hz, Option.map_some, Option.some.injEq] at h3
      rcases A with _ | ad
      · have hm : m = 0 := by
          rcases Nat.eq_zero_or_pos m with h0 | h0
          · exact h0
          · obtain ⟨ad, h, _⟩ := hr.2.2 h0; cases h
        subst hm
        have hn : news = [] := List.eq_nil_of_length_eq_zero (by simpa using hr.1)
        subst hn
        refine ⟨v, w, ?_, by simpa using hown, World.grownBy.refl w _, .inl rfl⟩
        rcases hown.2 with ⟨rfl, rfl⟩ | ⟨g, cap, cur, rfl, _, _, hnc, _⟩
        · simp [Builtin.append_, run_underlying ht, sizeOf, typeInfo, hinf, Builtin.lenOf, Builtin.firstCells]
        · simp [Builtin.append_, run_underlying ht, sizeOf, typeInfo, hinf, Builtin.lenOf, Builtin.firstCells, hnc, storeCells]
      · have hcells : ∀ j u, news[j]? = some u → w.cell? (ad.add j) = some u := by
          intro j u hu
          rcases Nat.eq_zero_or_pos m with h0 | h0
          · subst h0
            have hn : news = [] := List.eq_nil_of_length_eq_zero (by simpa using hr.1)
            subst hn
            simp at hu
          · obtain ⟨ad', h, hc⟩ := hr.2.2 h0
            injection h with h
            subst h
            exact hc j u hu
        obtain ⟨v', w', hrun, g2, g3, _, g5⟩ := run_append_own_at (P := P) w base t ty e i z size bytes ht hinf hz h1 h2 h3 hsz v n xs hown ad m c news hr.1 hcells hr.2.1 h63 hbytes hbase
        exact ⟨v', w', hrun, g2, g3, g5.imp id .inr⟩

theorem run_call_append {d : Option Tmp} {ty : TypeId} {x y : Operand} {t : TypeId} {pos : String} {af : Array Edge} {gd : Option (Nat × Bool)} {vx vy : Value} (hx : evT env x = vx) (hy : evT env y = vy) :
    (execOp (evT env) ⟨d, .call { callee := .builtin .append, args := #[x, y], argTypes := #[t, t] }, ty, pos, af, gd⟩).run P w = ((Builtin.append_ #[t, t] ty #[vx, vy]).run P w).andThen fun v w' => .ok (.value v) w' := by
  simp [execOp, resolve, invoke, builtin, hx, hy]

/-- append to a row of the call's own. -/
theorem stepAppend (i : Nat) {d : Nat} {ty : TypeId} {x y : Operand} {t e : TypeId} {size bytes : Nat} {pos : String} {af : Array Edge} {v : Value} {k : Nat} {xs : List Value} {A : Option Addr} {m c : Nat} {ow : Bool} (news : List Value)
    (hs : Sx n E bw M w a env bs rs) (hi : rs[i]? = some ⟨v, e, size, k, xs, ow⟩) (hkx : known env x = true) (hky : known env y = true) (hx : evT env x = v) (hy : evT env y = .slice A m c)
    (ht : P.underlying t = some (.slice e)) (hinf : (P.info? e).map (fun i => (i.size, i.bytes, i.zero.map (·.cells.size))) = some (size, bytes, some size)) (hsz : 0 < size) (hdn : d < n)
    (hr : Src w A m size news) (h63 : k + m ≤ maxLen) (hbytes : (k + m) * bytes ≤ 140737488355328)
    (h : ∀ a' w' v', Sx n E bw M w' a' ((d, v') :: env) bs (rs.set i ⟨v', e, size, k + m, xs ++ news, ow⟩) → wpList P ops Q rest a' w') :
    wpList P ops Q (⟨some d, .call { callee := .builtin .append, args := #[x, y], argTypes := #[t, t] }, ty, pos, af, none⟩ :: rest) a w := by
  refine stepK (Z := fun _ _ => False) (d := d) hs (fun _ _ h => h.elim) rfl (by simp [okOp, notSel, Op.operands, Call.operands, hkx, hky]) rfl hdn ?_
  obtain ⟨v', w', hrun, h1, h2, h3⟩ := run_append_src (P := P) (ty := ty) (c := c) ht hinf hsz (hs.rw _ (List.mem_of_getElem? hi)).1 hr h63 hbytes (Nat.zero_le _)
  refine OpW.of_run (w' := w') (v := v') (by rw [run_call_append hx hy, hrun]; rfl) ?_
  intro a' hA
  exact h a' w' v' (hs.rowset (r' := ⟨v', e, size, k + m, xs ++ news, ow⟩) i hi h2 rfl h1 h3 hA)

/-- The source is another row of the call's own. -/
theorem Sx.srcRow (hs : Sx n E bw M w a env bs rs) (j : Nat) {A : Option Addr} {m c : Nat} {e size : Nat} {news : List Value} {ow : Bool} (hj : rs[j]? = some ⟨.slice A m c, e, size, m, news, ow⟩) (h1 : news.all (·.oneCell') = true) : Src w A m size news := by
  obtain ⟨g1, _⟩ := hs.rw _ (List.mem_of_getElem? hj)
  refine ⟨g1.1, fun u hu => List.all_eq_true.1 h1 u hu, fun h0 => ?_⟩
  obtain ⟨ad, cap, he, _, _, h2⟩ := ownsRow_form g1
  simp only [Value.slice.injEq] at he
  obtain ⟨rfl, _, rfl⟩ := he
  rcases h2 with ⟨_, h3, _⟩ | ⟨g, rfl⟩
  · simp only at h3; omega
  · exact ⟨_, rfl, fun j u hu => g1.cells (g := g) rfl j u hu⟩

/-- The source lies in the visible memory. -/
theorem Sx.srcV (hs : Sx n E bw M w a env bs rs) {A : Option Addr} {m c size : Nat} {news : List Value} (h : SlV M A m c size news) (h1 : ∀ u ∈ news, u.oneCell' = true) : Src w A m size news := by
  refine ⟨h.1, h1, fun h0 => ?_⟩
  obtain ⟨b, o, rfl, ha⟩ := h.2.2.2 h0
  exact ⟨_, rfl, fun j u hu => by rw [add_lit]; exact hs.on.cell (ha j u hu)⟩

/-- A row of the call's own becomes visible. -/
theorem Sx.release (hs : Sx n E bw M w a env bs rs) (i : Nat) {A : Option Addr} {l c : Nat} {e size : Nat} {xs : List Value} (hi : rs[i]? = some ⟨.slice A l c, e, size, l, xs, true⟩) (rs' : List Rw) (hrs : rs.eraseIdx i = rs') :
    ∃ M', M.le M' ∧ SlV M' A l c size xs ∧ (∀ b o, M' b = some o → M b = some o ∨ E.heap.size ≤ b) ∧ Sx n E bw M' w a env bs rs' := by
  subst hrs
  obtain ⟨g1, g2⟩ := hs.rw _ (List.mem_of_getElem? hi)
  have hiL : i < rs.length := (List.getElem?_eq_some_iff.1 hi).1
  have hsub : (rs.eraseIdx i).Sublist rs := List.eraseIdx_sublist rs i
  obtain ⟨ad, cap, he, hc1, hc2, h2⟩ := ownsRow_form g1
  simp only [Value.slice.injEq] at he
  obtain ⟨rfl, _, rfl⟩ := he
  rcases h2 with ⟨rfl, h3, h4⟩ | ⟨g, rfl⟩
  · simp only at h3 h4
    refine ⟨M, Mem.le.refl M, ⟨g1.1, hc1, hc2, fun h0 => by omega⟩, fun _ _ h => .inl h, hs.ag, hs.on, hs.pr, hs.bx, fun r hr => hs.rw r (hsub.subset hr), hs.nd.sub (List.Sublist.refl _) hsub⟩
  · have hg := (g2 g rfl).1
    have hbg : E.heap.size ≤ g := by
      rcases (g2 g rfl).2 with h | h
      · exact h
      · cases h.1
    obtain ⟨_, hlt⟩ := g1.lt g rfl
    rcases g1.2 with ⟨h0, _⟩ | ⟨g', cap', cur, hv, _, hcell, _, _, _, htake⟩
    · cases h0
    · simp only [Value.slice.injEq, Option.some.injEq, Addr.mk.injEq, and_true] at hv
      obtain ⟨rfl, _, rfl⟩ := hv
      refine ⟨fun b => if b = g then w.heap[g]? else M b, fun b o hb => ?_, ⟨g1.1, hc1, hc2, fun _ => ⟨g, 0, rfl, fun j v hj => ?_⟩⟩, fun b o hb => ?_, hs.ag, fun b o hb => ?_, hs.pr, fun x hx => ?_, fun r hr => ?_, hs.nd.sub (List.Sublist.refl _) hsub⟩
      · show (if b = g then w.heap[g]? else M b) = some o
        rw [if_neg (by rintro rfl; rw [hg] at hb; cases hb)]; exact hb
      · unfold Mem.cell
        simp only [if_true, hcell]
        change List.take (l * size) cur.toList = xs at htake
        rw [← htake, List.getElem?_take] at hj
        split at hj
        · simpa using hj
        · cases hj
      · change (if b = g then w.heap[g]? else M b) = some o at hb
        by_cases hbg' : b = g
        · exact .inr (hbg' ▸ hbg)
        · rw [if_neg hbg'] at hb; exact .inl hb
      · change (if b = g then w.heap[g]? else M b) = some o at hb
        by_cases hbg' : b = g
        · rw [if_pos hbg'] at hb; rw [hbg']; exact hb
        · rw [if_neg hbg'] at hb; exact hs.on b o hb
      · obtain ⟨k1, k2, k3⟩ := hs.bx x hx
        refine ⟨k1, ?_, k3⟩
        show (if x.b = g then w.heap[g]? else M x.b) = none
        rw [if_neg (fun e => hs.nd.x x hx _ (List.mem_of_getElem? hi) (by rw [e]; rfl))]; exact k2
      · obtain ⟨k1, k2⟩ := hs.rw r (hsub.subset hr)
        refine ⟨k1, fun g' hg' => ⟨?_, (k2 g' hg').2⟩⟩
        show (if g' = g then w.heap[g]? else M g') = none
        rw [if_neg ?_]
        · exact (k2 g' hg').1
        · rintro rfl
          obtain ⟨j, hj⟩ := List.mem_iff_getElem?.1 hr
          rw [List.getElem?_eraseIdx] at hj
          have hp := List.pairwise_iff_getElem.1 hs.nd.r
          obtain ⟨_, hi'⟩ := List.getElem?_eq_some_iff.1 hi
          by_cases hji : j < i
          · rw [if_pos hji] at hj
            obtain ⟨hjl, hj'⟩ := List.getElem?_eq_some_iff.1 hj
            have := hp j i hjl hiL hji g'
            rw [hj', hi'] at this
            exact this hg' rfl
          · rw [if_neg hji] at hj
            obtain ⟨hjl, hj'⟩ := List.getElem?_eq_some_iff.1 hj
            have := hp i (j + 1) hiL hjl (by omega) g'
            rw [hj', hi'] at this
            exact this rfl hg'
end

section
variable {P : Program} {env : Env} {M : Mem} {bs : List Bx} {rs : List Rw} {d : Option Tmp} {ty : TypeId} {pos : String} {af : Array Edge} {gd : Option (Nat × Bool)}

/-- The length of a row. -/
theorem Yl.lenR (i : Nat) {x : Operand} {t e' : TypeId} {v : Value} {e size k : Nat} {xs : List Value} {ow : Bool} (hi : rs[i]? = some ⟨v, e, size, k, xs, ow⟩) (hk : known env x = true) (hx : evT env x = v) (ht : P.underlying t = some (.slice e')) :
    Yl P env M bs rs ⟨d, .call { callee := .builtin .len, args := #[x], argTypes := #[t] }, ty, pos, af, gd⟩ (.int .i64 ((k : Nat) : Int)) := by
  refine ⟨by simp [okOp, notSel, Op.operands, Call.operands, hk], fun w hc => ?_⟩
  obtain ⟨base, g1⟩ := hc.rw _ (List.mem_of_getElem? hi)
  obtain ⟨ad, cap, he, _⟩ := ownsRow_form g1
  simp only at he
  subst he
  simp [execOp, resolve, invoke, builtin, hx, Builtin.len_, run_underlying ht, goInt]

/-- A load out of a row. -/
theorem Yl.loadR (i : Nat) {t : TypeId} {x : Operand} {g k n cap e size : Nat} {ad : Option Addr} {xs vs : List Value} {ow : Bool} (ag : Bool) (hi : rs[i]? = some ⟨.slice ad n cap, e, size, n, xs, ow⟩) (had : ad = some ⟨g, 0, none⟩) (hk : known env x = true) (hx : evT env x = .pointer (some ⟨g, k, none⟩))
    (ht : tyOk P t ag vs.length = true) (h : Cs xs k vs) : Yl P env M bs rs ⟨d, .load t x, ty, pos, af, gd⟩ (ofCells ag vs) := by
  subst had
  obtain ⟨h1, h2, h3, h4⟩ := tyOk_spec ht
  refine ⟨by simp [okOp, notSel, Op.operands, hk], fun w hc => ?_⟩
  obtain ⟨base, g1⟩ := hc.rw _ (List.mem_of_getElem? hi)
  have := run_load_at (P := P) (b := g) (o := k) h1 h2 h3 h4 (fun j v hj => by
    have hjl : j < vs.length := (List.getElem?_eq_some_iff.1 hj).1
    rw [← h, List.getElem?_take, if_pos hjl, List.getElem?_drop] at hj
    have := g1.cells (g := g) rfl (k + j) v hj
    rw [add_lit, Nat.zero_add] at this
    exact this)
  simp [execOp, Instr.loadAt, hx, Instr.sureAddr, this]
end

end Go.Gx
