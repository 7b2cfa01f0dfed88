/-
  Rows that are handed back, rows that are lent for reading; over any program.
-/
import Derived.Test.YtifkffmecfgpeaaGxX
namespace Go.Gx
open Go.RowKit

section
variable {P : Program} {ops : Array Oper} {Q : Exit → Act → World → Prop} {n : Nat} {E : World} {bw : List Nat} {M : Mem} {w : World} {a : Act} {env : Env} {bs : List Bx} {rs : List Rw} {rest : List Oper}

/-- Less is seen. -/
theorem Sx.down {M1 : Mem} (h : Sx n E bw M1 w a env bs rs) (hle : M.le M1) : Sx n E bw M w a env bs rs := by
  have hno : ∀ b, M1 b = none → M b = none := fun b hb => by
    cases hm : M b with
    | none => rfl
    | some o => rw [hle b o hm] at hb; cases hb
  exact ⟨h.ag, fun b o hb => h.on b o (hle b o hb), h.pr, fun x hx => ⟨(h.bx x hx).1, hno _ (h.bx x hx).2.1, (h.bx x hx).2.2⟩, fun r hr => ⟨(h.rw r hr).1, fun g hg => ⟨hno _ ((h.rw r hr).2 g hg).1, ((h.rw r hr).2 g hg).2⟩⟩, h.nd⟩

theorem On.hm (h : On M w) : M.le (HM w) := fun b o hb => h b o hb

/-- A row, as all memory shows it. -/
theorem Sx.peek (hs : Sx n E bw M w a env bs rs) (i : Nat) {A : Option Addr} {l c e size : Nat} {xs : List Value} {ow : Bool} (hi : rs[i]? = some ⟨.slice A l c, e, size, l, xs, ow⟩) : SlV (HM w) A l c size xs := by
  obtain ⟨g1, _⟩ := hs.rw _ (List.mem_of_getElem? hi)
  obtain ⟨ad, cap, he, hc1, hc2, h2⟩ := ownsRow_form g1
  simp only [Value.slice.injEq] at he
  obtain ⟨rfl, _, rfl⟩ := he
  refine ⟨g1.1, hc1, hc2, fun h0 => ?_⟩
  rcases h2 with ⟨_, h3, _⟩ | ⟨g, rfl⟩
  · simp only at h3; omega
  · refine ⟨g, 0, rfl, fun j v hj => HM.cell ?_⟩
    have := g1.cells (g := g) rfl j v hj
    rw [add_lit] at this
    exact this

/-- A call that reads all memory, its value alone is wanted. -/
theorem stepCallPr {d f : Nat} {ty : TypeId} {c : Call} {pos : String} {af : Array Edge} {fn : Func} {K : Value → Prop} {first caps : Array Value} (args : List Value) (hs : Sx n E bw M w a env bs rs)
    (hk : okOp env ⟨some d, .call c, ty, pos, af, none⟩ = true) (hcal : ∃ x, c.callee = .value x ∧ evT env x = .func (.func f) first caps) (hargs : first.toList ++ c.args.toList.map (evT env) ++ caps.toList = args) (hf : P.funcs[f]? = some fn) (hbody : fn.body.isNone = false) (hname : (fn.name == "runtime.NumGoroutine") = false) (hdn : d < n)
    (hc : CallE P f args.toArray (HM w) fun v _ => K v)
    (h : ∀ a' w' v, K v → Sx n E bw M w' a' ((d, v) :: env) bs rs → wpList P ops Q rest a' w') : wpList P ops Q (⟨some d, .call c, ty, pos, af, none⟩ :: rest) a w := by
  refine stepK (Z := fun _ _ => False) (d := d) hs (fun _ _ h => h.elim) rfl hk rfl hdn ?_
  unfold OpW
  rw [run_call args hcal hargs hf hbody hname]
  refine (hc w (HM.on w)).mono fun e w' ⟨v, he, hb, hK⟩ => ?_
  subst he
  intro a' hA
  exact h a' w' v hK ((hs.later hb (hs.on.later hb) (fun _ _ => rfl)).act hA)

/-- The same, and it reads all memory. -/
theorem stepCallR {d f : Nat} {ty : TypeId} {c : Call} {pos : String} {af : Array Edge} {fn : Func} {K : Value → List Bx → List Rw → Mem → Prop} {first caps : Array Value} (args : List Value) (hs : Sx n E bw M w a env bs rs)
    (hk : okOp env ⟨some d, .call c, ty, pos, af, none⟩ = true) (hcal : ∃ x, c.callee = .value x ∧ evT env x = .func (.func f) first caps) (hargs : first.toList ++ c.args.toList.map (evT env) ++ caps.toList = args) (hf : P.funcs[f]? = some fn) (hbody : fn.body.isNone = false) (hname : (fn.name == "runtime.NumGoroutine") = false) (hdn : d < n)
    (hc : CallL P f args.toArray (HM w) [] [] K)
    (h : ∀ a' w' M' v lb' lr', K v lb' lr' M' → Sx n E bw M w' a' ((d, v) :: env) (lb' ++ bs) (flag true lr' ++ rs) → wpList P ops Q rest a' w') : wpList P ops Q (⟨some d, .call c, ty, pos, af, none⟩ :: rest) a w := by
  refine stepK (Z := fun _ _ => False) (d := d) hs (fun _ _ h => h.elim) rfl hk rfl hdn ?_
  unfold OpW
  rw [run_call args hcal hargs hf hbody hname]
  have hy0 : Sy w (blk [] []) (HM w) w [] [] := ⟨HM.on w, Pres.refl _ _, fun x hx => (by cases hx), fun r hr => (by cases hr), ⟨List.nodup_nil, (fun x hx => by cases hx), List.Pairwise.nil⟩⟩
  refine (hc w hy0).mono fun e w' ⟨v, lb', lr', M', he, hle, hMM, hy, hbe, hK⟩ => ?_
  subst he
  intro a' hA
  have hkeep : ∀ k, k < w.heap.size → w'.heap[k]? = w.heap[k]? := fun k hk => hy.pr.block k hk (by simp [blk])
  have hM0 : ∀ b, w.heap.size ≤ b → M b = none := fun b hb => hs.on.noneAt hb
  let M2 : Mem := fun b => if b < w.heap.size then M b else M' b
  have hlt2 : ∀ b, b < w.heap.size → M2 b = M b := fun b hb => by simp only [M2, if_pos hb]
  have hge2 : ∀ b, ¬ b < w.heap.size → M2 b = M' b := fun b hb => by simp only [M2, if_neg hb]
  have hle2 : M.le M2 := fun b o hb => by rw [hlt2 b (hs.on.lt hb)]; exact hb
  have hMM2 : MM M2 M w := fun b o hb => by
    by_cases hlt : b < w.heap.size
    · rw [hlt2 b hlt] at hb; exact .inl hb
    · exact .inr (by omega)
  have hbw : blk ([] : List Bx) ([] : List Rw) = [] := rfl
  have hnew : ∀ k, (w.heap.size ≤ k ∨ k ∈ blk ([] : List Bx) ([] : List Rw)) → ¬ k < w.heap.size := fun k hk => by
    rw [hbw] at hk
    rcases hk with hk | hk
    · omega
    · cases hk
  have hy2 : Sy w (blk [] []) M2 w' lb' lr' := by
    refine ⟨fun b o hb => ?_, hy.pr, fun x hx => ?_, fun r hr => ?_, hy.nd⟩
    · by_cases hlt : b < w.heap.size
      · rw [hlt2 b hlt] at hb; exact (hkeep b hlt).trans (hs.on b o hb)
      · rw [hge2 b hlt] at hb; exact hy.on b o hb
    · obtain ⟨h1, h2, h3⟩ := hy.bx x hx
      exact ⟨h1, (hge2 _ (hnew _ h3)).trans h2, h3⟩
    · obtain ⟨h1, h2⟩ := hy.rw r hr
      refine ⟨h1, fun g hg => ⟨(hge2 _ (hnew _ ((h2 g hg).2.imp id (·.2)))).trans (h2 g hg).1, (h2 g hg).2⟩⟩
  have := Sx.back (lb := []) (lr := []) (fl := true) hs hle2 hMM2 hy2 hbe hA
  exact h a' w' M' v lb' lr' hK (this.down hle2)
end
end Go.Gx
