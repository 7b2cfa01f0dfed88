/-
  A library over ANY program: step lemmas over Code.wp, with the frame known by an association list of its live slots,
  the call's own hidden boxes known whole, and a visible world V below which nothing has changed.
-/
import Derived.WalkKit
import Derived.WalkSpells
import Derived.WalkLawsBesides
import Derived.Deep.Quiet
namespace Go.Gx
open Go.RowKit

abbrev Env := List (Nat × Value)

def lk : Env → Nat → Option Value
  | [], _ => none
  | (k, v) :: r, x => match Nat.beq k x with
    | true => some v
    | false => lk r x

theorem lk_cons (k : Nat) (v : Value) (r : Env) (x : Nat) : lk ((k, v) :: r) x = if k = x then some v else lk r x := by
  show (match Nat.beq k x with | true => some v | false => lk r x) = _
  by_cases h : k = x
  · subst h; simp
  · have : Nat.beq k x = false := by
      cases hb : Nat.beq k x
      · rfl
      · exact absurd (Nat.eq_of_beq_eq_true hb) h
    simp [this, h]

structure Ag (n : Nat) (a : Act) (env : Env) : Prop where
  df : a.defers = []
  sz : a.tmps.size = n
  at_ : ∀ x v, lk env x = some v → a.tmps.getD x undef = v

theorem Ag.put {n : Nat} {a : Act} {env : Env} (h : Ag n a env) {d : Nat} (hd : d < n) (v : Value) : Ag n (a.put (some d) v) ((d, v) :: env) := by
  refine ⟨h.df, by simp [Act.put, h.sz], fun x u hx => ?_⟩
  rw [lk_cons] at hx
  by_cases hk : d = x
  · subst hk
    simp only [if_true, Option.some.injEq] at hx
    subst hx
    simp [Act.put, h.sz, hd]
  · rw [if_neg hk] at hx
    have := h.at_ x u hx
    simp only [Act.put, Array.getD_eq_getD_getElem?, Array.getElem?_setIfInBounds_ne hk] at this ⊢
    exact this

/-- Fewer slots. -/
theorem Ag.sub {n : Nat} {a : Act} {env : Env} (h : Ag n a env) (env' : Env) (hs : ∀ p ∈ env', lk env p.1 = some p.2) : Ag n a env' := by
  refine ⟨h.df, h.sz, fun x v hx => h.at_ x v ?_⟩
  clear h
  induction env' with
  | nil => cases hx
  | cons p r ih =>
    obtain ⟨k, u⟩ := p
    rw [lk_cons] at hx
    by_cases hk : k = x
    · subst hk
      simp only [if_true, Option.some.injEq] at hx
      subst hx
      exact hs (k, u) (by simp)
    · rw [if_neg hk] at hx
      exact ih (fun q hq => hs q (List.mem_cons_of_mem _ hq)) hx

def evT (env : Env) : Operand → Value
  | .tmp t => (lk env t).getD undef
  | .const v => v
  | .global g => .pointer (some ⟨g, 0, none⟩)
  | .func f => .func (.func f) #[] #[]

def known (env : Env) : Operand → Bool
  | .tmp t => (lk env t).isSome
  | _ => true

theorem Ag.eval {n : Nat} {a : Act} {env : Env} (h : Ag n a env) {x : Operand} (hk : known env x = true) : a.eval x = evT env x := by
  cases x with
  | tmp t =>
    simp only [known] at hk
    obtain ⟨v, hv⟩ := Option.isSome_iff_exists.1 hk
    simp [Act.eval, evT, hv, h.at_ t v hv]
  | _ => rfl

def notSel : Op → Bool
  | .select .. => false
  | _ => true

/-- All that an operation looks at is known. -/
def okOp (env : Env) (o : Oper) : Bool := notSel o.op && o.op.operands.toList.all (known env)

theorem Ag.exec {n : Nat} {a : Act} {env : Env} (h : Ag n a env) {o : Oper} (hk : okOp env o = true) : execOp a.eval o = execOp (evT env) o := by
  simp only [okOp, Bool.and_eq_true] at hk
  refine execOp_congr o (fun cs b e => ?_) fun x hx => h.eval ?_
  · rw [e] at hk; simp [notSel] at hk
  · have := List.all_eq_true.1 hk.2 x (by simpa using hx)
    exact this

structure Bx where
  b : Nat
  t : TypeId
  cs : List Value

def BxAt (w : World) (x : Bx) : Prop := w.heap[x.b]? = some (.cells x.cs.toArray x.t (0, 0))

/-- A row that the call itself makes and may still write. -/
structure Rw where
  v : Value
  e : TypeId
  size : Nat
  n : Nat
  xs : List Value
  own : Bool

/-- The visible memory: what is seen there is not changed any more. -/
abbrev Mem := Nat → Option Obj
def Mem.le (M M' : Mem) : Prop := ∀ b o, M b = some o → M' b = some o
def On (M : Mem) (w : World) : Prop := ∀ b o, M b = some o → w.heap[b]? = some o

theorem Mem.le.refl (M : Mem) : M.le M := fun _ _ h => h
theorem Mem.le.trans {A B C : Mem} (h : A.le B) (k : B.le C) : A.le C := fun b o q => k b o (h b o q)

theorem On.lt {M : Mem} {w : World} (h : On M w) {b : Nat} {o : Obj} (hb : M b = some o) : b < w.heap.size := (Array.getElem?_eq_some_iff.1 (h b o hb)).1
theorem On.noneAt {M : Mem} {w : World} (h : On M w) {b : Nat} (hb : w.heap.size ≤ b) : M b = none := by
  cases hm : M b with
  | none => rfl
  | some o => have := h.lt hm; omega

/-- All that stood at the entry stands, but for what was lent. -/
structure Pres (E : World) (bw : List Nat) (w : World) : Prop where
  os : w.os = E.os
  tape : w.tape = E.tape
  output : w.output = E.output
  size : E.heap.size ≤ w.heap.size
  block : ∀ k, k < E.heap.size → k ∉ bw → w.heap[k]? = E.heap[k]?

theorem Pres.refl (E : World) (bw : List Nat) : Pres E bw E := ⟨rfl, rfl, rfl, Nat.le_refl _, fun _ _ _ => rfl⟩
theorem Pres.below {E w : World} (h : Pres E [] w) : Below E.heap.size E w := ⟨h.os, h.tape, h.output, h.size, fun k hk => h.block k hk (by simp)⟩

/-- The class of worlds in which the region's reads yield what they yield. -/
structure Cx (M : Mem) (bs : List Bx) (rs : List Rw) (w : World) : Prop where
  on : On M w
  bx : ∀ x ∈ bs, BxAt w x
  rw : ∀ r ∈ rs, ∃ base, w.ownsRow base r.e r.size r.v r.n r.xs

/-- No two of what is hidden share a block. -/
structure Nd (bs : List Bx) (rs : List Rw) : Prop where
  b : (bs.map (·.b)).Nodup
  x : ∀ x ∈ bs, ∀ r ∈ rs, r.v.ownBlock ≠ some x.b
  r : rs.Pairwise fun r s => ∀ g, r.v.ownBlock = some g → s.v.ownBlock ≠ some g

theorem Nd.sub {bs bs' : List Bx} {rs rs' : List Rw} (h : Nd bs rs) (hb : bs'.Sublist bs) (hr : rs'.Sublist rs) : Nd bs' rs' :=
  ⟨h.b.sublist (hb.map _), fun x hx r hr' => h.x x (hb.subset hx) r (hr.subset hr'), h.r.sublist hr⟩

structure Sx (n : Nat) (E : World) (bw : List Nat) (M : Mem) (w : World) (a : Act) (env : Env) (bs : List Bx) (rs : List Rw) : Prop where
  ag : Ag n a env
  on : On M w
  pr : Pres E bw w
  bx : ∀ x ∈ bs, BxAt w x ∧ M x.b = none ∧ (E.heap.size ≤ x.b ∨ x.b ∈ bw)
  rw : ∀ r ∈ rs, w.ownsRow 0 r.e r.size r.v r.n r.xs ∧ ∀ g, r.v.ownBlock = some g → M g = none ∧ (E.heap.size ≤ g ∨ (r.own = false ∧ g ∈ bw))
  nd : Nd bs rs

theorem BxAt.lt {w : World} {x : Bx} (h : BxAt w x) : x.b < w.heap.size := by
  unfold BxAt at h
  rcases Nat.lt_or_ge x.b w.heap.size with h' | h'
  · exact h'
  · rw [Array.getElem?_eq_none h'] at h; cases h

theorem BxAt.cell {w : World} {x : Bx} (h : BxAt w x) (i : Nat) : w.cell? ⟨x.b, i, none⟩ = x.cs[i]? := by
  rw [cell_of_row w x.b i x.cs.toArray x.t (0, 0) h]; simp

theorem Sx.cx {n : Nat} {E : World} {bw : List Nat} {M : Mem} {w : World} {a : Act} {env : Env} {bs : List Bx} {rs : List Rw} (h : Sx n E bw M w a env bs rs) : Cx M bs rs w :=
  ⟨h.on, fun x hx => (h.bx x hx).1, fun r hr => ⟨_, (h.rw r hr).1⟩⟩

theorem Sx.act {n : Nat} {E : World} {bw : List Nat} {M : Mem} {w : World} {a a' : Act} {env env' : Env} {bs : List Bx} {rs : List Rw} (h : Sx n E bw M w a env bs rs) (hA : Ag n a' env') : Sx n E bw M w a' env' bs rs :=
  ⟨hA, h.on, h.pr, h.bx, h.rw, h.nd⟩

theorem Sx.sub {n : Nat} {E : World} {bw : List Nat} {M : Mem} {w : World} {a : Act} {env : Env} {bs : List Bx} {rs : List Rw} (h : Sx n E bw M w a env bs rs) (env' : Env) (hs : ∀ p ∈ env', lk env p.1 = some p.2) : Sx n E bw M w a env' bs rs :=
  h.act (h.ag.sub env' hs)

/-! ### What an operation yields in every world of the class -/

def Yl (P : Program) (env : Env) (M : Mem) (bs : List Bx) (rs : List Rw) (o : Oper) (v : Value) : Prop :=
  okOp env o = true ∧ ∀ w, Cx M bs rs w → (execOp (evT env) o).run P w = .ok (.value v) w

theorem Yl.pure {P : Program} {env : Env} {M : Mem} {bs : List Bx} {rs : List Rw} {o : Oper} {v : Value} (hk : okOp env o = true)
    (h : ∀ w, (execOp (evT env) o).run P w = .ok (.value v) w) : Yl P env M bs rs o v := ⟨hk, fun w _ => h w⟩

theorem Yl.eq {P : Program} {env : Env} {M : Mem} {bs : List Bx} {rs : List Rw} {o : Oper} {v v' : Value} (h : Yl P env M bs rs o v) (e : v = v') : Yl P env M bs rs o v' := e ▸ h

/-! ### Code -/

def lkX : List (Nat × (Act → World → Prop)) → Nat → Option (Act → World → Prop)
  | [], _ => none
  | (k, v) :: r, x => match Nat.beq k x with
    | true => some v
    | false => lkX r x

def QQ (N : Act → World → Prop) (X : List (Nat × (Act → World → Prop))) (R : Act → World → Prop) (Z : List PanicEntry → Act → World → Prop) : Exit → Act → World → Prop
  | .normal, a, w => N a w
  | .exit id, a, w => match lkX X id with
    | some K => K a w
    | none => False
  | .ret, a, w => R a w
  | .panic c, a, w => Z c a w
  | _, _, _ => False

def Wp (P : Program) (c : Code) (N : Act → World → Prop) (X : List (Nat × (Act → World → Prop))) (R : Act → World → Prop) (Z : List PanicEntry → Act → World → Prop) (a : Act) (w : World) : Prop :=
  Code.wp P c (QQ N X R Z) a w

section
variable {P : Program} {N J : Act → World → Prop} {X : List (Nat × (Act → World → Prop))} {R : Act → World → Prop} {Z : List PanicEntry → Act → World → Prop} {a : Act} {w : World}

theorem Wp.mono {c : Code} {N' : Act → World → Prop} (hN : ∀ a w, N a w → N' a w) (h : Wp P c N X R Z a w) : Wp P c N' X R Z a w :=
  Code.wp_mono (fun e a w q => by cases e <;> first | exact hN _ _ q | exact q) h

theorem Wp.seq {x y : Code} (h : Wp P x (fun a w => Wp P y N X R Z a w) X R Z a w) : Wp P (.seq x y) N X R Z a w :=
  wp_seq (Code.wp_mono (fun e a w q => by cases e <;> exact q) h)

theorem Wp.join {x y : Code} (J : Act → World → Prop) (h : Wp P x J X R Z a w) (hJ : ∀ a w, J a w → Wp P y N X R Z a w) : Wp P (.seq x y) N X R Z a w :=
  Wp.seq (Wp.mono hJ h)

theorem Wp.skip (h : N a w) : Wp P .skip N X R Z a w := wp_skip h
theorem Wp.ret (h : R a w) : Wp P .ret N X R Z a w := wp_ret h
theorem Wp.exit {id : Nat} {K : Act → World → Prop} (hx : lkX X id = some K) (h : K a w) : Wp P (.exit id) N X R Z a w :=
  wp_exit (by unfold QQ; simp only [hx]; exact h)

theorem Wp.block {id : Nat} {c : Code} (h : Wp P c N ((id, N) :: X) R Z a w) : Wp P (.block id c) N X R Z a w := by
  refine wp_block (Code.wp_mono (fun e a w q => ?_) h)
  cases e with
  | exit i =>
    simp only [QQ, lkX, Exit.inBlock] at q ⊢
    by_cases hi : i = id
    · subst hi
      have : Nat.beq i i = true := by simp
      simp only [this] at q
      simpa using q
    · have : Nat.beq id i = false := by
        cases hb : Nat.beq id i
        · rfl
        · exact absurd (Nat.eq_of_beq_eq_true hb).symm hi
      simp only [this] at q
      simp only [hi, if_false]
      exact q
  | _ => exact q

theorem Wp.loop {σ : Type} {c : Code} (I : σ → Act → World → Prop) (μ : σ → Nat) (s0 : σ) (h0 : I s0 a w)
    (round : ∀ s a w, I s a w → Wp P c (fun a' w' => ∃ s', I s' a' w' ∧ μ s' < μ s) X R Z a w) : Wp P (.loop c) N X R Z a w := by
  classical
  have least : ∀ m (a : Act) (w : World), (∃ s, I s a w ∧ μ s = m) → ∃ s, I s a w ∧ ∀ s', I s' a w → μ s ≤ μ s' := by
    intro m
    induction m using Nat.strongRecOn with
    | _ m ih =>
      intro a w ⟨s, hs, hm⟩
      by_cases hx : ∃ s', I s' a w ∧ μ s' < m
      · obtain ⟨s', h1, h2⟩ := hx
        exact ih _ h2 a w ⟨s', h1, rfl⟩
      · exact ⟨s, hs, fun s' h' => by
          rcases Nat.lt_or_ge (μ s') m with h2 | h2
          · exact absurd ⟨s', h', h2⟩ hx
          · omega⟩
  let M : Act → World → Nat := fun a w => if h : ∃ s, I s a w then μ (Classical.choose (least _ a w ⟨_, (Classical.choose_spec h), rfl⟩)) else 0
  have hM : ∀ s a w, I s a w → M a w ≤ μ s := by
    intro s a w hs
    have h : ∃ s, I s a w := ⟨s, hs⟩
    simp only [M, dif_pos h]
    exact (Classical.choose_spec (least _ a w ⟨_, (Classical.choose_spec h), rfl⟩)).2 s hs
  refine wp_loop (fun a w => ∃ s, I s a w) M ⟨s0, h0⟩ (fun a w hI => ?_)
  have hc := Classical.choose_spec (least _ a w ⟨_, (Classical.choose_spec hI), rfl⟩)
  have he : M a w = μ (Classical.choose (least _ a w ⟨_, (Classical.choose_spec hI), rfl⟩)) := by simp only [M, dif_pos hI]
  refine Code.wp_mono (fun e a' w' q => ?_) (round _ a w hc.1)
  cases e with
  | normal =>
    obtain ⟨s', h1, h2⟩ := q
    refine ⟨⟨s', h1⟩, ?_⟩
    rw [he]
    exact Nat.lt_of_le_of_lt (hM s' a' w' h1) h2
  | _ => exact q

theorem Wp.cond {n : Nat} {E : World} {bw : List Nat} {M : Mem} {env : Env} {bs : List Bx} {rs : List Rw} (hs : Sx n E bw M w a env bs rs) {c : Operand} {x y : Code} {b : Bool} {p : Prop}
    (hk : known env c = true) (hc : evT env c = .bool b) (hp : b = true ↔ p) (h1 : p → Wp P x N X R Z a w) (h2 : ¬ p → Wp P y N X R Z a w) : Wp P (.cond c x y) N X R Z a w := by
  refine wp_cond_split (t := b) ((hs.ag.eval hk).trans hc) (fun e => h1 (hp.1 e)) (fun e => h2 fun q => ?_)
  have := hp.2 q
  rw [e] at this
  cases this

end

/-! ### Regions in the order of the text -/

/-- What one operation comes to: a value in a world, a call. -/
def OpW (P : Program) (ρ : Operand → Value) (o : Oper) (w : World) (K : Value → World → Prop) (Z : List PanicEntry → World → Prop) : Prop :=
  match (execOp ρ o).run P w with
  | .ok (.value v) w' => K v w'
  | .ok .skip w' => K undef w'
  | .ok (.enter f args) w' => Calls P f args w' fun
    | .returned v, w'' => K v w''
    | .panicked c, w'' => Z c w''
    | .outgrown, _ => False
  | .halt (.panic v) w' => Z [{ v, recovered := false }] w'
  | _ => False

theorem OpW.upon {P : Program} {o : Oper} {a : Act} {w : World} {next : Act → World → Prop} {Q : Exit → Act → World → Prop} {Z : List PanicEntry → World → Prop}
    (hZ : ∀ c w, Z c w → Q (.panic c) a w)
    (h : OpW P a.eval o w (fun v w' => next (a.put o.dst v) w') Z) : o.wp P a w next Q := by
  unfold OpW at h
  unfold Oper.wp
  generalize (execOp a.eval o).run P w = r at *
  cases r with
  | ok n w' =>
    cases n <;> simp only [Oper.upon] at h ⊢ <;> try exact h
    case enter f args =>
      refine Calls.mono h fun e w'' he => ?_
      cases e with
      | returned v => exact he
      | panicked c => exact hZ _ _ he
      | outgrown => exact he.elim
  | halt x w' => cases x <;> simp only [Oper.upon] at h ⊢ <;> first | exact hZ _ _ h | exact h

section
variable {P : Program} {ops : Array Oper} {Q : Exit → Act → World → Prop} {n : Nat} {E : World} {bw : List Nat} {M : Mem} {w : World} {a : Act} {env : Env} {bs : List Bx} {rs : List Rw} {rest : List Oper} {o : Oper}

/-- A value, the world as it was. -/
theorem stepY (v : Value) {d : Nat} (hs : Sx n E bw M w a env bs rs) (hg : o.guard = none) (hd : o.dst = some d) (hdn : d < n) (hy : Yl P env M bs rs o v)
    (h : ∀ a', Sx n E bw M w a' ((d, v) :: env) bs rs → wpList P ops Q rest a' w) : wpList P ops Q (o :: rest) a w := by
  refine wpList_plain hg fun K hK => ?_
  have he : (execOp a.eval o).run P w = .ok (.value v) w := by rw [hs.ag.exec hy.1]; exact hy.2 w hs.cx
  unfold Oper.wp
  rw [he]
  refine hK _ _ ?_
  rw [hd]
  exact h _ (hs.act (hs.ag.put hdn v))

theorem yielded_of {j t : Nat} {b : Bool} (hs : Sx n E bw M w a env bs rs) (ht : (ops[j]?).bind (·.dst) = some t) (hl : lk env t = some (.bool b)) : yielded ops a.tmps j = some b := by
  have hlt : t < a.tmps.size := by
    rcases Nat.lt_or_ge t a.tmps.size with h' | h'
    · exact h'
    · have := hs.ag.at_ t _ hl
      simp [Array.getElem?_eq_none h', undef] at this
  have hat : a.tmps[t]? = some (.bool b) := by
    have := hs.ag.at_ t _ hl
    simp only [Array.getD_eq_getD_getElem?, Array.getElem?_eq_getElem hlt, Option.getD_some] at this ⊢
    rw [this]
  simp [yielded, ht, hat]

/-- A guard that says yes. -/
theorem step_yes {j t : Nat} {b : Bool} (hs : Sx n E bw M w a env bs rs) (hg : o.guard = some (j, b)) (ht : (ops[j]?).bind (·.dst) = some t) (hl : lk env t = some (.bool b))
    (h : wpList P ops Q ({ o with guard := none } :: rest) a w) : wpList P ops Q (o :: rest) a w := by
  have hw : Region.wanted o (yielded ops a.tmps) = true := by simp [Region.wanted, hg, yielded_of hs ht hl]
  unfold wpList at h ⊢
  rw [if_pos (by simp [Region.wanted])] at h
  rw [if_pos hw]
  exact h

theorem step_no {j t d : Nat} {b c : Bool} (hs : Sx n E bw M w a env bs rs) (hg : o.guard = some (j, b)) (ht : (ops[j]?).bind (·.dst) = some t) (hl : lk env t = some (.bool c)) (hne : (c == b) = false)
    (hd : o.dst = some d) (hdn : d < n) (h : ∀ a', Sx n E bw M w a' ((d, undef) :: env) bs rs → wpList P ops Q rest a' w) : wpList P ops Q (o :: rest) a w := by
  have hw : Region.wanted o (yielded ops a.tmps) = false := by
    simp [Region.wanted, hg, yielded_of hs ht hl]
    simpa using hne
  unfold wpList
  rw [if_neg (by simp [hw]), hd]
  exact h _ (hs.act (hs.ag.put hdn undef))

theorem step_nou {j t d : Nat} {b : Bool} (hs : Sx n E bw M w a env bs rs) (hg : o.guard = some (j, b)) (ht : (ops[j]?).bind (·.dst) = some t) (hl : lk env t = some undef)
    (hd : o.dst = some d) (hdn : d < n) (h : ∀ a', Sx n E bw M w a' ((d, undef) :: env) bs rs → wpList P ops Q rest a' w) : wpList P ops Q (o :: rest) a w := by
  have hy : yielded ops a.tmps j = none := by
    have := hs.ag.at_ t _ hl
    simp only [Array.getD_eq_getD_getElem?] at this
    cases hc : a.tmps[t]? with
    | none => simp [yielded, ht, hc]
    | some u => rw [hc] at this; simp only [Option.getD_some] at this; subst this; simp [yielded, ht, hc, undef]
  have hw : Region.wanted o (yielded ops a.tmps) = false := by simp [Region.wanted, hg, hy]
  unfold wpList
  rw [if_neg (by simp [hw]), hd]
  exact h _ (hs.act (hs.ag.put hdn undef))

theorem Sx.bt {d : Nat} {b : Bool} (hs : Sx n E bw M w a ((d, .bool b) :: env) bs rs) (h : b = true) : Sx n E bw M w a ((d, .bool true) :: env) bs rs := h ▸ hs
theorem Sx.bf {d : Nat} {b : Bool} (hs : Sx n E bw M w a ((d, .bool b) :: env) bs rs) (h : b = false) : Sx n E bw M w a ((d, .bool false) :: env) bs rs := h ▸ hs
end

theorem bsplit {G : Prop} (b : Bool) {p : Prop} (hp : b = true ↔ p) (h1 : b = true → p → G) (h2 : b = false → ¬ p → G) : G := by
  cases hb : b
  · exact h2 hb fun q => by rw [hp.2 q] at hb; cases hb
  · exact h1 hb (hp.1 hb)

section
variable {P : Program} {N : Act → World → Prop} {X : List (Nat × (Act → World → Prop))} {R : Act → World → Prop} {Z : List PanicEntry → Act → World → Prop} {a : Act} {w : World}

/-- A region in the order of its text. -/
theorem Wp.region {id : Nat} {l : List Oper} (h : wpList P l.toArray (QQ N X R Z) l a w) : Wp P (.region id l.toArray false) N X R Z a w := wp_region_lit h
theorem Wr.nil {ops : Array Oper} (h : N a w) : wpList P ops (QQ N X R Z) [] a w := h
end

/-! ### Entering and leaving -/

def argEnv : List Value → Nat → Env
  | [], _ => []
  | v :: r, i => (i, v) :: argEnv r (i + 1)

theorem lk_argEnv (l : List Value) : ∀ (i x : Nat) (v : Value), lk (argEnv l i) x = some v → i ≤ x ∧ l[x - i]? = some v := by
  induction l with
  | nil => intro i x v h; cases h
  | cons u r ih =>
    intro i x v h
    rw [argEnv, lk_cons] at h
    by_cases hx : i = x
    · subst hx; simpa using h
    · rw [if_neg hx] at h
      obtain ⟨h1, h2⟩ := ih (i + 1) x v h
      refine ⟨by omega, ?_⟩
      obtain ⟨k, rfl⟩ : ∃ k, x = i + 1 + k := ⟨x - (i + 1), by omega⟩
      rw [show i + 1 + k - i = k + 1 by omega]
      rw [show i + 1 + k - (i + 1) = k by omega] at h2
      simpa using h2

theorem enter {P : Program} {f : FuncId} {fn : Func} {c : Code} {l : List Value} {w : World} {Rf : Ending → World → Prop} {M : Mem}
    (hf : P.funcs[f]? = some fn) (hb : fn.body = some c) (n : Nat) (hn : fn.ntmps = n) (hl : l.length ≤ n) (hon : On M w) (lent : List Bx)
    (hlent : ∀ x ∈ lent, BxAt w x ∧ M x.b = none) (hnd : (lent.map (·.b)).Nodup)
    (h : ∀ a, Sx n w (lent.map (·.b)) M w a (argEnv l 0) lent [] → Wp P c (fun a w => bodyPost P fn Rf .normal a w) [] (fun a w => bodyPost P fn Rf .ret a w) (fun ch a w => bodyPost P fn Rf (.panic ch) a w) a w) :
    Calls P f l.toArray w Rf := by
  refine calls_of_wp hf hb ?_
  refine Code.wp_mono (fun e a w q => ?_) (h _ ⟨⟨rfl, ?_, fun x v hx => ?_⟩, hon, Pres.refl _ _, fun x hx => ⟨(hlent x hx).1, (hlent x hx).2, .inr (List.mem_map.2 ⟨x, hx, rfl⟩)⟩, (fun r hr => by cases hr), ⟨hnd, (fun _ _ r hr => by cases hr), List.Pairwise.nil⟩⟩)
  · cases e <;> first | exact q | exact False.elim q
  · simp [hn]; omega
  · obtain ⟨_, h2⟩ := lk_argEnv l 0 x v hx
    simp only [Nat.sub_zero] at h2
    have hx' : x < l.length := by
      rcases Nat.lt_or_ge x l.length with h' | h'
      · exact h'
      · rw [List.getElem?_eq_none h'] at h2; cases h2
    simp only [Array.getD_eq_getD_getElem?]
    rw [Array.getElem?_append_left (by simpa using hx')]
    simp [h2]

/-- What the caller's memory shows behind a call: what it showed, and all that is new. -/
def grow (M : Mem) (w w' : World) : Mem := fun b => if w.heap.size ≤ b then w'.heap[b]? else M b

theorem grow_le {M : Mem} {w w' : World} (h : On M w) : M.le (grow M w w') := by
  intro b o hb
  have := h.lt hb
  unfold grow
  rw [if_neg (by omega)]
  exact hb

theorem grow_on {M : Mem} {w w' : World} (h : On M w) (hb : ∀ k, k < w.heap.size → (M k).isSome = true → w'.heap[k]? = w.heap[k]?) : On (grow M w w') w' := by
  intro b o ho
  unfold grow at ho
  by_cases hk : w.heap.size ≤ b
  · rw [if_pos hk] at ho; exact ho
  · rw [if_neg hk] at ho
    rw [hb b (by omega) (by rw [ho]; rfl)]
    exact h b o ho

/-- A call that leaves all that was there as it was. -/
def CallE (P : Program) (f : FuncId) (args : Array Value) (M : Mem) (K : Value → Mem → Prop) : Prop :=
  ∀ w, On M w → Calls P f args w fun e w' => ∃ v, e = .returned v ∧ Below w.heap.size w w' ∧ K v (grow M w w')

theorem CallE.mono {P : Program} {f : FuncId} {args : Array Value} {M : Mem} {K K' : Value → Mem → Prop} (h : CallE P f args M K) (hK : ∀ v M', M.le M' → K v M' → K' v M') : CallE P f args M K' :=
  fun w hw => (h w hw).mono fun _ _ ⟨v, h1, h2, h3⟩ => ⟨v, h1, h2, hK v _ (grow_le hw) h3⟩

theorem enterE {P : Program} {f : FuncId} {fn : Func} {c : Code} {l : List Value} {M : Mem} {K : Value → Mem → Prop}
    (hf : P.funcs[f]? = some fn) (hb : fn.body = some c) (n : Nat) (hn : fn.ntmps = n) (hl : l.length ≤ n)
    (h : ∀ w a, Sx n w [] M w a (argEnv l 0) [] [] → Wp P c (fun a' w' => a'.defers = [] ∧ ∃ v, (results fn a'.tmps).run P w' = .ok v w' ∧ Below w.heap.size w w' ∧ K v (grow M w w')) []
      (fun a' w' => a'.defers = [] ∧ ∃ v, (results fn a'.tmps).run P w' = .ok v w' ∧ Below w.heap.size w w' ∧ K v (grow M w w')) (fun _ _ _ => False) a w) :
    CallE P f l.toArray M K := by
  intro w hw
  refine enter (Rf := fun e w' => ∃ v, e = .returned v ∧ Below w.heap.size w w' ∧ K v (grow M w w')) hf hb n hn hl hw [] (by simp) (by simp) (fun a hs => ?_)
  refine Code.wp_mono (fun e a' w' q => ?_) (h w a (by simpa using hs))
  cases e with
  | normal => obtain ⟨h1, v, h2, h3, h4⟩ := q; exact ⟨h1, v, h2, v, rfl, h3, h4⟩
  | ret => obtain ⟨h1, v, h2, h3, h4⟩ := q; exact ⟨h1, v, h2, v, rfl, h3, h4⟩
  | _ => exact q.elim

theorem leaveE {P : Program} {fn : Func} {n : Nat} {E : World} {M0 M : Mem} {w : World} {a : Act} {env : Env} {bs : List Bx} {rs : List Rw} {K : Value → Mem → Prop} {v : Value}
    (hs : Sx n E [] M w a env bs rs) (hr : (results fn a.tmps).run P w = .ok v w) (hM : ∀ b o, M b = some o → M0 b = some o ∨ E.heap.size ≤ b) (hK : ∀ M', M.le M' → K v M') :
    a.defers = [] ∧ ∃ v, (results fn a.tmps).run P w = .ok v w ∧ Below E.heap.size E w ∧ K v (grow M0 E w) := by
  refine ⟨hs.ag.df, v, hr, hs.pr.below, hK _ fun b o hb => ?_⟩
  unfold grow
  by_cases hk : E.heap.size ≤ b
  · rw [if_pos hk]; exact hs.on b o hb
  · rw [if_neg hk]
    rcases hM b o hb with h | h
    · exact h
    · omega

/-- The results that lie in slots. -/
theorem resT {P : Program} {fn : Func} {n : Nat} {E : World} {bw : List Nat} {M : Mem} {w : World} {a : Act} {env : Env} {bs : List Bx} {rs : List Rw} {t : Nat} {v : Value} (hs : Sx n E bw M w a env bs rs) (hr : fn.results = #[.tmp t]) (hv : lk env t = some v) :
    (results fn a.tmps).run P w = .ok v w := by rw [results_tmp hr, hs.ag.at_ t v hv]
theorem res {P : Program} {fn : Func} {n : Nat} {E : World} {bw : List Nat} {M : Mem} {w : World} {a : Act} {env : Env} {bs : List Bx} {rs : List Rw} (_hs : Sx n E bw M w a env bs rs) (hr : fn.results = #[]) :
    (results fn a.tmps).run P w = .ok (.tuple #[]) w := results_none hr _ _ _
theorem resTT {P : Program} {fn : Func} {n : Nat} {E : World} {bw : List Nat} {M : Mem} {w : World} {a : Act} {env : Env} {bs : List Bx} {rs : List Rw} {t u : Nat} {v x : Value} (hs : Sx n E bw M w a env bs rs) (hr : fn.results = #[.tmp t, .tmp u]) (hv : lk env t = some v) (hx : lk env u = some x) :
    (results fn a.tmps).run P w = .ok (.tuple #[v, x]) w := by rw [results_tmp2 hr, hs.ag.at_ t v hv, hs.ag.at_ u x hx]

/-! ### Operations that yield -/

theorem add_lit (b o n : Nat) : (⟨b, o, none⟩ : Addr).add n = ⟨b, o + n, none⟩ := by unfold Addr.add; split <;> simp_all

theorem run_load_one {P : Program} {w : World} {a : Addr} {v : Value} {t : TypeId} {d : TypeDesc} (hu : P.underlying t = some d) (hd : (match d with | .struct _ | .array _ _ => true | _ => false) = false)
    (h : w.cell? a = some v) : (loadVar t a).run P w = .ok v w := by
  cases d <;> simp at hd <;> simp [loadVar, isAgg, run_underlying hu, h, go_sem]

theorem run_load_agg {P : Program} {w : World} {a : Addr} {vs : List Value} {t : TypeId} {d : TypeDesc} {n : Nat} (hu : P.underlying t = some d) (hd : (match d with | .struct _ | .array _ _ => true | _ => false) = true)
    (hn : (P.info? t).map (·.size) = some n) (hl : vs.length = n) (h : ∀ j v, vs[j]? = some v → w.cell? (a.add j) = some v) : (loadVar t a).run P w = .ok (.agg vs.toArray) w := by
  subst hl
  have hls := run_loadCells_list (P := P) w a vs h
  cases hi : P.info? t with
  | none => simp [hi] at hn
  | some i =>
    simp [hi] at hn
    rw [← hn] at hls
    cases d <;> simp at hd <;> simp [loadVar, isAgg, run_underlying hu, sizeOf, typeInfo, hi, hls]

def isAggD : Option TypeDesc → Bool
  | some (.struct _) | some (.array _ _) => true
  | _ => false

def Mem.cell (M : Mem) (b i : Nat) : Option Value := match M b with
  | some (.cells c _ _) => c[i]?
  | _ => none

theorem On.cell {M : Mem} {w : World} (h : On M w) {b i : Nat} {v : Value} (hc : M.cell b i = some v) : w.cell? ⟨b, i, none⟩ = some v := by
  unfold Mem.cell at hc
  split at hc
  · rename_i c e f hm
    rw [cell_of_row w b i c e f (h _ _ hm)]
    exact hc
  · cases hc

theorem Mem.le.cell {M M' : Mem} (h : M.le M') {b i : Nat} {v : Value} (hc : M.cell b i = some v) : M'.cell b i = some v := by
  unfold Mem.cell at hc ⊢
  split at hc
  · rename_i c e f hm
    rw [h _ _ hm]
    exact hc
  · cases hc

/-- Cells that follow one another in the visible memory. -/
def At (M : Mem) (b o : Nat) (vs : List Value) : Prop := ∀ j v, vs[j]? = some v → M.cell b (o + j) = some v

theorem At.le {M M' : Mem} {b o : Nat} {vs : List Value} (h : At M b o vs) (hl : M.le M') : At M' b o vs := fun j v hj => hl.cell (h j v hj)

theorem At.part {M : Mem} {b o : Nat} {vs : List Value} (h : At M b o vs) (k : Nat) (us : List Value) (hk : (vs.drop k).take us.length = us) : At M b (o + k) us := by
  intro j u hj
  rw [Nat.add_assoc]
  refine h _ _ ?_
  have hjl : j < us.length := (List.getElem?_eq_some_iff.1 hj).1
  rw [← hk, List.getElem?_take, if_pos hjl, List.getElem?_drop] at hj
  exact hj

/-- What a load of type t makes of these cells. -/
def ofCells (agg : Bool) (vs : List Value) : Value :=
  match agg, vs with
  | false, [v] => v
  | _, vs => .agg vs.toArray

theorem run_load_at {P : Program} {w : World} {b o : Nat} {vs : List Value} {t : TypeId} {g : Bool} (hg : isAggD (P.underlying t) = g) (hsome : (P.underlying t).isSome = true)
    (hn : (P.info? t).map (·.size) = some vs.length) (h1 : g = false → vs.length = 1) (h : ∀ j v, vs[j]? = some v → w.cell? ⟨b, o + j, none⟩ = some v) : (loadVar t ⟨b, o, none⟩).run P w = .ok (ofCells g vs) w := by
  cases hu : P.underlying t with
  | none => simp [hu] at hsome
  | some d =>
    rw [hu] at hg
    cases g with
    | true =>
      rw [run_load_agg (d := d) hu (by cases d <;> simp_all [isAggD]) hn rfl (fun j v hj => by rw [add_lit]; exact h j v hj)]
      cases vs with
      | nil => rfl
      | cons v r => rfl
    | false =>
      obtain ⟨v, rfl⟩ : ∃ v, vs = [v] := List.length_eq_one_iff.1 (h1 rfl)
      exact run_load_one (d := d) hu (by cases d <;> simp_all [isAggD]) (h 0 v rfl)

/-- The facts on a type that a load asks. -/
def tyOk (P : Program) (t : TypeId) (g : Bool) (k : Nat) : Bool := isAggD (P.underlying t) == g && (P.underlying t).isSome && ((P.info? t).map (·.size)) == some k && (g || k == 1)

theorem tyOk_spec {P : Program} {t : TypeId} {g : Bool} {k : Nat} (h : tyOk P t g k = true) : isAggD (P.underlying t) = g ∧ (P.underlying t).isSome = true ∧ (P.info? t).map (·.size) = some k ∧ (g = false → k = 1) := by
  simp only [tyOk, Bool.and_eq_true, beq_iff_eq, Bool.or_eq_true] at h
  obtain ⟨⟨⟨h1, h2⟩, h3⟩, h4⟩ := h
  exact ⟨h1, h2, h3, fun e => by rcases h4 with h4 | h4; · rw [e] at h4; cases h4
                                 · exact h4⟩

section
variable {P : Program} {env : Env} {M : Mem} {bs : List Bx} {rs : List Rw} {o : Oper}

/-- A load out of the visible memory. -/
theorem Yl.loadV {d : Option Tmp} {t ty : TypeId} {x : Operand} {pos : String} {af : Array Edge} {gd : Option (Nat × Bool)} {b k : Nat} {vs : List Value} (g : Bool) (hk : known env x = true) (hx : evT env x = .pointer (some ⟨b, k, none⟩))
    (ht : tyOk P t g vs.length = true) (h : At M b k vs) :
    Yl P env M bs rs ⟨d, .load t x, ty, pos, af, gd⟩ (ofCells g vs) := by
  obtain ⟨h1, h2, h3, h4⟩ := tyOk_spec ht
  refine ⟨by simp [okOp, notSel, Op.operands, hk], fun w hc => ?_⟩
  have := run_load_at (P := P) h1 h2 h3 h4 (fun j v hj => hc.on.cell (h j v hj))
  simp [execOp, Instr.loadAt, hx, Instr.sureAddr, this]

/-- A load out of a box of the call's own. -/
theorem Yl.loadB {d : Option Tmp} {t ty : TypeId} {x : Operand} {pos : String} {af : Array Edge} {gd : Option (Nat × Bool)} {b k : Nat} {cs vs : List Value} (g : Bool) (i : Nat) {bt : TypeId} (hi : bs[i]? = some ⟨b, bt, cs⟩) (hk : known env x = true) (hx : evT env x = .pointer (some ⟨b, k, none⟩))
    (ht : tyOk P t g vs.length = true) (hvs : (cs.drop k).take vs.length = vs) :
    Yl P env M bs rs ⟨d, .load t x, ty, pos, af, gd⟩ (ofCells g vs) := by
  obtain ⟨h1, h2, h3, h4⟩ := tyOk_spec ht
  refine ⟨by simp [okOp, notSel, Op.operands, hk], fun w hc => ?_⟩
  have hb := hc.bx _ (List.mem_of_getElem? hi)
  have hat : ∀ j v, vs[j]? = some v → w.cell? ⟨b, k + j, none⟩ = some v := by
    intro j v hj
    rw [hb.cell]
    show cs[k + j]? = some v
    have hjl : j < vs.length := (List.getElem?_eq_some_iff.1 hj).1
    rw [← hvs, List.getElem?_take, if_pos hjl, List.getElem?_drop] at hj
    exact hj
  have := run_load_at (P := P) h1 h2 h3 h4 hat
  simp [execOp, Instr.loadAt, hx, Instr.sureAddr, this]

/-- An element's address in a slice. -/
theorem Yl.indexS {d : Option Tmp} {t e ty : TypeId} {x i : Operand} {pos : String} {af : Array Edge} {gd : Option (Nat × Bool)} {b k l c sz : Nat} {ik : IntKind} {n : Int} {ad : Option Addr} (hkx : known env x = true) (hki : known env i = true)
    (hx : evT env x = .slice ad l c) (hi : evT env i = .int ik n) (hu : P.underlying t = some (.slice e)) (hn : (P.info? e).map (·.size) = some sz) (had : ad = some ⟨b, k, none⟩) (h0 : 0 ≤ n) (hl : n < l) :
    Yl P env M bs rs ⟨d, .indexAddr t x i, ty, pos, af, gd⟩ (.pointer (some ⟨b, k + n.toNat * sz, none⟩)) := by
  subst had
  refine ⟨by simp [okOp, notSel, Op.operands, hkx, hki], fun w _ => ?_⟩
  cases hi' : P.info? e with
  | none => simp [hi'] at hn
  | some ti =>
    simp [hi'] at hn
    simp [execOp, Instr.indexAt, hx, hi, asIntOf, run_underlying hu, sizeOf, typeInfo, hi', h0, hl, go_sem, hn, add_lit]

/-- An element's address in an array that lies behind a pointer. -/
theorem Yl.indexA {d : Option Tmp} {t e ty : TypeId} {x i : Operand} {pos : String} {af : Array Edge} {gd : Option (Nat × Bool)} {b k l sz : Nat} {ik : IntKind} {n : Int} (hkx : known env x = true) (hki : known env i = true)
    (hx : evT env x = .pointer (some ⟨b, k, none⟩)) (hi : evT env i = .int ik n) (hu : P.underlying t = some (.array l e)) (hn : (P.info? e).map (·.size) = some sz) (h0 : 0 ≤ n) (hl : n < l) :
    Yl P env M bs rs ⟨d, .indexAddr t x i, ty, pos, af, gd⟩ (.pointer (some ⟨b, k + n.toNat * sz, none⟩)) := by
  refine ⟨by simp [okOp, notSel, Op.operands, hkx, hki], fun w _ => ?_⟩
  cases hi' : P.info? e with
  | none => simp [hi'] at hn
  | some ti =>
    simp [hi'] at hn
    simp [execOp, Instr.indexAt, hx, hi, asIntOf, run_underlying hu, sizeOf, typeInfo, hi', h0, hl, go_sem, hn, add_lit, Instr.sureAddr]
end

/-! ### Operations that turn the world -/

section
variable {P : Program} {ops : Array Oper} {Q : Exit → Act → World → Prop} {n : Nat} {E : World} {bw : List Nat} {M : Mem} {w : World} {a : Act} {env : Env} {bs : List Bx} {rs : List Rw} {rest : List Oper} {o : Oper} {Z : List PanicEntry → World → Prop}

/-- Behind an operation: the frame and the world in their new state. -/
theorem stepK {d : Nat} (hs : Sx n E bw M w a env bs rs) (hZ : ∀ c w, Z c w → Q (.panic c) a w) (hg : o.guard = none) (hk : okOp env o = true) (hd : o.dst = some d) (hdn : d < n)
    (h : OpW P (evT env) o w (fun v w' => ∀ a', Ag n a' ((d, v) :: env) → wpList P ops Q rest a' w') Z) : wpList P ops Q (o :: rest) a w := by
  refine wpList_plain hg fun K hK => ?_
  refine OpW.upon (Z := Z) hZ ?_
  unfold OpW at h ⊢
  rw [hs.ag.exec hk]
  have key : ∀ v w', (∀ a', Ag n a' ((d, v) :: env) → wpList P ops Q rest a' w') → K (a.put o.dst v) w' := by
    intro v w' hh
    exact hK _ _ (hh _ (by rw [hd]; exact hs.ag.put hdn v))
  generalize (execOp (evT env) o).run P w = r at *
  cases r with
  | ok x w' =>
    cases x <;> simp only at h ⊢ <;> try exact key _ _ h
    case enter f args =>
      refine Calls.mono h fun e w'' he => ?_
      cases e with
      | returned v => exact key _ _ he
      | panicked c => exact he
      | outgrown => exact he
    all_goals exact h
  | halt x w' => cases x <;> simp only at h ⊢ <;> exact h

theorem stepK0 (hs : Sx n E bw M w a env bs rs) (hZ : ∀ c w, Z c w → Q (.panic c) a w) (hg : o.guard = none) (hk : okOp env o = true) (hd : o.dst = none)
    (h : OpW P (evT env) o w (fun _ w' => ∀ a', Ag n a' env → wpList P ops Q rest a' w') Z) : wpList P ops Q (o :: rest) a w := by
  refine wpList_plain hg fun K hK => ?_
  refine OpW.upon (Z := Z) hZ ?_
  unfold OpW at h ⊢
  rw [hs.ag.exec hk]
  have key : ∀ (v : Value) w', (∀ a', Ag n a' env → wpList P ops Q rest a' w') → K (a.put o.dst v) w' := by
    intro v w' hh
    exact hK _ _ (hh _ (by rw [hd]; exact hs.ag))
  generalize (execOp (evT env) o).run P w = r at *
  cases r with
  | ok x w' =>
    cases x <;> simp only at h ⊢ <;> try exact key _ _ h
    case enter f args =>
      refine Calls.mono h fun e w'' he => ?_
      cases e with
      | returned v => exact key v _ he
      | panicked c => exact he
      | outgrown => exact he
    all_goals exact h
  | halt x w' => cases x <;> simp only at h ⊢ <;> exact h

theorem OpW.of_run {ρ : Operand → Value} {w' : World} {v : Value} {K : Value → World → Prop}
    (h : (execOp ρ o).run P w = .ok (.value v) w') (hK : K v w') : OpW P ρ o w K Z := by unfold OpW; rw [h]; exact hK
theorem OpW.of_skip {ρ : Operand → Value} {w' : World} {K : Value → World → Prop}
    (h : (execOp ρ o).run P w = .ok .skip w') (hK : K undef w') : OpW P ρ o w K Z := by unfold OpW; rw [h]; exact hK

/-- New blocks at the end, all else as it was. -/
theorem Sx.later {w' : World} {M' : Mem} (hs : Sx n E bw M w a env bs rs) (hb : Below w.heap.size w w') (hon : On M' w') (hM : ∀ b, b < w.heap.size → M' b = M b) : Sx n E bw M' w' a env bs rs := by
  refine ⟨hs.ag, hon, ?_, fun x hx => ?_, fun r hr => ?_, hs.nd⟩
  · obtain ⟨h1, h2, h3, h4, h5⟩ := hs.pr
    exact ⟨hb.os.trans h1, hb.tape.trans h2, hb.output.trans h3, Nat.le_trans h4 hb.size, fun k hk hn => (hb.block k (by omega)).trans (h5 k hk hn)⟩
  · obtain ⟨h1, h2, h3⟩ := hs.bx x hx
    exact ⟨(hb.block _ h1.lt).trans h1, (hM _ h1.lt).trans h2, h3⟩
  · obtain ⟨h1, h2⟩ := hs.rw r hr
    refine ⟨?_, fun g hg => ⟨(hM g (h1.lt g hg).2).trans (h2 g hg).1, (h2 g hg).2⟩⟩
    refine ⟨h1.1, ?_⟩
    rcases h1.2 with hn | ⟨g, cap, cur, hv, hbg, hgg, r3⟩
    · exact .inl hn
    · exact .inr ⟨g, cap, cur, hv, hbg, (hb.block g (Array.getElem?_eq_some_iff.1 hgg).1).trans hgg, r3⟩

theorem On.later {w' : World} (h : On M w) (hb : Below w.heap.size w w') : On M w' := fun b o q => (hb.block b (h.lt q)).trans (h b o q)

theorem Sx.new (hs : Sx n E bw M w a env bs rs) (cs : List Value) (t : TypeId) {a' : Act} {env' : Env} (hA : Ag n a' env') : Sx n E bw M (w.alloc (.cells cs.toArray t)) a' env' (⟨w.heap.size, t, cs⟩ :: bs) rs := by
  have hb : Below w.heap.size w (w.alloc (.cells cs.toArray t)) := (Below.refl _ w).alloc (Nat.le_refl _) _
  have h1 := (hs.later hb (hs.on.later hb) (fun _ _ => rfl)).act hA
  refine ⟨hA, h1.on, h1.pr, fun x hx => ?_, h1.rw, ?_⟩
  · rcases List.mem_cons.1 hx with rfl | hx
    · exact ⟨heap_alloc_new w _, hs.on.noneAt (Nat.le_refl _), .inl hs.pr.size⟩
    · exact h1.bx x hx
  · refine ⟨?_, fun x hx r hr => ?_, hs.nd.r⟩
    · rw [List.map_cons, List.nodup_cons]
      refine ⟨fun hm => ?_, hs.nd.b⟩
      obtain ⟨x, hx, he⟩ := List.mem_map.1 hm
      have := (hs.bx x hx).1.lt
      simp only at he
      omega
    · rcases List.mem_cons.1 hx with rfl | hx
      · intro e
        have := ((hs.rw r hr).1.lt _ e).2
        simp only at this
        omega
      · exact hs.nd.x x hx r hr

/-- A variable of the call's own, put into a box. -/
theorem stepBox (cs : List Value) {d : Nat} {t ty : TypeId} {x : Operand} {pos : String} {af : Array Edge} {v : Value} (hs : Sx n E bw M w a env bs rs) (hk : known env x = true) (hx : evT env x = v) (hc : v.cells = cs.toArray) (hdn : d < n)
    (h : ∀ a' w' b, E.heap.size ≤ b → Sx n E bw M w' a' ((d, .pointer (some ⟨b, 0, none⟩)) :: env) (⟨b, t, cs⟩ :: bs) rs → wpList P ops Q rest a' w') : wpList P ops Q (⟨some d, .box t x, ty, pos, af, none⟩ :: rest) a w := by
  refine stepK (Z := fun _ _ => False) (d := d) hs (fun _ _ h => h.elim) rfl (by simp [okOp, notSel, Op.operands, hk]) rfl hdn ?_
  refine OpW.of_run (w' := w.alloc (.cells cs.toArray t)) (v := .pointer (some ⟨w.heap.size, 0, none⟩)) ?_ ?_
  · simp [execOp, Instr.box, newVar, newRow, hx, hc]
  · intro a' hA
    exact h a' _ _ hs.pr.size (hs.new cs t hA)

theorem stepAlloc (cs : List Value) {d : Nat} {t ty : TypeId} {pos : String} {af : Array Edge} (hs : Sx n E bw M w a env bs rs) (hz : ((P.info? t).bind (·.zero)).map (·.cells) = some cs.toArray) (hdn : d < n)
    (h : ∀ a' w' b, E.heap.size ≤ b → Sx n E bw M w' a' ((d, .pointer (some ⟨b, 0, none⟩)) :: env) (⟨b, t, cs⟩ :: bs) rs → wpList P ops Q rest a' w') : wpList P ops Q (⟨some d, .alloc t, ty, pos, af, none⟩ :: rest) a w := by
  refine stepK (Z := fun _ _ => False) (d := d) hs (fun _ _ h => h.elim) rfl (by simp [okOp, notSel, Op.operands]) rfl hdn ?_
  refine OpW.of_run (w' := w.alloc (.cells cs.toArray t)) (v := .pointer (some ⟨w.heap.size, 0, none⟩)) ?_ ?_
  · cases hi : P.info? t with
    | none => simp [hi] at hz
    | some i =>
      cases hz0 : i.zero with
      | none => simp [hi, hz0] at hz
      | some z =>
        simp [hi, hz0] at hz
        simp [execOp, Instr.alloc, newVar, newRow, zeroValue, typeInfo, hi, hz0, hz]
  · intro a' hA
    exact h a' _ _ hs.pr.size (hs.new cs t hA)

/-- What a store leaves in a row. -/
def putAt (cs : List Value) (k : Nat) (vs : List Value) : List Value := cs.take k ++ vs ++ cs.drop (k + vs.length)

theorem Sx.set (hs : Sx n E bw M w a env bs rs) (i : Nat) {x : Bx} (hi : bs[i]? = some x) (cs : List Value) {a' : Act} {env' : Env} (hA : Ag n a' env') : Sx n E bw M (w.setRow x.b cs.toArray) a' env' (bs.set i ⟨x.b, x.t, cs⟩) rs := by
  have hmap : (bs.set i ⟨x.b, x.t, cs⟩).map (·.b) = bs.map (·.b) := by
    rw [List.map_set]
    apply List.ext_getElem?
    intro j
    rw [List.getElem?_set]
    by_cases hij : i = j
    · subst hij
      obtain ⟨hlt, hx⟩ := List.getElem?_eq_some_iff.1 hi
      simp [hlt, hx]
    · simp [hij]
  obtain ⟨hx1, hx2, hx3⟩ := hs.bx x (List.mem_of_getElem? hi)
  have hother : ∀ k, k ≠ x.b → (w.setRow x.b cs.toArray).heap[k]? = w.heap[k]? := by
    intro k hk
    simp only [World.setRow, Array.getElem?_modify]
    rw [if_neg (by omega)]
  have hnd1 : (bs.map (·.b)).Nodup := hs.nd.b
  refine ⟨hA, fun b o hb => ?_, ?_, fun y hy => ?_, fun r hr => ?_, ?_⟩
  · rw [hother b (by rintro rfl; rw [hx2] at hb; cases hb)]; exact hs.on b o hb
  · obtain ⟨h1, h2, h3, h4, h5⟩ := hs.pr
    refine ⟨h1, h2, h3, by simpa [World.setRow] using h4, fun k hk hn => ?_⟩
    rw [hother k (by
      rintro rfl
      rcases hx3 with h | h
      · omega
      · exact hn h)]
    exact h5 k hk hn
  · obtain ⟨j, hj⟩ := List.mem_iff_getElem?.1 hy
    rw [List.getElem?_set] at hj
    by_cases hij : i = j
    · subst hij
      rw [if_pos rfl] at hj
      have hlt : i < bs.length := (List.getElem?_eq_some_iff.1 hi).1
      rw [if_pos hlt] at hj
      simp only [Option.some.injEq] at hj
      subst hj
      exact ⟨setRow_heap w x.b x.cs.toArray cs.toArray x.t (0, 0) hx1, hx2, hx3⟩
    · rw [if_neg hij] at hj
      have hne : y.b ≠ x.b := by
        intro e
        have h1 : (bs.map (·.b))[i]? = some x.b := by simp [hi]
        have h2 : (bs.map (·.b))[j]? = some x.b := by simp [hj, e]
        have hl1 : i < (bs.map (·.b)).length := (List.getElem?_eq_some_iff.1 h1).1
        exact hij ((List.getElem?_inj hl1 hnd1).1 (h1.trans h2.symm))
      obtain ⟨g1, g2, g3⟩ := hs.bx y (List.mem_of_getElem? hj)
      exact ⟨(hother _ hne).trans g1, g2, g3⟩
  · obtain ⟨g1, g2⟩ := hs.rw r hr
    refine ⟨⟨g1.1, ?_⟩, g2⟩
    rcases g1.2 with hn | ⟨g, cap, cur, hv, hbg, hgg, r3⟩
    · exact .inl hn
    · refine .inr ⟨g, cap, cur, hv, hbg, ?_, r3⟩
      rw [hother g ?_]; exact hgg
      rintro rfl
      exact hs.nd.x x (List.mem_of_getElem? hi) r hr (by rw [hv]; rfl)
  · refine ⟨by rw [hmap]; exact hs.nd.b, fun y hy r hr => ?_, hs.nd.r⟩
    have hy' : y.b ∈ bs.map (·.b) := by rw [← hmap]; exact List.mem_map.2 ⟨y, hy, rfl⟩
    obtain ⟨z, hz, he⟩ := List.mem_map.1 hy'
    rw [← he]
    exact hs.nd.x z hz r hr

/-- A store into a box of the call's own. -/
theorem stepStoreB (i : Nat) {t ty : TypeId} {p x : Operand} {pos : String} {af : Array Edge} {b k : Nat} {bt : TypeId} {cs vs : List Value} {v : Value} (hs : Sx n E bw M w a env bs rs) (hi : bs[i]? = some ⟨b, bt, cs⟩) (hkp : known env p = true) (hkx : known env x = true)
    (hp : evT env p = .pointer (some ⟨b, k, none⟩)) (hx : evT env x = v) (hc : v.cells = vs.toArray) (hn : (P.info? t).map (·.size) = some vs.length) (hfit : k + vs.length ≤ cs.length) (h1 : vs.all (·.oneCell') = true)
    (h : ∀ a' w', Sx n E bw M w' a' env (bs.set i ⟨b, bt, putAt cs k vs⟩) rs → wpList P ops Q rest a' w') : wpList P ops Q (⟨none, .store t p x, ty, pos, af, none⟩ :: rest) a w := by
  refine stepK0 (Z := fun _ _ => False) hs (fun _ _ h => h.elim) rfl (by simp [okOp, notSel, Op.operands, hkp, hkx]) rfl ?_
  have hb := (hs.bx _ (List.mem_of_getElem? hi)).1
  have hst := run_storeCells_at P b k bt vs 0 cs.toArray w hb (by simpa using hfit) (fun u hu => List.all_eq_true.1 h1 u hu)
  refine OpW.of_skip (w' := w.setRow b (putAt cs k vs).toArray) ?_ ?_
  · cases hin : P.info? t with
    | none => simp [hin] at hn
    | some ti =>
      simp [hin] at hn
      have e : (cs.toArray.toList.take (k + 0) ++ vs ++ cs.toArray.toList.drop (k + 0 + vs.length)).toArray = (putAt cs k vs).toArray := by simp [putAt]
      rw [e] at hst
      simp [execOp, Instr.storeAt, hp, hx, Instr.sureAddr, storeVar, hc, sizeOf, typeInfo, hin, hn, hst]
  · intro a' hA
    exact h a' _ (hs.set i hi _ hA)

theorem run_call {d : Option Tmp} {f : Nat} {ty : TypeId} {c : Call} {pos : String} {af : Array Edge} {gd : Option (Nat × Bool)} {fn : Func} {first caps : Array Value} (args : List Value)
    (hcal : ∃ x, c.callee = .value x ∧ evT env x = .func (.func f) first caps) (hargs : first.toList ++ c.args.toList.map (evT env) ++ caps.toList = args) (hf : P.funcs[f]? = some fn) (hbody : fn.body.isNone = false) (hname : (fn.name == "runtime.NumGoroutine") = false) :
    (execOp (evT env) ⟨d, .call c, ty, pos, af, gd⟩).run P w = .ok (.enter f args.toArray) w := by
  obtain ⟨x, hcal, hx⟩ := hcal
  have ha : first ++ c.args.map (evT env) ++ caps = args.toArray := by rw [← hargs]; apply Array.ext'; simp
  have hname' : ¬ fn.name = "runtime.NumGoroutine" := beq_eq_false_iff_ne.1 hname
  have hbody' : ¬ fn.body = none := by intro e; rw [e] at hbody; cases hbody
  simp [execOp, resolve, hcal, hx, Deferred.ofValue, invoke, callFunc, hf, hbody', hname', ← ha]

/-- A call that leaves all as it was: what it makes is visible behind it. -/
theorem stepCallE {d f : Nat} {ty : TypeId} {c : Call} {pos : String} {af : Array Edge} {fn : Func} {K : Value → Mem → Prop} {first caps : Array Value} (args : List Value) (hs : Sx n E bw M w a env bs rs)
    (hk : okOp env ⟨some d, .call c, ty, pos, af, none⟩ = true) (hcal : ∃ x, c.callee = .value x ∧ evT env x = .func (.func f) first caps) (hargs : first.toList ++ c.args.toList.map (evT env) ++ caps.toList = args) (hf : P.funcs[f]? = some fn) (hbody : fn.body.isNone = false) (hname : (fn.name == "runtime.NumGoroutine") = false) (hdn : d < n)
    (hc : CallE P f args.toArray M K)
    (h : ∀ a' w' M' v, M.le M' → (∀ b o, M' b = some o → M b = some o ∨ E.heap.size ≤ b) → K v M' → Sx n E bw M' w' a' ((d, v) :: env) bs rs → wpList P ops Q rest a' w') : wpList P ops Q (⟨some d, .call c, ty, pos, af, none⟩ :: rest) a w := by
  refine stepK (Z := fun _ _ => False) (d := d) hs (fun _ _ h => h.elim) rfl hk rfl hdn ?_
  unfold OpW
  rw [run_call args hcal hargs hf hbody hname]
  refine (hc w hs.on).mono fun e w' ⟨v, he, hb, hK⟩ => ?_
  subst he
  intro a' hA
  refine h a' w' _ v (grow_le hs.on) (fun b o hbo => ?_) hK ((hs.later hb (grow_on hs.on fun k hk _ => hb.block k hk) (fun b hb => ?_)).act hA)
  · unfold grow at hbo
    by_cases hk : w.heap.size ≤ b
    · exact .inr (Nat.le_trans hs.pr.size hk)
    · rw [if_neg hk] at hbo; exact .inl hbo
  · unfold grow
    rw [if_neg (by omega)]

/-- The same where only the value is wanted. -/
theorem stepCallP {d f : Nat} {ty : TypeId} {c : Call} {pos : String} {af : Array Edge} {fn : Func} {K : Value → Prop} {first caps : Array Value} (args : List Value) (hs : Sx n E bw M w a env bs rs)
    (hk : okOp env ⟨some d, .call c, ty, pos, af, none⟩ = true) (hcal : ∃ x, c.callee = .value x ∧ evT env x = .func (.func f) first caps) (hargs : first.toList ++ c.args.toList.map (evT env) ++ caps.toList = args) (hf : P.funcs[f]? = some fn) (hbody : fn.body.isNone = false) (hname : (fn.name == "runtime.NumGoroutine") = false) (hdn : d < n)
    (hc : CallE P f args.toArray M fun v _ => K v)
    (h : ∀ a' w' v, K v → Sx n E bw M w' a' ((d, v) :: env) bs rs → wpList P ops Q rest a' w') : wpList P ops Q (⟨some d, .call c, ty, pos, af, none⟩ :: rest) a w := by
  refine stepK (Z := fun _ _ => False) (d := d) hs (fun _ _ h => h.elim) rfl hk rfl hdn ?_
  unfold OpW
  rw [run_call args hcal hargs hf hbody hname]
  refine (hc w hs.on).mono fun e w' ⟨v, he, hb, hK⟩ => ?_
  subst he
  intro a' hA
  exact h a' w' v hK ((hs.later hb (hs.on.later hb) (fun _ _ => rfl)).act hA)
end

/-! ### int's bounds -/

def InI (x : Int) : Prop := -9223372036854775808 ≤ x ∧ x ≤ 9223372036854775807
theorem wrap_in {x : Int} (h : InI x) : IntKind.i64.wrap x = x := by
  exact IntWalk.i64_in x h

/-! ### Small words -/

def SubE (env : Env) : Env → Prop
  | [] => True
  | p :: r => lk env p.1 = some p.2 ∧ SubE env r

theorem SubE.mem {env : Env} : ∀ {env' : Env}, SubE env env' → ∀ p ∈ env', lk env p.1 = some p.2
  | [], _, p, h => by cases h
  | q :: r, h, p, hp => by
    rcases List.mem_cons.1 hp with rfl | hp
    · exact h.1
    · exact SubE.mem h.2 p hp

section
variable {n : Nat} {E : World} {bw : List Nat} {M : Mem} {w : World} {a : Act} {env env' : Env} {bs bs' : List Bx} {rs rs' : List Rw}

theorem Sx.weak (hs : Sx n E bw M w a env bs rs) (hb : bs'.Sublist bs) (hr : rs'.Sublist rs) (he : SubE env env') : Sx n E bw M w a env' bs' rs' :=
  ⟨hs.ag.sub env' he.mem, hs.on, hs.pr, fun x hx => hs.bx x (hb.subset hx), fun r hx => hs.rw r (hr.subset hx),
   hs.nd.sub hb hr⟩

theorem Sx.wk (hs : Sx n E bw M w a env bs rs) (he : SubE env env') : Sx n E bw M w a env' bs rs := hs.weak (List.Sublist.refl _) (List.Sublist.refl _) he

theorem Sx.chbx (hs : Sx n E bw M w a env bs rs) (h : bs = bs') : Sx n E bw M w a env bs' rs := h ▸ hs

theorem Sx.nilrow (hs : Sx n E bw M w a env bs rs) (e size : Nat) : Sx n E bw M w a env bs (⟨.slice none 0 0, e, size, 0, [], true⟩ :: rs) :=
  ⟨hs.ag, hs.on, hs.pr, hs.bx, fun r hr => by
    rcases List.mem_cons.1 hr with rfl | hr
    · exact ⟨World.ownsRow_nil _ _ _ _, fun g hg => by cases hg⟩
    · exact hs.rw r hr, hs.nd.b, fun x hx r hr => by
    rcases List.mem_cons.1 hr with rfl | hr
    · intro e; cases e
    · exact hs.nd.x x hx r hr, List.Pairwise.cons (fun _ _ _ h => by cases h) hs.nd.r⟩
end

def MM (M' M : Mem) (E : World) : Prop := ∀ b o, M' b = some o → M b = some o ∨ E.heap.size ≤ b
theorem MM.next {M'' M' M : Mem} {E : World} (h : MM M' M E) (k : ∀ b o, M'' b = some o → M' b = some o ∨ E.heap.size ≤ b) : MM M'' M E :=
  fun b o q => (k b o q).elim (h b o) .inr

def MX (M' M : Mem) (E : World) : Prop := M.le M' ∧ MM M' M E
theorem MX.refl (M : Mem) (E : World) : MX M M E := ⟨Mem.le.refl M, fun _ _ h => .inl h⟩
theorem MX.next {M'' M' M : Mem} {E : World} (h : MX M' M E) (hl : M'.le M'') (k : ∀ b o, M'' b = some o → M' b = some o ∨ E.heap.size ≤ b) : MX M'' M E := ⟨h.1.trans hl, h.2.next k⟩

def mkS (l : List UInt8) : ByteArray := ⟨⟨l⟩⟩
theorem mkS_toList (l : List UInt8) : (mkS l).toList = l := by
  rw [ByteArray.toList_eq]; rfl
theorem mkS_beq {a b : List UInt8} : ((mkS a).toList == (mkS b).toList) = true ↔ a = b := by rw [mkS_toList, mkS_toList]; exact beq_iff_eq
theorem mkS_bne {a b : List UInt8} : (!((mkS a).toList == (mkS b).toList)) = true ↔ a ≠ b := by rw [mkS_toList, mkS_toList]; simp
theorem bnot_iff {b : Bool} {p : Prop} (h : b = true ↔ p) : (!b) = true ↔ ¬ p := by rw [← h]; simp

def bAnd (k : IntKind) (x y : Int) : Int := k.wrap (BitVec.ofInt k.bits x &&& BitVec.ofInt k.bits y).toNat
def bOr (k : IntKind) (x y : Int) : Int := k.wrap (BitVec.ofInt k.bits x ||| BitVec.ofInt k.bits y).toNat
def bShl (k : IntKind) (x y : Int) : Int := k.wrap (x * 2 ^ (min y.toNat k.bits))
def bShr (k : IntKind) (x y : Int) : Int := x.fdiv (2 ^ (min y.toNat k.bits))

section
variable {P : Program} {fn : Func} {n : Nat} {E : World} {bw : List Nat} {M : Mem} {w : World} {a : Act} {env : Env} {bs : List Bx} {rs : List Rw}

theorem run_cell {t : TypeId} {b k i : Nat} {bt : TypeId} {cs vs : List Value} {g : Bool} (hs : Sx n E bw M w a env bs rs) (hi : bs[i]? = some ⟨b, bt, cs⟩)
    (ht : tyOk P t g vs.length = true) (hvs : (cs.drop k).take vs.length = vs) : (loadVar t ⟨b, k, none⟩).run P w = .ok (ofCells g vs) w := by
  obtain ⟨h1, h2, h3, h4⟩ := tyOk_spec ht
  have hb := (hs.bx _ (List.mem_of_getElem? hi)).1
  refine run_load_at (P := P) h1 h2 h3 h4 (fun j v hj => ?_)
  rw [hb.cell]
  show cs[k + j]? = some v
  have hjl : j < vs.length := (List.getElem?_eq_some_iff.1 hj).1
  rw [← hvs, List.getElem?_take, if_pos hjl, List.getElem?_drop] at hj
  exact hj

theorem resC {t : TypeId} {c b k : Nat} {bt : TypeId} {cs vs : List Value} (g : Bool) (i : Nat) (hs : Sx n E bw M w a env bs rs) (hr : fn.results = #[.cell c t]) (hi : bs[i]? = some ⟨b, bt, cs⟩) (hc : lk env c = some (.pointer (some ⟨b, k, none⟩)))
    (ht : tyOk P t g vs.length = true) (hvs : (cs.drop k).take vs.length = vs) : (results fn a.tmps).run P w = .ok (ofCells g vs) w := by
  have := run_cell (P := P) hs hi ht hvs
  have h1 := hs.ag.at_ c _ hc
  simp only [results, hr]
  simp [-Array.getD_eq_getD_getElem?, h1, asAddr, this]

theorem resCTT {t : TypeId} {c b k u s : Nat} {x y : Value} {bt : TypeId} {cs vs : List Value} (g : Bool) (i : Nat) (hs : Sx n E bw M w a env bs rs) (hr : fn.results = #[.cell c t, .tmp u, .tmp s]) (hi : bs[i]? = some ⟨b, bt, cs⟩) (hc : lk env c = some (.pointer (some ⟨b, k, none⟩)))
    (ht : tyOk P t g vs.length = true) (hvs : (cs.drop k).take vs.length = vs) (hx : lk env u = some x) (hy : lk env s = some y) : (results fn a.tmps).run P w = .ok (.tuple #[ofCells g vs, x, y]) w := by
  have := run_cell (P := P) hs hi ht hvs
  have h1 := hs.ag.at_ c _ hc
  have h2 := hs.ag.at_ u x hx
  have h3 := hs.ag.at_ s y hy
  simp only [results, hr]
  simp [-Array.getD_eq_getD_getElem?, h1, asAddr, this, h2, h3]
end

end Go.Gx
