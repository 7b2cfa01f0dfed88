/-
  Regions that draw their order, over any program: operations that only read are taken first; an operation that turns the world is met when it alone may come up (or whichever may).
-/
import Derived.Test.YtifkffmecfgpeaaGx
import Derived.OrdersHeld
namespace Go.Gx
open Go.RowKit

/-- Whatever order is picked from here on; behind each operation that is marked the class holds. -/
def WpD (P : Program) (ops : Array Oper) (Q : Exit → Act → World → Prop) (C : World → Prop) (keep : List Bool) : Nat → Array Bool → Act → World → Prop
  | 0, listed, a, w => Region.ready .any ops listed = [] ∧ Q .normal a w
  | fuel + 1, listed, a, w =>
    (Region.ready .any ops listed = [] → Q .normal a w) ∧
    ∀ i ∈ Region.ready .any ops listed, wpOp P ops Q i (fun a' w' => (keep.getD i false = true → C w → C w') ∧ WpD P ops Q C keep fuel (listed.setIfInBounds i true) a' w') a w

section
variable {P : Program} {ops : Array Oper} {Q : Exit → Act → World → Prop} {C : World → Prop} {keep : List Bool}

theorem wpAny_of_WpD : ∀ (fuel : Nat) (listed : Array Bool) (a : Act) (w : World), WpD P ops Q C keep fuel listed a w → wpAny P .any ops Q fuel listed a w
  | 0, _, _, _, h => h
  | fuel + 1, _, _, _, h => ⟨h.1, fun i hi => wpOp_mono (fun a' w' h' => wpAny_of_WpD fuel _ a' w' h'.2) (h.2 i hi)⟩

/-- Nobody who could come ahead of number i disturbs it; those of A hang on it. -/
def freeB (ops : Array Oper) (keep : List Bool) (listed : Array Bool) (i : Nat) (A : List Nat) (pure : Bool) : Bool :=
  match ops[i]? with
  | none => false
  | some oi => (A.all fun j => !listed.getD j true && j != i && (match ops[j]? with
      | none => false
      | some oj => oj.after.toList.any fun e => Region.binds .any e && (e.on == i || A.contains e.on))) &&
    (List.range ops.size).all fun j => j == i || listed.getD j true || A.contains j || (match ops[j]? with
      | none => true
      | some oj => oi.apart ops oj && (keep.getD j false || pure))

def HangA (ops : Array Oper) (listed : Array Bool) (i : Nat) (A : List Nat) : Prop :=
  ∀ j ∈ A, listed.getD j true = false ∧ j ≠ i ∧ ∃ oj e, ops[j]? = some oj ∧ e ∈ oj.after ∧ Region.binds .any e = true ∧ (e.on = i ∨ e.on ∈ A)

theorem freeB_spec {listed : Array Bool} {i : Nat} {oi : Oper} {A : List Nat} {pure : Bool} (hi : ops[i]? = some oi) (h : freeB ops keep listed i A pure = true) :
    HangA ops listed i A ∧ ∀ j oj, ops[j]? = some oj → j ≠ i → listed.getD j true = false → j ∉ A → oi.apart ops oj = true ∧ (keep.getD j false = true ∨ pure = true) := by
  unfold freeB at h
  rw [hi] at h
  simp only [Bool.and_eq_true] at h
  obtain ⟨hA, hB⟩ := h
  refine ⟨fun j hj => ?_, fun j oj hj hne hl hno => ?_⟩
  · have h1 := List.all_eq_true.1 hA j hj
    simp only [Bool.and_eq_true, bne_iff_ne, Bool.not_eq_true'] at h1
    obtain ⟨⟨h1, h2⟩, h3⟩ := h1
    refine ⟨h1, h2, ?_⟩
    split at h3
    · cases h3
    · rename_i oj hoj
      obtain ⟨e, he, h4⟩ := List.any_eq_true.1 h3
      simp only [Bool.and_eq_true, Bool.or_eq_true, beq_iff_eq, List.contains_iff_mem] at h4
      exact ⟨oj, e, hoj, by simpa using he, h4.1, h4.2⟩
  · have hjlt : j < ops.size := (Array.getElem?_eq_some_iff.1 hj).1
    have h1 := List.all_eq_true.1 hB j (List.mem_range.2 hjlt)
    have hno' : A.contains j = false := by simpa using hno
    simp only [hj, Bool.or_eq_true, beq_iff_eq, hl, hno', Bool.and_eq_true] at h1
    rcases h1 with ((h1 | h1) | h1) | h1
    · exact absurd h1 hne
    · cases h1
    · cases h1
    · exact h1

theorem WpD.first {i : Nat} {oi : Oper} {v : Value} {A : List Nat} {C1 : World → Prop} (hC1 : ∀ w, C1 w → (∀ w, C1 w) ∨ C w) (hC2 : ∀ w, C w → C1 w) (hi : ops[i]? = some oi) (hsel : ∀ (j : Nat) (o : Oper) cs b, ops[j]? = some o → o.op ≠ .select cs b)
    (hQ : ∀ c a w, Q (.panic c) (a.put oi.dst v) w → Q (.panic c) a w) :
    ∀ (fuel : Nat) (listed : Array Bool) (a : Act) (w : World), HangA ops listed i A →
      (∀ j oj, ops[j]? = some oj → j ≠ i → listed.getD j true = false → j ∉ A → oi.apart ops oj = true ∧ (keep.getD j false = true ∨ ∀ w, C1 w)) →
      i ∈ Region.ready .any ops listed → YieldsIf P ops C1 oi v a → C1 w →
      WpD P ops Q C keep fuel (listed.setIfInBounds i true) (a.put oi.dst v) w → WpD P ops Q C keep (fuel + 1) listed a w := by
  intro fuel
  induction fuel with
  | zero =>
    intro listed a w _ _ hr hy hS H
    refine ⟨fun h => (by rw [h] at hr; cases hr), fun j hj => ?_⟩
    by_cases hji : j = i
    · subst hji; exact hy.wpOp hi hS ⟨fun _ h => h, H⟩
    · have := ready_mono hj hji
      rw [H.1] at this
      cases this
  | succ fuel ih =>
    intro listed a w hang hfree hr hy hS H
    refine ⟨fun h => (by rw [h] at hr; cases hr), fun j hj => ?_⟩
    by_cases hji : j = i
    · subst hji; exact hy.wpOp hi hS ⟨fun _ h => h, H⟩
    · have h1 := H.2 j (ready_mono hj hji)
      obtain ⟨hjun, oj, hoj, hall⟩ := mem_ready.1 hj
      have hun : listed.getD i true = false := (mem_ready.1 hr).1
      have hjA : j ∉ A := fun hjA => by
        obtain ⟨_, _, oj', e, hoj', he, hbd, hon⟩ := hang j hjA
        rw [hoj] at hoj'
        cases hoj'
        have h1 := hall e he hbd
        have h0 : listed.getD e.on true = false := by
          rcases hon with rfl | hon
          · exact hun
          · exact (hang _ hon).1
        rcases Nat.lt_or_ge e.on listed.size with h' | h'
        · simp [h'] at h0 h1; rw [h0] at h1; cases h1
        · simp [Array.getElem?_eq_none h'] at h1
      have hfj := hfree j oj hoj hji hjun hjA
      have h2 := wpOp_putIf hoj hfj.1 (fun cs b => hsel i oi cs b hi) (fun cs b => hsel j oj cs b hoj) hQ hy h1
      refine wpOp_mono (fun a' w' h3 => ⟨h3.2.1, ih (listed.setIfInBounds j true) a' w' (fun k hk => ?_) (fun k ok hk hki hun hno => ?_) (ready_mono hr (Ne.symm hji)) h3.1 (by
        rcases hfj.2 with hk | hall
        · rcases hC1 w hS with hall | hc
          · exact hall w'
          · exact hC2 _ (h3.2.1 hk hc)
        · exact hall w') ?_⟩) h2
      · obtain ⟨g1, g2, g3⟩ := hang k hk
        refine ⟨?_, g2, g3⟩
        rw [getD_set_ne true (by rintro rfl; exact hjA hk)]; exact g1
      · refine hfree k ok hk hki ?_ hno
        by_cases hjk : j = k
        · subst hjk; exact hjun
        · rw [getD_set_ne true hjk] at hun; exact hun
      · rw [Array.setIfInBounds_comm _ _ hji]
        exact h3.2.2
end

section
variable {P : Program} {ops : Array Oper} {Q : Exit → Act → World → Prop} {M0 : Mem} {bs0 : List Bx} {rs0 : List Rw} {keep : List Bool} {n : Nat} {E : World} {bw : List Nat} {M : Mem} {w : World} {a : Act} {env : Env} {bs : List Bx} {rs : List Rw} {o : Oper} {fuel : Nat} {listed : Array Bool}

/-- Panics hang on no temporary. -/
def QZ (Q : Exit → Act → World → Prop) : Prop := ∀ c (a : Act) d v w, Q (.panic c) (a.put d v) w → Q (.panic c) a w

theorem QZ.no {N : Act → World → Prop} {X : List (Nat × (Act → World → Prop))} {R : Act → World → Prop} : QZ (QQ N X R (fun _ _ _ => False)) := fun _ _ _ _ _ h => h

theorem wanted_none (hg : o.guard = none) : Region.wanted o (yielded ops a.tmps) = true := by simp [Region.wanted, hg]

theorem wanted_yes {j t : Nat} {b : Bool} (hs : Sx n E bw M w a env bs rs) (hg : o.guard = some (j, b)) (ht : (ops[j]?).bind (·.dst) = some t) (hl : lk env t = some (.bool b)) : Region.wanted o (yielded ops a.tmps) = true := by
  simp [Region.wanted, hg, yielded_of hs ht hl]

theorem wanted_no {j t : Nat} {b c : Bool} (hs : Sx n E bw M w a env bs rs) (hg : o.guard = some (j, b)) (ht : (ops[j]?).bind (·.dst) = some t) (hl : lk env t = some (.bool c)) (hne : (c == b) = false) : Region.wanted o (yielded ops a.tmps) = false := by
  simp [Region.wanted, hg, yielded_of hs ht hl]
  simpa using hne

/-- The class, out of what is known now. -/
theorem Sx.cxle {M0 : Mem} {bs0 : List Bx} {rs0 : List Rw} (hs : Sx n E bw M w a env bs rs) (hl : M0.le M) (hb : bs0.Sublist bs) (hr : rs0.Sublist rs) : Cx M0 bs0 rs0 w :=
  ⟨fun b o h => hs.on b o (hl b o h), fun x hx => (hs.bx x (hb.subset hx)).1, fun r hx => ⟨_, (hs.rw r (hr.subset hx)).1⟩⟩

/-- An operation that only reads is taken first. -/
theorem stepDY (v : Value) (i : Nat) (A : List Nat) {d : Nat} (hs : Sx n E bw M w a env bs rs) (hC : Cx M0 bs0 rs0 w) (hQ : QZ Q) (ho : ops[i]? = some o) (hw : Region.wanted o (yielded ops a.tmps) = true) (hd : o.dst = some d) (hdn : d < n)
    (hsel : Region.noSelect ops = true) (hr : (Region.ready .any ops listed).contains i = true) (hf : freeB ops keep listed i A false = true) (hy : Yl P env M0 bs0 rs0 o v)
    (h : ∀ a', Sx n E bw M w a' ((d, v) :: env) bs rs → WpD P ops Q (Cx M0 bs0 rs0) keep fuel (listed.setIfInBounds i true) a' w) : WpD P ops Q (Cx M0 bs0 rs0) keep (fuel + 1) listed a w := by
  refine WpD.first (v := v) (C1 := Cx M0 bs0 rs0) (fun _ h => .inr h) (fun _ h => h) ho (Region.noSelect_spec hsel) (fun c a w h => hQ c a _ _ w h) fuel listed a w (freeB_spec ho hf).1 (fun j oj h1 h2 h3 h4 => ?_) (by simpa using hr) (.inl ⟨hw, fun w' hc => ?_⟩) hC ?_
  · obtain ⟨g1, g2⟩ := (freeB_spec ho hf).2 j oj h1 h2 h3 h4
    exact ⟨g1, .inl (by simpa using g2)⟩
  · rw [hs.ag.exec hy.1]; exact hy.2 w' hc
  · rw [hd]; exact h _ (hs.act (hs.ag.put hdn v))

theorem Cx.none (w : World) : Cx (fun _ => Option.none) [] [] w := ⟨(fun _ _ h => by cases h), (fun _ h => by cases h), (fun _ h => by cases h)⟩

/-- An operation that reads nothing. -/
theorem stepDP (v : Value) (i : Nat) (A : List Nat) {d : Nat} (hs : Sx n E bw M w a env bs rs) (hQ : QZ Q) (ho : ops[i]? = some o) (hw : Region.wanted o (yielded ops a.tmps) = true) (hd : o.dst = some d) (hdn : d < n)
    (hsel : Region.noSelect ops = true) (hr : (Region.ready .any ops listed).contains i = true) (hf : freeB ops keep listed i A true = true) (hy : Yl P env (fun _ => Option.none) [] [] o v)
    (h : ∀ a', Sx n E bw M w a' ((d, v) :: env) bs rs → WpD P ops Q (Cx M0 bs0 rs0) keep fuel (listed.setIfInBounds i true) a' w) : WpD P ops Q (Cx M0 bs0 rs0) keep (fuel + 1) listed a w := by
  refine WpD.first (v := v) (C1 := fun _ => True) (fun _ _ => .inl fun _ => trivial) (fun _ _ => trivial) ho (Region.noSelect_spec hsel) (fun c a w h => hQ c a _ _ w h) fuel listed a w (freeB_spec ho hf).1 (fun j oj h1 h2 h3 h4 => ⟨((freeB_spec ho hf).2 j oj h1 h2 h3 h4).1, .inr fun _ => trivial⟩) (by simpa using hr) (.inl ⟨hw, fun w' _ => ?_⟩) trivial ?_
  · rw [hs.ag.exec hy.1]; exact hy.2 w' (Cx.none w')
  · rw [hd]; exact h _ (hs.act (hs.ag.put hdn v))

/-- An operation that is not wanted. -/
theorem stepDN (i : Nat) (A : List Nat) {d : Nat} (hs : Sx n E bw M w a env bs rs) (hQ : QZ Q) (ho : ops[i]? = some o) (hw : Region.wanted o (yielded ops a.tmps) = false) (hd : o.dst = some d) (hdn : d < n)
    (hsel : Region.noSelect ops = true) (hr : (Region.ready .any ops listed).contains i = true) (hf : freeB ops keep listed i A true = true)
    (h : ∀ a', Sx n E bw M w a' ((d, undef) :: env) bs rs → WpD P ops Q (Cx M0 bs0 rs0) keep fuel (listed.setIfInBounds i true) a' w) : WpD P ops Q (Cx M0 bs0 rs0) keep (fuel + 1) listed a w := by
  refine WpD.first (v := undef) (C1 := fun _ => True) (fun _ _ => .inl fun _ => trivial) (fun _ _ => trivial) ho (Region.noSelect_spec hsel) (fun c a w h => hQ c a _ _ w h) fuel listed a w (freeB_spec ho hf).1 (fun j oj h1 h2 h3 h4 => ⟨((freeB_spec ho hf).2 j oj h1 h2 h3 h4).1, .inr fun _ => trivial⟩) (by simpa using hr) (.inr ⟨hw, rfl⟩) trivial ?_
  rw [hd]; exact h _ (hs.act (hs.ag.put hdn undef))

/-- An operation that turns the world and alone may come up: it goes on as in the order of the text. -/
theorem stepDE (i : Nat) (ho : ops[i]? = some o) (hw : Region.wanted o (yielded ops a.tmps) = true) (hr : Region.ready .any ops listed = [i]) (ops1 : Array Oper)
    (h : wpList P ops1 (fun e a' w' => match e with
      | .normal => (keep.getD i false = true → Cx M0 bs0 rs0 w → Cx M0 bs0 rs0 w') ∧ WpD P ops Q (Cx M0 bs0 rs0) keep fuel (listed.setIfInBounds i true) a' w'
      | .panic c => Q (.panic c) a' w'
      | _ => False) [{ o with guard := none }] a w) : WpD P ops Q (Cx M0 bs0 rs0) keep (fuel + 1) listed a w := by
  refine ⟨fun h0 => (by rw [hr] at h0; cases h0), fun j hj => ?_⟩
  rw [hr, List.mem_singleton] at hj
  subst hj
  unfold wpOp
  simp only [ho, hw, if_true]
  left
  unfold wpList at h
  rw [if_pos (by simp [Region.wanted])] at h
  rcases h with h | ⟨_, a0, w0, h0⟩
  · unfold Oper.wp at h ⊢
    have he : execOp a.eval { o with guard := none } = execOp a.eval o := rfl
    rw [he] at h
    generalize (execOp a.eval o).run P w = r at *
    cases r with
    | ok x w' =>
      cases x <;> simp only [Oper.upon, wpList] at h ⊢ <;> try exact h
      case enter f args =>
        refine Calls.mono h fun e w'' he => ?_
        cases e with
        | returned v => exact he
        | panicked c => exact he
        | outgrown => obtain ⟨a0, w0, h0⟩ := he; exact h0.elim
    | halt x w' => cases x <;> simp only [Oper.upon] at h ⊢ <;> exact h
  · exact h0.elim

/-- One of several that may come up. -/
def One (P : Program) (ops : Array Oper) (Q : Exit → Act → World → Prop) (C : World → Prop) (keep : List Bool) (fuel : Nat) (listed : Array Bool) (a : Act) (w : World) (i : Nat) : Prop :=
  wpOp P ops Q i (fun a' w' => (keep.getD i false = true → C w → C w') ∧ WpD P ops Q C keep fuel (listed.setIfInBounds i true) a' w') a w

def AllOne (p : Nat → Prop) : List Nat → Prop
  | [] => True
  | i :: l => p i ∧ AllOne p l
theorem AllOne.mem {p : Nat → Prop} : ∀ {l : List Nat}, AllOne p l → ∀ i ∈ l, p i
  | _ :: _, h, i, hi => by
    rcases List.mem_cons.1 hi with rfl | hi
    · exact h.1
    · exact h.2.mem i hi

theorem WpD.ors {l : List Nat} (hr : Region.ready .any ops listed = l) (h : AllOne (One P ops Q (Cx M0 bs0 rs0) keep fuel listed a w) l) (hl : l ≠ [] := by decide) : WpD P ops Q (Cx M0 bs0 rs0) keep (fuel + 1) listed a w :=
  ⟨fun h0 => absurd (hr.symm.trans h0) hl, fun j hj => h.mem j (by rw [hr] at hj; exact hj)⟩

theorem stepOne (i : Nat) (ho : ops[i]? = some o) (hw : Region.wanted o (yielded ops a.tmps) = true) (ops1 : Array Oper)
    (h : wpList P ops1 (fun e a' w' => match e with
      | .normal => (keep.getD i false = true → Cx M0 bs0 rs0 w → Cx M0 bs0 rs0 w') ∧ WpD P ops Q (Cx M0 bs0 rs0) keep fuel (listed.setIfInBounds i true) a' w'
      | .panic c => Q (.panic c) a' w'
      | _ => False) [{ o with guard := none }] a w) : One P ops Q (Cx M0 bs0 rs0) keep fuel listed a w i := by
  unfold One wpOp
  simp only [ho, hw, if_true]
  left
  unfold wpList at h
  rw [if_pos (by simp [Region.wanted])] at h
  rcases h with h | ⟨_, a0, w0, h0⟩
  · unfold Oper.wp at h ⊢
    have he : execOp a.eval { o with guard := none } = execOp a.eval o := rfl
    rw [he] at h
    generalize (execOp a.eval o).run P w = r at *
    cases r with
    | ok x w' =>
      cases x <;> simp only [Oper.upon, wpList] at h ⊢ <;> try exact h
      case enter f args =>
        refine Calls.mono h fun e w'' he => ?_
        cases e with
        | returned v => exact he
        | panicked c => exact he
        | outgrown => obtain ⟨a0, w0, h0⟩ := he; exact h0.elim
    | halt x w' => cases x <;> simp only [Oper.upon] at h ⊢ <;> exact h
  · exact h0.elim

theorem WpD.done (hr : Region.ready .any ops listed = []) (h : Q .normal a w) : ∀ fuel, WpD P ops Q (Cx M0 bs0 rs0) keep fuel listed a w
  | 0 => ⟨hr, h⟩
  | _ + 1 => ⟨fun _ => h, by rw [hr]; simp⟩
end

theorem Sx.drew {n : Nat} {E : World} {bw : List Nat} {M : Mem} {w : World} {a : Act} {env : Env} {bs : List Bx} {rs : List Rw} (hs : Sx n E bw M w a env bs rs) : Sx n E bw M w.drew a env bs rs :=
  hs.later ⟨rfl, rfl, rfl, Nat.le_refl _, fun _ _ => rfl⟩ hs.on (fun _ _ => rfl)

/-- The beginning. -/
theorem Wp.regionD {P : Program} {N : Act → World → Prop} {X : List (Nat × (Act → World → Prop))} {R : Act → World → Prop} {Z : List PanicEntry → Act → World → Prop} {a : Act} {w : World} {n : Nat} {E : World} {bw : List Nat} {M : Mem} {env : Env} {bs : List Bx} {rs : List Rw}
    {id k : Nat} {l : List Oper} (keep : List Bool) (hs : Sx n E bw M w a env bs rs) (hm : P.follows .mixedOrders = true) (hk : l.length = k) (bs0 : List Bx) (hbs : ∀ x ∈ bs0, x ∈ bs) (rs0 : List Rw) (hrs : ∀ x ∈ rs0, x ∈ rs)
    (h : ∀ w, Sx n E bw M w a env bs rs → Cx M bs0 rs0 w → WpD P l.toArray (QQ N X R Z) (Cx M bs0 rs0) keep k (Array.replicate k false) a w) : Wp P (.region id l.toArray true) N X R Z a w := by
  subst hk
  exact wp_region_any hm (by simpa using wpAny_of_WpD _ _ _ _ (h w.drew hs.drew ⟨hs.drew.cx.on, fun x hx => hs.drew.cx.bx x (hbs x hx), fun x hx => hs.drew.cx.rw x (hrs x hx)⟩))

end Go.Gx
